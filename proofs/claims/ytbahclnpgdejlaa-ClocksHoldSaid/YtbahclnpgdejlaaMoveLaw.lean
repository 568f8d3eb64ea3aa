/- Plain law: a Move of a clock that is on keeps the balance; the turns that it tells. -/
import Derived.Test.YtbahclnpgdejlaaTurnLaw
set_option linter.unusedVariables false
namespace Go.Proofs.Ytbahclnpgdejlaa
open Go.RowKit
theorem onL_same (l l' : List Clk) (hs : List Int) (h : l.length = l'.length) : onL l hs 0 = onL l' hs 0 := by
  unfold onL
  rw [h]
  congr 1
theorem kids_mono (l : List Clk) (hs : List Int) (m : Int) (a b : Nat) (hab : a ≤ b) : kids l hs m a ≤ kids l hs m b := by
  induction b with
  | zero =>
    obtain rfl : a = 0 := by omega
    exact Int.le_refl _
  | succ b ih =>
    rcases (show a ≤ b ∨ a = b + 1 by omega) with h | rfl
    · have := ih h
      have h2 := onI_bd (hs.getD b 0)
      conv => rhs; unfold kids
      split <;> omega
    · exact Int.le_refl _
theorem kids_pos {l : List Clk} {hs : List Int} {k : Nat} (hk : k < l.length) (h0 : 0 < hs.getD k 0) : 1 ≤ kids l hs (frmAt l k) l.length := by
  have h1 := kids_mono l hs (frmAt l k) (k + 1) l.length (by omega)
  have h2 : kids l hs (frmAt l k) (k + 1) = kids l hs (frmAt l k) k + (if frmAt l k = frmAt l k then onI (hs.getD k 0) else 0) := rfl
  rw [if_pos rfl, onI_pos h0] at h2
  have := kids_nonneg l hs (frmAt l k) k
  omega
theorem on_anc {l : List Clk} {hs : List Int} {u : Nat → Int} (hg : Good l) (hb : Bal l u hs) (hu : ∀ j, 0 ≤ u j) : ∀ (f : Nat) (i j : Nat), i < l.length → 0 < hs.getD i 0 → anc l f i j → 0 < hs.getD j 0
  | f + 1, i, j, hi, h0, h => by
    obtain ⟨_, h⟩ := h
    rcases h with h | h
    · obtain rfl : j = i := by omega
      exact h0
    · have hf := frm_lt hg hi
      rcases (show frmAt l i < 0 ∨ 0 ≤ frmAt l i by omega) with hn | hp
      · exfalso
        rcases f with _ | f
        · exact h
        · exact absurd h.1 (by omega)
      · obtain ⟨m, hm⟩ := Int.eq_ofNat_of_zero_le hp
        rw [hm] at h
        have hkp := kids_pos hi h0
        rw [hm] at hkp
        have hbm := hb m (by omega)
        have hum := hu m
        exact on_anc hg hb hu f m j (by omega) (by omega) h
theorem frm_set {l : List Clk} {k : Nat} (hk : k < l.length) (f : Int) (j : Nat) : frmAt (l.set k { l[k] with frm := f }) j = if j = k then f else frmAt l j := by
  unfold frmAt
  simp only [Int.toNat_natCast, List.getElem?_set]
  by_cases e : k = j
  · subst e
    rw [if_pos rfl, if_pos rfl, if_pos hk]
  · rw [if_neg e, if_neg (fun h => e h.symm)]
theorem kids_moved {l : List Clk} {k : Nat} (hk : k < l.length) (f : Int) (hs : List Int) (m : Int) : ∀ K, kids (l.set k { l[k] with frm := f }) hs m K = kids l hs m K + (if k < K then (if f = m then onI (hs.getD k 0) else 0) - (if frmAt l k = m then onI (hs.getD k 0) else 0) else 0)
  | 0 => by simp [kids]
  | K + 1 => by
    unfold kids
    rw [kids_moved hk f hs m K, frm_set hk]
    by_cases e : K = k
    · subst e
      rw [if_pos rfl, if_neg (show ¬ K < K by omega), if_pos (show K < K + 1 by omega)]
      generalize onI (hs.getD K 0) = o
      by_cases c1 : f = m
      · rw [if_pos c1]; omega
      · rw [if_neg c1]; omega
    · rw [if_neg e]
      generalize onI (hs.getD K 0) = o
      by_cases h : k < K
      · rw [if_pos h, if_pos (show k < K + 1 by omega)]; omega
      · rw [if_neg h, if_neg (show ¬ k < K + 1 by omega)]; omega
theorem moved_off {l : List Clk} {hs : List Int} {u : Nat → Int} (hb : Bal l u hs) {k : Nat} (hk : k < l.length) (f : Int) (h0 : hs.getD k 0 = 0) : Bal (l.set k { l[k] with frm := f }) u hs := by
  intro i hi
  rw [List.length_set] at hi ⊢
  rw [kids_moved hk, if_pos hk, h0, onI_neg (by omega), hb i hi]
  simp
theorem moved_on {l : List Clk} {hs : List Int} {u : Nat → Int} (hb : Bal l u hs) {k : Nat} (hk : k < l.length) (f : Int) (h0 : 0 < hs.getD k 0) : Bal (l.set k { l[k] with frm := f }) (bump (bump u (frmAt l k) 1) f (-1)) hs := by
  intro i hi
  rw [List.length_set] at hi ⊢
  rw [kids_moved hk, if_pos hk, onI_pos h0, hb i hi]
  unfold bump
  generalize kids l hs (i : Int) l.length = K
  by_cases e1 : (i : Int) = f
  · by_cases e2 : (i : Int) = frmAt l k
    · simp only [if_pos e1, if_pos e2, if_pos e1.symm, if_pos e2.symm]; omega
    · simp only [if_pos e1, if_neg e2, if_pos e1.symm, if_neg (fun h => e2 (Eq.symm h))]; omega
  · by_cases e2 : (i : Int) = frmAt l k
    · simp only [if_neg e1, if_pos e2, if_neg (fun h => e1 (Eq.symm h)), if_pos e2.symm]; omega
    · simp only [if_neg e1, if_neg e2, if_neg (fun h => e1 (Eq.symm h)), if_neg (fun h => e2 (Eq.symm h))]; omega
theorem upT_congr' {was is was' is' : List Bool} : ∀ k, (∀ j, j < k → (is.getD j false && !was.getD j false) = (is'.getD j false && !was'.getD j false)) → upT was is k = upT was' is' k
  | 0, _ => rfl
  | k + 1, h => by
    unfold upT
    rw [upT_congr' k (fun j hj => h j (by omega)), h k (by omega)]
/-- Behind a Move of a clock that is on. -/
theorem move_law {l : List Clk} {hs : List Int} {u : Nat → Int} (hg : Good l) (hl : hs.length = l.length) (hn5 : l.length ≤ 512) (hb : Bal l u hs) (hp : ∀ j, 0 ≤ hs.getD j 0) (hu : ∀ j, 0 ≤ u j) (hu2 : ∀ j, u j ≤ 65535) {k : Nat} (hk : k < l.length) (hF : 0 ≤ frmAt l k) (f : Nat) (hf : f < k)
    (h0 : 0 < hs.getD k 0) (l' : List Clk) (hl' : l' = l.set k { l[k] with frm := (f : Int) }) (hg' : Good l') (hs1 hs2 : List Int) (h1 : hs1 = (holdF l' 513 f hs).1) (h2 : hs2 = (dropF l' 513 (frmAt l k) hs1).1) :
    Bal l' u hs2 ∧ (∀ j, 0 ≤ hs2.getD j 0) ∧ (∀ j : Nat, j < l.length → 0 ≤ hs1.getD j 0 ∧ hs1.getD j 0 ≤ 100000) ∧ (holdF l' 513 f hs).2 ++ (dropF l' 513 (frmAt l k) hs1).2 = refTurns (onL l hs 0) (onL l' hs2 0) l.length := by
  have hll : l'.length = l.length := by rw [hl', List.length_set]
  have hfr := frm_lt hg hk
  have hm := moved_on hb hk (f : Int) h0
  rw [← hl'] at hm
  have a1 := hold_bal hg' 513 f hs _ (by omega) (by omega) (by omega) (by omega) hp hm
  rw [← h1] at a1
  have hb1 : Bal l' (bump u (frmAt l k) 1) hs1 := a1.1.congr fun j hj => by
    unfold bump
    by_cases e : (j : Int) = f
    · rw [if_pos e, if_pos e]; omega
    · rw [if_neg e, if_neg e]
  have hu1 : ∀ j, 0 ≤ bump u (frmAt l k) 1 j := fun j => by have := hu j; unfold bump; split <;> omega
  have hu3 : ∀ j, bump u (frmAt l k) 1 j ≤ 65536 := fun j => by have := hu2 j; unfold bump; split <;> omega
  have hl1 : hs1.length = l'.length := by rw [h1, holdF_len]; omega
  have hpk : ∀ j : Nat, (j : Int) = frmAt l k → 1 ≤ bump u (frmAt l k) 1 j := fun j e => by have := hu j; unfold bump; rw [if_pos e]; omega
  have a2 := drop_bal hg' 513 (frmAt l k) hs1 _ hl1 (by omega) (by omega) (by omega) a1.2 hb1 hu1 hpk
  rw [← h2] at a2
  have hb2 : Bal l' u hs2 := a2.1.congr fun j hj => by
    unfold bump
    by_cases e : (j : Int) = frmAt l k
    · rw [if_pos e, if_pos e]; omega
    · rw [if_neg e, if_neg e]
  have t1 := hold_up hg' 513 f hs (by omega) (by omega) (by omega) (by omega) hp
  have t2 := drop_down hg' 513 (frmAt l k) hs1 _ hl1 (by omega) (by omega) (by omega) a1.2 hb1 hu1 hpk
  have g1 := hold_grows hg' 513 f hs (by omega) (by omega)
  have g2 := drop_falls hg' 513 (frmAt l k) hs1 hl1 (by omega)
  have n1 := hold_down hg' 513 f hs (by omega) (by omega)
  rw [← h1] at t1 g1
  rw [← h2] at t2 g2
  refine ⟨hb2, a2.2, fun j hj => ⟨a1.2 j, ?_⟩, ?_⟩
  · have := hb1 j (by omega)
    have := kids_nonneg l' hs1 j l'.length
    have := hu3 j
    omega
  · rw [t1, t2]
    unfold refTurns
    rw [hll, onL_same l l' hs hll.symm]
    -- who was turned on by hold stays on
    have hstay : ∀ j : Nat, j < l.length → ¬ 0 < hs.getD j 0 → 0 < hs1.getD j 0 → 0 < hs2.getD j 0 := fun j hj h3 h4 => by
      have hanc := (g1 j).2 (by omega)
      have hk2 : 0 < hs2.getD k 0 := by
        have e1 : hs1.getD k 0 = hs.getD k 0 := by
          by_cases e : hs1.getD k 0 = hs.getD k 0
          · exact e
          · have := anc_le hg' _ _ _ (by omega) ((g1 k).2 e); omega
        have e2 : hs2.getD k 0 = hs1.getD k 0 := by
          by_cases e : hs2.getD k 0 = hs1.getD k 0
          · exact e
          · have := anc_le hg' _ _ _ (by omega) ((g2 k).2 e); omega
        omega
      have hfk : frmAt l' k = f := by rw [hl', frm_set hk, if_pos rfl]
      have hkp := kids_pos (l := l') (hs := hs2) (k := k) (by omega) hk2
      rw [hfk] at hkp
      have hbf := hb2 f (by omega)
      have huf := hu f
      exact on_anc hg' hb2 hu 513 f j (by omega) (by omega) hanc
    have hgf : ∀ j : Nat, j < l'.length → hs2.getD j 0 ≤ hs1.getD j 0 ∧ hs.getD j 0 ≤ hs1.getD j 0 := fun j hj => ⟨(g2 j).1, (g1 j).1⟩
    congr 1
    · exact upT_congr' _ fun j hj => by
        rw [onL0_get _ _ _ (by omega), onL0_get _ _ _ (by omega), onL0_get _ _ _ (by omega)]
        have := hgf j (by omega)
        have := hstay j hj
        by_cases c : 0 < hs.getD j 0
        · rw [decide_eq_true c]; simp
        · by_cases c1 : 0 < hs1.getD j 0
          · have c2 := this c c1
            rw [decide_eq_true c1, decide_eq_true c2]
          · rw [decide_eq_false c1, decide_eq_false (show ¬ 0 < hs2.getD j 0 by omega)]
    · exact downT_congr _ fun j => by
        by_cases hj : j < l'.length
        · rw [onL0_get _ _ _ hj, onL0_get _ _ _ hj, onL0_get _ _ _ hj]
          have := hgf j hj
          have := hstay j (by omega)
          by_cases c2 : 0 < hs2.getD j 0
          · rw [decide_eq_true c2]; simp
          · by_cases c : 0 < hs.getD j 0
            · rw [decide_eq_true c, decide_eq_true (show 0 < hs1.getD j 0 by omega)]
            · have c1 : ¬ 0 < hs1.getD j 0 := fun h => c2 (this c h)
              rw [decide_eq_false c, decide_eq_false c1]
        · rw [onL0_out _ _ _ hj, onL0_out _ _ _ hj, onL0_out _ _ _ hj]
end Go.Proofs.Ytbahclnpgdejlaa
