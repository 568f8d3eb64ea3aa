/- Plain law: the turns that hold and drop tell are those that came on or went off. -/
import Derived.Test.YtbahclnpgdejlaaRTurns
import Derived.Test.YtbahclnpgdejlaaBal
set_option linter.unusedVariables false
namespace Go.Proofs.Ytbahclnpgdejlaa
open Go.RowKit
theorem onL0_get (l : List Clk) (hs : List Int) (j : Nat) (hj : j < l.length) : (onL l hs 0).getD j false = decide (0 < hs.getD j 0) := by
  rw [List.getD, onL_get _ _ _ _ hj]
  simp [onB]
theorem onL0_out (l : List Clk) (hs : List Int) (j : Nat) (hj : ¬ j < l.length) : (onL l hs 0).getD j false = false := by
  rw [List.getD, List.getElem?_eq_none (by rw [onL_len]; omega)]
  rfl
theorem upT_congr {was is was' is' : List Bool} : ∀ k, (∀ j, j < k → was.getD j false = was'.getD j false ∧ is.getD j false = is'.getD j false) → upT was is k = upT was' is' k
  | 0, _ => rfl
  | k + 1, h => by
    unfold upT
    rw [upT_congr k (fun j hj => h j (by omega)), (h k (by omega)).1, (h k (by omega)).2]
theorem upT_cut {was is : List Bool} {m : Nat} : ∀ d, (∀ j, m ≤ j → j < m + d → (is.getD j false && !was.getD j false) = false) → upT was is (m + d) = upT was is m
  | 0, _ => rfl
  | d + 1, h => by
    have e : upT was is (m + (d + 1)) = upT was is (m + d) ++ (if is.getD (m + d) false && !was.getD (m + d) false then [(((m + d : Nat) : Int), true)] else []) := rfl
    rw [e, upT_cut d (fun j h1 h2 => h j h1 (by omega)), h (m + d) (by omega) (by omega)]
    simp
theorem downT_none {was is : List Bool} {n : Nat} : ∀ d, (∀ j, (was.getD j false && !is.getD j false) = false) → downT was is n d = []
  | 0, _ => rfl
  | d + 1, h => by
    unfold downT
    rw [downT_none d h, h]
    rfl
theorem upT_none {was is : List Bool} : ∀ d, (∀ j, (is.getD j false && !was.getD j false) = false) → upT was is d = []
  | 0, _ => rfl
  | d + 1, h => by
    unfold upT
    rw [upT_none d h, h]
    rfl
theorem downT_congr {was is was' is' : List Bool} {n : Nat} : ∀ d, (∀ j, (was.getD j false && !is.getD j false) = (was'.getD j false && !is'.getD j false)) → downT was is n d = downT was' is' n d
  | 0, _ => rfl
  | d + 1, h => by
    unfold downT
    rw [downT_congr d h, h]
/-- j is i, or stands above it. -/
def anc (l : List Clk) : Nat → Int → Int → Prop
  | 0, _, _ => False
  | f + 1, i, j => 0 ≤ i ∧ (j = i ∨ anc l f (frmAt l i) j)
theorem anc_le {l : List Clk} (hg : Good l) : ∀ (f : Nat) (i j : Int), i < l.length → anc l f i j → j ≤ i
  | f + 1, i, j, hi, h => by
    obtain ⟨h0, h⟩ := h
    obtain ⟨k, rfl⟩ := Int.eq_ofNat_of_zero_le h0
    rcases h with rfl | h
    · omega
    · have hf := frm_lt hg (show k < l.length by omega)
      have := anc_le hg f _ j (by omega) h
      omega
/-- hold raises those above alone. -/
theorem hold_grows {l : List Clk} (hg : Good l) (f : Nat) : ∀ (i : Int) (hs : List Int), hs.length = l.length → i < l.length → ∀ j : Nat, hs.getD j 0 ≤ (holdF l f i hs).1.getD j 0 ∧ ((holdF l f i hs).1.getD j 0 ≠ hs.getD j 0 → anc l f i j) := by
  induction f with
  | zero => intro i hs _ _ j; exact ⟨Int.le_refl _, fun h => absurd rfl h⟩
  | succ f ih =>
    intro i hs hl hi j
    rw [holdF_succ]
    by_cases h0 : i < 0
    · rw [if_pos h0]; exact ⟨Int.le_refl _, fun h => absurd rfl h⟩
    · rw [if_neg h0]
      obtain ⟨k, rfl⟩ := Int.eq_ofNat_of_zero_le (show 0 ≤ i by omega)
      simp only [Int.toNat_natCast]
      have hkl : k < hs.length := by omega
      by_cases hz : hs.getD k 0 = 0
      · rw [if_pos hz]
        have hfr : frmAt l k < l.length := by
          have := frm_lt hg (show k < l.length by omega)
          omega
        have h1 := ih (frmAt l k) (hs.set k 1) (by simpa using hl) hfr j
        have h2 := getD_set hs k j 1 hkl
        rw [h2] at h1
        by_cases e : j = k
        · subst e
          rw [if_pos rfl] at h1
          exact ⟨by simp only; omega, fun _ => ⟨by omega, .inl rfl⟩⟩
        · rw [if_neg e] at h1
          exact ⟨h1.1, fun h => ⟨by omega, .inr (h1.2 h)⟩⟩
      · rw [if_neg hz]
        have h2 := getD_set hs k j (hs.getD k 0 + 1) hkl
        simp only
        rw [h2]
        by_cases e : j = k
        · subst e
          rw [if_pos rfl]
          exact ⟨by omega, fun _ => ⟨by omega, .inl rfl⟩⟩
        · rw [if_neg e]
          exact ⟨Int.le_refl _, fun h => absurd rfl h⟩
theorem drop_falls {l : List Clk} (hg : Good l) (f : Nat) : ∀ (i : Int) (hs : List Int), hs.length = l.length → i < l.length → ∀ j : Nat, (dropF l f i hs).1.getD j 0 ≤ hs.getD j 0 ∧ ((dropF l f i hs).1.getD j 0 ≠ hs.getD j 0 → anc l f i j) := by
  induction f with
  | zero => intro i hs _ _ j; exact ⟨Int.le_refl _, fun h => absurd rfl h⟩
  | succ f ih =>
    intro i hs hl hi j
    rw [dropF_succ]
    by_cases h0 : i < 0
    · rw [if_pos h0]; exact ⟨Int.le_refl _, fun h => absurd rfl h⟩
    · rw [if_neg h0]
      obtain ⟨k, rfl⟩ := Int.eq_ofNat_of_zero_le (show 0 ≤ i by omega)
      simp only [Int.toNat_natCast]
      have hkl : k < hs.length := by omega
      have h2 := getD_set hs k j (hs.getD k 0 - 1) hkl
      by_cases hz : 0 < hs.getD k 0 - 1
      · rw [if_pos hz]
        simp only
        rw [h2]
        by_cases e : j = k
        · subst e
          rw [if_pos rfl]
          exact ⟨by omega, fun _ => ⟨by omega, .inl rfl⟩⟩
        · rw [if_neg e]
          exact ⟨Int.le_refl _, fun h => absurd rfl h⟩
      · rw [if_neg hz]
        have hfr : frmAt l k < l.length := by
          have := frm_lt hg (show k < l.length by omega)
          omega
        have h1 := ih (frmAt l k) (hs.set k (hs.getD k 0 - 1)) (by simpa using hl) hfr j
        rw [h2] at h1
        by_cases e : j = k
        · subst e
          rw [if_pos rfl] at h1
          exact ⟨by simp only; omega, fun _ => ⟨by omega, .inl rfl⟩⟩
        · rw [if_neg e] at h1
          exact ⟨h1.1, fun h => ⟨by omega, .inr (h1.2 h)⟩⟩
/-- The turns that hold tells are those that came on. -/
theorem hold_up {l : List Clk} (hg : Good l) (f : Nat) : ∀ (i : Int) (hs : List Int), hs.length = l.length → i < l.length → i < f → -1 ≤ i → (∀ j, 0 ≤ hs.getD j 0) →
    (holdF l f i hs).2 = upT (onL l hs 0) (onL l (holdF l f i hs).1 0) l.length := by
  induction f with
  | zero =>
    intro i hs hl h1 h2 h3 hp
    have : i < 0 := by omega
    exact (upT_none _ (fun j => by
      show ((onL l hs 0).getD j false && !(onL l hs 0).getD j false) = false
      simp)).symm
  | succ f ih =>
    intro i hs hl h1 h2 h3 hp
    rw [holdF_succ]
    by_cases h0 : i < 0
    · rw [if_pos h0]
      exact (upT_none _ (fun j => by simp)).symm
    · rw [if_neg h0]
      obtain ⟨k, rfl⟩ := Int.eq_ofNat_of_zero_le (show 0 ≤ i by omega)
      simp only [Int.toNat_natCast]
      have hkl : k < hs.length := by omega
      have hkl2 : k < l.length := by omega
      have hpk := hp k
      by_cases hz : hs.getD k 0 = 0
      · rw [if_pos hz]
        have hf := frm_lt hg hkl2
        have hih := ih (frmAt l k) (hs.set k 1) (by simpa using hl) (by omega) (by omega) hf.1 (pos_set hp hkl (by omega))
        have hgr := hold_grows hg f (frmAt l k) (hs.set k 1) (by simpa using hl) (by omega)
        have hfix : ∀ j : Nat, k ≤ j → (holdF l f (frmAt l k) (hs.set k 1)).1.getD j 0 = (hs.set k 1).getD j 0 := fun j hj => by
          by_cases e : (holdF l f (frmAt l k) (hs.set k 1)).1.getD j 0 = (hs.set k 1).getD j 0
          · exact e
          · have := anc_le hg _ _ _ (by omega) ((hgr j).2 e)
            omega
        simp only
        rw [hih]
        obtain ⟨H, hH⟩ : ∃ H, H = (holdF l f (frmAt l k) (hs.set k 1)).1 := ⟨_, rfl⟩
        rw [← hH] at hfix ⊢
        have hset := fun j => getD_set hs k j 1 hkl
        have e1 : upT (onL l hs 0) (onL l H 0) l.length = upT (onL l hs 0) (onL l H 0) (k + 1) := by
          have := upT_cut (was := onL l hs 0) (is := onL l H 0) (m := k + 1) (l.length - (k + 1)) (fun j h1 h2 => by
            rw [onL0_get _ _ _ (by omega), onL0_get _ _ _ (by omega), hfix j (by omega), hset, if_neg (by omega)]
            simp)
          rw [← this]
          congr 1
          omega
        have e2 : upT (onL l (hs.set k 1) 0) (onL l H 0) l.length = upT (onL l (hs.set k 1) 0) (onL l H 0) k := by
          have := upT_cut (was := onL l (hs.set k 1) 0) (is := onL l H 0) (m := k) (l.length - k) (fun j h1 h2 => by
            rw [onL0_get _ _ _ (by omega), onL0_get _ _ _ (by omega), hfix j (by omega)]
            simp)
          rw [← this]
          congr 1
          omega
        have e3 : upT (onL l hs 0) (onL l H 0) k = upT (onL l (hs.set k 1) 0) (onL l H 0) k := upT_congr k fun j hj => by
          rw [onL0_get _ _ _ (by omega), onL0_get _ _ _ (by omega), hset, if_neg (by omega)]
          exact ⟨rfl, rfl⟩
        have e4 : upT (onL l hs 0) (onL l H 0) (k + 1) = upT (onL l hs 0) (onL l H 0) k ++ (if (onL l H 0).getD k false && !(onL l hs 0).getD k false then [((k : Int), true)] else []) := rfl
        rw [e1, e2, e4, e3, onL0_get _ _ _ hkl2, onL0_get _ _ _ hkl2, hfix k (Nat.le_refl _), hset, if_pos rfl, hz]
        rfl
      · rw [if_neg hz]
        have hset := fun j => getD_set hs k j (hs.getD k 0 + 1) hkl
        refine (upT_none _ (fun j => ?_)).symm
        by_cases hj : j < l.length
        · rw [onL0_get _ _ _ hj, onL0_get _ _ _ hj]
          simp only
          rw [hset]
          by_cases e : j = k
          · subst e
            rw [if_pos rfl, decide_eq_true (show 0 < hs.getD j 0 by omega)]
            simp
          · rw [if_neg e]; simp
        · rw [onL0_out _ _ _ hj, onL0_out _ _ _ hj]; rfl
theorem hold_down {l : List Clk} (hg : Good l) (f : Nat) (i : Int) (hs : List Int) (hl : hs.length = l.length) (hi : i < l.length) (d : Nat) : downT (onL l hs 0) (onL l (holdF l f i hs).1 0) l.length d = [] :=
  downT_none d fun j => by
    by_cases hj : j < l.length
    · rw [onL0_get _ _ _ hj, onL0_get _ _ _ hj]
      have := (hold_grows hg f i hs hl hi j).1
      rw [Bool.and_eq_false_iff]
      by_cases h : 0 < hs.getD j 0
      · right; rw [decide_eq_true (by omega)]; rfl
      · left; exact decide_eq_false h
    · rw [onL0_out _ _ _ hj, onL0_out _ _ _ hj]; rfl
theorem drop_up {l : List Clk} (hg : Good l) (f : Nat) (i : Int) (hs : List Int) (hl : hs.length = l.length) (hi : i < l.length) (d : Nat) : upT (onL l hs 0) (onL l (dropF l f i hs).1 0) d = [] :=
  upT_none d fun j => by
    by_cases hj : j < l.length
    · rw [onL0_get _ _ _ hj, onL0_get _ _ _ hj]
      have := (drop_falls hg f i hs hl hi j).1
      rw [Bool.and_eq_false_iff]
      by_cases h : 0 < hs.getD j 0
      · right; rw [decide_eq_true h]; rfl
      · left; exact decide_eq_false (by omega)
    · rw [onL0_out _ _ _ hj, onL0_out _ _ _ hj]; rfl
/-- The turns that drop tells are those that went off. -/
theorem drop_down {l : List Clk} (hg : Good l) (f : Nat) : ∀ (i : Int) (hs : List Int) (u : Nat → Int), hs.length = l.length → i < l.length → i < f → -1 ≤ i → (∀ j, 0 ≤ hs.getD j 0) → Bal l u hs → (∀ j, 0 ≤ u j) → (∀ j : Nat, (j : Int) = i → 1 ≤ u j) →
    (dropF l f i hs).2 = downT (onL l hs 0) (onL l (dropF l f i hs).1 0) l.length l.length := by
  induction f with
  | zero =>
    intro i hs u hl h1 h2 h3 hp hb hu hu1
    exact (downT_none _ (fun j => by
      show ((onL l hs 0).getD j false && !(onL l hs 0).getD j false) = false
      simp)).symm
  | succ f ih =>
    intro i hs u hl h1 h2 h3 hp hb hu hu1
    rw [dropF_succ]
    by_cases h0 : i < 0
    · rw [if_pos h0]
      exact (downT_none _ (fun j => by simp)).symm
    · rw [if_neg h0]
      obtain ⟨k, rfl⟩ := Int.eq_ofNat_of_zero_le (show 0 ≤ i by omega)
      simp only [Int.toNat_natCast]
      have hkl : k < hs.length := by omega
      have hkl2 : k < l.length := by omega
      have hpk := hp k
      have hbk := hb k hkl2
      have huk := hu1 k rfl
      have hkn := kids_nonneg l hs k l.length
      have hset := fun j => getD_set hs k j (hs.getD k 0 - 1) hkl
      by_cases hz : 0 < hs.getD k 0 - 1
      · rw [if_pos hz]
        refine (downT_none _ (fun j => ?_)).symm
        by_cases hj : j < l.length
        · rw [onL0_get _ _ _ hj, onL0_get _ _ _ hj]
          simp only
          rw [hset]
          by_cases e : j = k
          · subst e
            rw [if_pos rfl, decide_eq_true hz]
            simp
          · rw [if_neg e]; simp
        · rw [onL0_out _ _ _ hj, onL0_out _ _ _ hj]; rfl
      · rw [if_neg hz]
        have hf := frm_lt hg hkl2
        have hs1 := set_bal hg hl hb hkl2 (hs.getD k 0 - 1)
        have hp1 : ∀ j, 0 ≤ (hs.set k (hs.getD k 0 - 1)).getD j 0 := pos_set hp hkl (by omega)
        rw [onI_neg hz, onI_pos (show 0 < hs.getD k 0 by omega)] at hs1
        have hih := ih (frmAt l k) (hs.set k (hs.getD k 0 - 1)) _ (by simpa using hl) (by omega) (by omega) hf.1 hp1 hs1 (fun j => by
          have := hu j
          have := hu1 j
          unfold bump; split <;> split <;> omega) (fun j e => by
          have := hu j
          have := hu1 j
          unfold bump; rw [if_pos e]; split <;> omega)
        have hgr := drop_falls hg f (frmAt l k) (hs.set k (hs.getD k 0 - 1)) (by simpa using hl) (by omega)
        have hfix : ∀ j : Nat, k ≤ j → (dropF l f (frmAt l k) (hs.set k (hs.getD k 0 - 1))).1.getD j 0 = (hs.set k (hs.getD k 0 - 1)).getD j 0 := fun j hj => by
          by_cases e : (dropF l f (frmAt l k) (hs.set k (hs.getD k 0 - 1))).1.getD j 0 = (hs.set k (hs.getD k 0 - 1)).getD j 0
          · exact e
          · have := anc_le hg _ _ _ (by omega) ((hgr j).2 e)
            omega
        simp only
        rw [hih]
        obtain ⟨H, hH⟩ : ∃ H, H = (dropF l f (frmAt l k) (hs.set k (hs.getD k 0 - 1))).1 := ⟨_, rfl⟩
        rw [← hH] at hfix ⊢
        have hk0 : hs.getD k 0 - 1 = 0 := by omega
        rw [hk0] at hset hfix ⊢
        have key : ∀ d, d ≤ l.length → downT (onL l hs 0) (onL l H 0) l.length d = (if l.length - 1 - k < d then [((k : Int), false)] else []) ++ downT (onL l (hs.set k 0) 0) (onL l H 0) l.length d := by
          intro d
          induction d with
          | zero => intro _; rfl
          | succ d ihd =>
            intro hd
            have a1 : downT (onL l hs 0) (onL l H 0) l.length (d + 1) = downT (onL l hs 0) (onL l H 0) l.length d ++ (if (onL l hs 0).getD (l.length - 1 - d) false && !(onL l H 0).getD (l.length - 1 - d) false then [(((l.length - 1 - d : Nat) : Int), false)] else []) := rfl
            have a2 : downT (onL l (hs.set k 0) 0) (onL l H 0) l.length (d + 1) = downT (onL l (hs.set k 0) 0) (onL l H 0) l.length d ++ (if (onL l (hs.set k 0) 0).getD (l.length - 1 - d) false && !(onL l H 0).getD (l.length - 1 - d) false then [(((l.length - 1 - d : Nat) : Int), false)] else []) := rfl
            rw [a1, a2, ihd (by omega)]
            obtain ⟨p, hp⟩ : ∃ p, p = l.length - 1 - d := ⟨_, rfl⟩
            rw [← hp]
            have hpl : p < l.length := by omega
            rw [onL0_get _ _ _ hpl, onL0_get _ _ _ hpl, onL0_get _ _ _ hpl, hset]
            rcases (show p < k ∨ p = k ∨ k < p by omega) with h | rfl | h
            · rw [if_neg (show ¬ p = k by omega), if_pos (show l.length - 1 - k < d by omega), if_pos (show l.length - 1 - k < d + 1 by omega)]
              simp
            · rw [if_pos rfl, if_neg (show ¬ l.length - 1 - p < d by omega), if_pos (show l.length - 1 - p < d + 1 by omega), hfix p (Nat.le_refl _), hset, if_pos rfl]
              have hnone : downT (onL l (hs.set p 0) 0) (onL l H 0) l.length d = [] := by
                have : ∀ c, c ≤ d → downT (onL l (hs.set p 0) 0) (onL l H 0) l.length c = [] := by
                  intro c
                  induction c with
                  | zero => intro _; rfl
                  | succ c ihc =>
                    intro hc
                    have a3 : downT (onL l (hs.set p 0) 0) (onL l H 0) l.length (c + 1) = downT (onL l (hs.set p 0) 0) (onL l H 0) l.length c ++ (if (onL l (hs.set p 0) 0).getD (l.length - 1 - c) false && !(onL l H 0).getD (l.length - 1 - c) false then [(((l.length - 1 - c : Nat) : Int), false)] else []) := rfl
                    rw [a3, ihc (by omega), onL0_get _ _ _ (by omega), onL0_get _ _ _ (by omega), hfix _ (by omega)]
                    simp
                exact this d (Nat.le_refl _)
              rw [hnone, decide_eq_true (show 0 < hs.getD p 0 by omega)]
              rfl
            · rw [if_neg (show ¬ p = k by omega), if_neg (show ¬ l.length - 1 - k < d by omega), if_neg (show ¬ l.length - 1 - k < d + 1 by omega)]
              simp
        rw [key l.length (Nat.le_refl _), if_pos (by omega)]
        rfl
end Go.Proofs.Ytbahclnpgdejlaa
