import Derived.Test.YtbahclnpgdejlaaDrop
set_option linter.unusedVariables false
namespace Go.Proofs.Ytbahclnpgdejlaa
open Go.RowKit
def onI (v : Int) : Int := if 0 < v then 1 else 0
theorem onI_pos {v : Int} (h : 0 < v) : onI v = 1 := if_pos h
theorem onI_neg {v : Int} (h : ¬ 0 < v) : onI v = 0 := if_neg h
theorem onI_bd (v : Int) : 0 ≤ onI v ∧ onI v ≤ 1 := by unfold onI; split <;> omega
/-- How many of the first k clocks are on and hang from place m. -/
def kids (l : List Clk) (hs : List Int) (m : Int) : Nat → Int
  | 0 => 0
  | k + 1 => kids l hs m k + (if frmAt l k = m then onI (hs.getD k 0) else 0)
theorem kids_nonneg (l : List Clk) (hs : List Int) (m : Int) : ∀ k, 0 ≤ kids l hs m k ∧ kids l hs m k ≤ k
  | 0 => by simp [kids]
  | k + 1 => by have := kids_nonneg l hs m k; have := onI_bd (hs.getD k 0); unfold kids; split <;> omega
theorem getD_set (hs : List Int) (i j : Nat) (v : Int) (h : i < hs.length) : (hs.set i v).getD j 0 = if j = i then v else hs.getD j 0 := by
  by_cases e : j = i
  · subst e; simp [List.getD, h]
  · simp [List.getD, e, show i ≠ j by omega]
theorem pos_set {hs : List Int} (hp : ∀ j, 0 ≤ hs.getD j 0) {i : Nat} (h : i < hs.length) {v : Int} (hv : 0 ≤ v) : ∀ j, 0 ≤ (hs.set i v).getD j 0 := fun j => by
  rw [getD_set _ _ _ _ h]
  split
  · exact hv
  · exact hp j
theorem kids_set (l : List Clk) (hs : List Int) (m v : Int) (i : Nat) (h : i < hs.length) : ∀ k, kids l (hs.set i v) m k = kids l hs m k + (if i < k ∧ frmAt l i = m then onI v - onI (hs.getD i 0) else 0)
  | 0 => by simp [kids]
  | k + 1 => by
    unfold kids
    rw [kids_set l hs m v i h k, getD_set _ _ _ _ h]
    by_cases e : k = i
    · subst e
      rw [if_pos rfl, if_neg (fun h => by omega)]
      by_cases hf : frmAt l k = m
      · rw [if_pos hf, if_pos hf, if_pos ⟨by omega, hf⟩]; omega
      · rw [if_neg hf, if_neg hf, if_neg (fun h => hf h.2)]
    · rw [if_neg e]
      have : (i < k + 1 ∧ frmAt l i = m) ↔ (i < k ∧ frmAt l i = m) := by constructor <;> (rintro ⟨a, b⟩; exact ⟨by omega, b⟩)
      simp only [this]
      omega
/-- Each clock's holds are its users u and the clocks beneath that are on. -/
def Bal (l : List Clk) (u : Nat → Int) (hs : List Int) : Prop := ∀ i, i < l.length → hs.getD i 0 = u i + kids l hs i l.length
def bump (u : Nat → Int) (i d : Int) : Nat → Int := fun j => if (j : Int) = i then u j + d else u j
theorem frm_lt {l : List Clk} (hg : Good l) {i : Nat} (hi : i < l.length) : -1 ≤ frmAt l i ∧ frmAt l i < i := by
  have o := (hg.at_ hi).src
  have hF : frmAt l i = l[i].frm := by simp [frmAt, hi]
  rw [hF]
  omega
theorem set_bal {l : List Clk} {hs : List Int} (hg : Good l) (hl : hs.length = l.length) {u : Nat → Int} (hb : Bal l u hs) {i : Nat} (hi : i < l.length) (v : Int) :
    Bal l (bump (bump u i (v - hs.getD i 0)) (frmAt l i) (-(onI v - onI (hs.getD i 0)))) (hs.set i v) := by
  intro j hj
  rw [getD_set _ _ _ _ (by omega), kids_set _ _ _ _ _ (by omega)]
  have hbj := hb j hj
  have hf := frm_lt hg hi
  unfold bump
  by_cases e : j = i
  · subst e
    rw [if_pos rfl, if_neg (by omega), if_pos rfl, if_neg (by omega)]
    omega
  · rw [if_neg e]
    by_cases e2 : frmAt l i = (j : Int)
    · rw [if_pos (show (j : Int) = frmAt l i by omega), if_neg (show ¬ (j : Int) = (i : Int) by omega), if_pos ⟨hi, e2⟩]
      omega
    · rw [if_neg (show ¬ (j : Int) = frmAt l i by omega), if_neg (show ¬ (j : Int) = (i : Int) by omega), if_neg (fun h => e2 h.2)]
      omega
theorem Bal.congr {l : List Clk} {hs : List Int} {u u' : Nat → Int} (h : Bal l u hs) (e : ∀ i, i < l.length → u i = u' i) : Bal l u' hs := fun i hi => by rw [← e i hi]; exact h i hi
theorem hold_bal {l : List Clk} (hg : Good l) (f : Nat) : ∀ (i : Int) (hs : List Int) (u : Nat → Int), hs.length = l.length → i < l.length → i < f → -1 ≤ i → (∀ j, 0 ≤ hs.getD j 0) → Bal l u hs →
    Bal l (bump u i 1) (holdF l f i hs).1 ∧ ∀ j, 0 ≤ (holdF l f i hs).1.getD j 0 := by
  induction f with
  | zero =>
    intro i hs u hl h1 h2 h3 hp hb
    exact ⟨hb.congr fun j hj => by unfold bump; rw [if_neg (by omega)], hp⟩
  | succ f ih =>
    intro i hs u hl h1 h2 h3 hp hb
    rw [holdF_succ]
    by_cases hi : i < 0
    · rw [if_pos hi]
      exact ⟨hb.congr fun j hj => by unfold bump; rw [if_neg (by omega)], hp⟩
    · rw [if_neg hi]
      obtain ⟨k, rfl⟩ := Int.eq_ofNat_of_zero_le (show 0 ≤ i by omega)
      have hkl : k < l.length := by omega
      have hpk := hp k
      have hf := frm_lt hg hkl
      simp only [Int.toNat_natCast] at *
      by_cases hz : hs.getD k 0 = 0
      · rw [if_pos hz]
        have hs1 := set_bal hg hl hb hkl 1
        have := ih (frmAt l k) (hs.set k 1) _ (by simp; omega) (by omega) (by omega) hf.1 (pos_set hp (by omega) (by omega)) hs1
        refine ⟨this.1.congr fun j hj => ?_, this.2⟩
        unfold bump
        rw [hz, onI_pos (show (0 : Int) < 1 by omega), onI_neg (show ¬ (0 : Int) < 0 by omega)]
        by_cases e : (j : Int) = frmAt l k
        · simp only [e, if_true]; rw [if_neg (by omega), if_neg (by omega)]; omega
        · simp only [e, if_false]; simp
      · rw [if_neg hz]
        have hs1 := set_bal hg hl hb hkl (hs.getD k 0 + 1)
        refine ⟨hs1.congr fun j hj => ?_, pos_set hp (by omega) (by omega)⟩
        unfold bump
        rw [onI_pos (show 0 < hs.getD k 0 + 1 by omega), onI_pos (show 0 < hs.getD k 0 by omega)]
        split <;> split <;> omega
theorem drop_bal {l : List Clk} (hg : Good l) (f : Nat) : ∀ (i : Int) (hs : List Int) (u : Nat → Int), hs.length = l.length → i < l.length → i < f → -1 ≤ i → (∀ j, 0 ≤ hs.getD j 0) → Bal l u hs → (∀ j, 0 ≤ u j) → (∀ j : Nat, (j : Int) = i → 1 ≤ u j) →
    Bal l (bump u i (-1)) (dropF l f i hs).1 ∧ ∀ j, 0 ≤ (dropF l f i hs).1.getD j 0 := by
  induction f with
  | zero =>
    intro i hs u hl h1 h2 h3 hp hb hu hu1
    exact ⟨hb.congr fun j hj => by unfold bump; rw [if_neg (by omega)], hp⟩
  | succ f ih =>
    intro i hs u hl h1 h2 h3 hp hb hu hu1
    rw [dropF_succ]
    by_cases hi : i < 0
    · rw [if_pos hi]
      exact ⟨hb.congr fun j hj => by unfold bump; rw [if_neg (by omega)], hp⟩
    · rw [if_neg hi]
      obtain ⟨k, rfl⟩ := Int.eq_ofNat_of_zero_le (show 0 ≤ i by omega)
      have hkl : k < l.length := by omega
      have hpk := hp k
      have hf := frm_lt hg hkl
      have hbk := hb k hkl
      have huk := hu1 k rfl
      have hkn := kids_nonneg l hs k l.length
      simp only [Int.toNat_natCast] at *
      have hs1 := set_bal hg hl hb hkl (hs.getD k 0 - 1)
      have hp1 : ∀ j, 0 ≤ (hs.set k (hs.getD k 0 - 1)).getD j 0 := pos_set hp (by omega) (by omega)
      by_cases hz : 0 < hs.getD k 0 - 1
      · rw [if_pos hz]
        refine ⟨hs1.congr fun j hj => ?_, hp1⟩
        unfold bump
        rw [onI_pos hz, onI_pos (show 0 < hs.getD k 0 by omega)]
        split <;> split <;> omega
      · rw [if_neg hz]
        rw [onI_neg hz, onI_pos (show 0 < hs.getD k 0 by omega)] at hs1
        have := ih (frmAt l k) (hs.set k (hs.getD k 0 - 1)) _ (by simp; omega) (by omega) (by omega) hf.1 hp1 hs1 (fun j => by
          have := hu j
          have := hu1 j
          unfold bump; split <;> split <;> omega) (fun j e => by
          have := hu j
          have := hu1 j
          unfold bump; rw [if_pos e]; split <;> omega)
        refine ⟨this.1.congr fun j hj => ?_, this.2⟩
        unfold bump
        by_cases e : (j : Int) = frmAt l k
        · simp only [e, if_true]; rw [if_neg (by omega)]; omega
        · simp only [e, if_false]; split <;> omega
/-- Nobody uses any: none is on. -/
theorem rest_off {l : List Clk} (hg : Good l) {hs : List Int} (hb : Bal l (fun _ => 0) hs) : ∀ (d i : Nat), i + d = l.length → i < l.length → hs.getD i 0 = 0 := by
  intro d
  induction d using Nat.strongRecOn with
  | ind d ih =>
    intro i hd hi
    have hk : ∀ m, kids l hs i m = 0 ∨ l.length < m := by
      intro m
      induction m with
      | zero => left; rfl
      | succ m ihm =>
        by_cases hm : l.length < m + 1
        · right; exact hm
        · left
          rcases ihm with h | h
          · unfold kids
            rw [h]
            split
            · rename_i a
              have hf := frm_lt hg (show m < l.length by omega)
              have := ih (l.length - m) (by omega) m (by omega) (by omega)
              rw [this, onI_neg (by omega)]
              rfl
            · rfl
          · omega
    rcases hk l.length with h | h
    · rw [hb i hi, h]; rfl
    · omega
end Go.Proofs.Ytbahclnpgdejlaa
