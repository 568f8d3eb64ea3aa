import Derived.Test.YtbahclnpgdejlaaRound
set_option linter.unusedVariables false
namespace Go.Proofs.Ytbahclnpgdejlaa
open Go.RowKit
/-- A Div gives at most r just as it is more than all / (r + 1). -/
theorem div_le_iff (all r D : Int) (h1 : 0 ≤ all) (hr : 0 ≤ r) (hD : 1 ≤ D) : all / D ≤ r ↔ all / (r + 1) + 1 ≤ D := by
  constructor
  · intro h
    have h2 : all < (r + 1) * D := Int.lt_mul_of_ediv_lt (by omega) (by omega)
    have h3 : all / (r + 1) < D := Int.ediv_lt_of_lt_mul (by omega) (by rw [Int.mul_comm]; exact h2)
    omega
  · intro h
    have h2 : all / (r + 1) < D := by omega
    have h3 : all < D * (r + 1) := Int.lt_mul_of_ediv_lt (by omega) h2
    have h4 : all / D < r + 1 := Int.ediv_lt_of_lt_mul (by omega) (by rw [Int.mul_comm]; exact h3)
    omega
theorem div_anti (all a b : Int) (h1 : 0 ≤ all) (ha : 1 ≤ a) (hab : a ≤ b) : all / b ≤ all / a := by
  have h0 : 0 ≤ all / a := Int.ediv_nonneg h1 (by omega)
  have := (div_le_iff all (all / a) a h1 h0 ha).1 (Int.le_refl _)
  exact (div_le_iff all (all / a) b h1 h0 (by omega)).2 (by omega)
theorem least_same (all b : Int) (h1 : 0 ≤ all) (hb : 1 ≤ b) (hb2 : b ≤ 65535) : leastOf all (all / b) ≤ b ∧ all / leastOf all (all / b) = all / b := by
  have h0 : 0 ≤ all / b := Int.ediv_nonneg h1 (by omega)
  have hT := (div_le_iff all (all / b) b h1 h0 hb).1 (Int.le_refl _)
  have hTn : 0 ≤ all / (all / b + 1) := Int.ediv_nonneg h1 (by omega)
  have hl : leastOf all (all / b) = all / (all / b + 1) + 1 := by unfold leastOf; omega
  refine ⟨by omega, ?_⟩
  rw [hl]
  have a1 := (div_le_iff all (all / b) (all / (all / b + 1) + 1) h1 h0 (by omega)).2 (Int.le_refl _)
  have a2 := div_anti all (all / (all / b + 1) + 1) b h1 (by omega) (by omega)
  omega
/-- What Round answers is what that Div gives. -/
theorem round_rate (all w : Int) (h1 : 0 ≤ all) (hw : 0 ≤ w) : (roundOf all w).2 = all / (roundOf all w).1 := by
  have hb := least_bd all w h1 hw
  unfold roundOf
  simp only
  split
  · split
    · exact (least_same all (leastOf all w - 1) h1 (by omega) (by omega)).2.symm
    · rfl
  · rfl
/-- Its Div is as near as any other, and the least of those as near. -/
theorem round_best (all w D : Int) (h1 : 0 ≤ all) (hw : 0 ≤ w) (hD1 : 1 ≤ D) (hD2 : D ≤ 65535) :
    dist (all / (roundOf all w).1) w < dist (all / D) w ∨ (dist (all / (roundOf all w).1) w = dist (all / D) w ∧ (roundOf all w).1 ≤ D) := by
  have hrr := round_rate all w h1 hw
  rw [← hrr]
  have hb := least_bd all w h1 hw
  have hT : 0 ≤ all / (w + 1) := Int.ediv_nonneg h1 (by omega)
  have hL : leastOf all w = min (all / (w + 1) + 1) 65535 := rfl
  obtain ⟨L, hLe⟩ : ∃ L, L = leastOf all w := ⟨_, rfl⟩
  have hle : leastOf all w = L := hLe.symm
  have hlow : ∀ E, L ≤ E → E ≤ 65535 → (all / L ≤ w ∧ all / E ≤ all / L) ∨ E = L := by
    intro E hE hE2
    by_cases h : all / (w + 1) + 1 ≤ 65535
    · left
      have : L = all / (w + 1) + 1 := by omega
      exact ⟨(div_le_iff all w L h1 hw (by omega)).2 (by omega), div_anti all L E h1 (by omega) hE⟩
    · right; omega
  unfold roundOf
  simp only [hle]
  by_cases hL1 : 1 < L
  · rw [if_pos hL1]
    have hup := up_gt all w h1 hw (by omega)
    rw [hle] at hup
    have hs := least_same all (L - 1) h1 (by omega) (by omega)
    have hlt : D < L → all / (L - 1) ≤ all / D := fun h => div_anti all D (L - 1) h1 hD1 (by omega)
    have heq : D < L → all / D = all / (L - 1) → leastOf all (all / (L - 1)) ≤ D := by
      intro h e
      rw [← e]
      exact (least_same all D h1 hD1 hD2).1
    have hlo := hlow D
    split
    · rename_i hc
      unfold dist at hc ⊢
      simp only
      by_cases hDL : D < L
      · have a := hlt hDL
        have b := heq hDL
        by_cases e : all / D = all / (L - 1)
        · have b := b e; omega
        · omega
      · rcases hlo (by omega) hD2 with ⟨a, b⟩ | rfl
        · omega
        · omega
    · rename_i hc
      unfold dist at hc ⊢
      simp only
      by_cases hDL : D < L
      · have a := hlt hDL; omega
      · rcases hlo (by omega) hD2 with ⟨a, b⟩ | rfl
        · omega
        · omega
  · rw [if_neg hL1]
    simp only
    rcases hlow D (by omega) hD2 with ⟨a, b⟩ | rfl
    · unfold dist; omega
    · exact .inr ⟨rfl, Int.le_refl _⟩
end Go.Proofs.Ytbahclnpgdejlaa
