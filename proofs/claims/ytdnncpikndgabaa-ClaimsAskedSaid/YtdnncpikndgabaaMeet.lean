/- Two claims meet: the program's and the document's answer. -/
import Derived.Test.YtdnncpikndgabaaPush
import Derived.Test.YtdnncpikndgabaaFreeLaw
import Derived.Test.YtdnncpikndgabaaChecked
set_option linter.unusedVariables false
namespace Go.Proofs.Ytdnncpikndgabaa
open Go.RowKit
def Cl.cells (c : Cl) : List Value := [.int .u8 (c.k : Int), .int .u64 (c.f : Int), .int .u64 (c.t : Int)]
theorem cl_len (c : Cl) : c.cells.length = 3 := rfl
/-- Two claims laid in blocks of their own. -/
def boxed2 (w : World) (a b : Cl) : World := (w.alloc (.cells #[.int .u8 (a.k : Int), .int .u64 (a.f : Int), .int .u64 (a.t : Int)] 24)).alloc (.cells #[.int .u8 (b.k : Int), .int .u64 (b.f : Int), .int .u64 (b.t : Int)] 24)
theorem boxed_cells (w : World) (a b : Cl) : ((boxed2 w a b).cell? ⟨w.heap.size, 0, none⟩ = some (.int .u8 (a.k : Int)) ∧ (boxed2 w a b).cell? ⟨w.heap.size, 1, none⟩ = some (.int .u64 (a.f : Int)) ∧ (boxed2 w a b).cell? ⟨w.heap.size, 2, none⟩ = some (.int .u64 (a.t : Int))) ∧
    ((boxed2 w a b).cell? ⟨w.heap.size + 1, 0, none⟩ = some (.int .u8 (b.k : Int)) ∧ (boxed2 w a b).cell? ⟨w.heap.size + 1, 1, none⟩ = some (.int .u64 (b.f : Int)) ∧ (boxed2 w a b).cell? ⟨w.heap.size + 1, 2, none⟩ = some (.int .u64 (b.t : Int))) ∧ Below w.heap.size w (boxed2 w a b) := by
  have h1 : ∀ k, (boxed2 w a b).cell? ⟨w.heap.size, k, none⟩ = #[Value.int .u8 (a.k : Int), .int .u64 (a.f : Int), .int .u64 (a.t : Int)][k]? := fun k => by
    unfold boxed2
    rw [World.cell?_alloc_lt _ _ _ (by simp), cell_of_row _ _ _ _ _ (0, 0) (heap_alloc_new w _)]
  have h2 : ∀ k, (boxed2 w a b).cell? ⟨w.heap.size + 1, k, none⟩ = #[Value.int .u8 (b.k : Int), .int .u64 (b.f : Int), .int .u64 (b.t : Int)][k]? := fun k => by
    unfold boxed2
    have hs : (w.alloc (.cells #[.int .u8 (a.k : Int), .int .u64 (a.f : Int), .int .u64 (a.t : Int)] 24)).heap.size = w.heap.size + 1 := by simp
    rw [← hs, cell_of_row _ _ _ _ _ (0, 0) (heap_alloc_new _ _)]
  refine ⟨⟨(h1 0).trans rfl, (h1 1).trans rfl, (h1 2).trans rfl⟩, ⟨(h2 0).trans rfl, (h2 1).trans rfl, (h2 2).trans rfl⟩, ?_⟩
  exact ((Below.refl _ w).alloc (Nat.le_refl _) _).alloc (by simp) _
theorem pmeet_any (a b : Cl) (w : World) : Calls Try.prog 6 #[.agg #[.int .u8 (a.k : Int), .int .u64 (a.f : Int), .int .u64 (a.t : Int)], .agg #[.int .u8 (b.k : Int), .int .u64 (b.f : Int), .int .u64 (b.t : Int)]] w fun e w' => e = .returned (.bool (meetB a b)) ∧ Below w.heap.size w w' := by
  obtain ⟨⟨x0, x1, x2⟩, ⟨y0, y1, y2⟩, hb⟩ := boxed_cells w a b
  have HB := Lib.hid hb
  clear hb
  unfold boxed2 at x0 x1 x2 y0 y1 y2
  obtain ⟨r, hr⟩ : ∃ r, r = meetB a b := ⟨_, rfl⟩
  rw [← hr]
  unfold meetB at hr
  have fin : ∀ q : Bool, (q = true ↔ (a.k = b.k ∧ a.f ≤ a.t ∧ b.f ≤ b.t ∧ a.f ≤ b.t ∧ b.f ≤ a.t)) → Ending.returned (.bool q) = .returned (.bool r) := fun q h => ret_bool (by
    rw [hr, Bool.eq_iff_iff, h]
    simp only [Bool.and_eq_true, decide_eq_true_eq, and_assoc])
  clear hr
  by_cases h1 : a.k = b.k
  · have e1 : ((a.k : Int) == (b.k : Int)) = true := by rw [beq_iff_eq]; omega
    have H1 := Lib.hid h1
    clear h1
    go_enter Try.func6, Try.ntmps6
    go_wp2_with fail
    all_goals go_ret
    all_goals (refine ⟨fin _ ?_, HB.out⟩; have := H1.out; simp only [decide_eq_true_eq, Bool.false_eq_true, false_iff]; omega)
  · have e1 : ((a.k : Int) == (b.k : Int)) = false := by rw [beq_eq_false_iff_ne]; omega
    have H1 := Lib.hid h1
    clear h1
    go_enter Try.func6, Try.ntmps6
    go_wp2_with fail
    go_ret
    exact ⟨fin _ (by have := H1.out; simp only [Bool.false_eq_true, false_iff]; omega), HB.out⟩
theorem rmeet_any (a b : Cl) (w : World) : Calls Try.prog 14 #[.agg #[.int .u8 (a.k : Int), .int .u64 (a.f : Int), .int .u64 (a.t : Int)], .agg #[.int .u8 (b.k : Int), .int .u64 (b.f : Int), .int .u64 (b.t : Int)]] w fun e w' => e = .returned (.bool (meetB a b)) ∧ Below w.heap.size w w' := by
  obtain ⟨⟨x0, x1, x2⟩, ⟨y0, y1, y2⟩, hb⟩ := boxed_cells w a b
  have HB := Lib.hid hb
  clear hb
  unfold boxed2 at x0 x1 x2 y0 y1 y2
  obtain ⟨r, hr⟩ : ∃ r, r = meetB a b := ⟨_, rfl⟩
  rw [← hr]
  unfold meetB at hr
  have fin : ∀ q : Bool, (q = true ↔ (a.k = b.k ∧ a.f ≤ a.t ∧ b.f ≤ b.t ∧ a.f ≤ b.t ∧ b.f ≤ a.t)) → Ending.returned (.bool q) = .returned (.bool r) := fun q h => ret_bool (by
    rw [hr, Bool.eq_iff_iff, h]
    simp only [Bool.and_eq_true, decide_eq_true_eq, and_assoc])
  clear hr
  by_cases h1 : a.k = b.k
  · have e1 : ((a.k : Int) == (b.k : Int)) = true := by rw [beq_iff_eq]; omega
    have H1 := Lib.hid h1
    clear h1
    go_enter Try.func14, Try.ntmps14
    go_wp2_with fail
    all_goals go_ret
    all_goals (refine ⟨fin _ ?_, HB.out⟩; have := H1.out; simp only [decide_eq_true_eq, Bool.false_eq_true, false_iff]; omega)
  · have e1 : ((a.k : Int) == (b.k : Int)) = false := by rw [beq_eq_false_iff_ne]; omega
    have H1 := Lib.hid h1
    clear h1
    go_enter Try.func14, Try.ntmps14
    go_wp2_with fail
    go_ret
    exact ⟨fin _ (by have := H1.out; simp only [Bool.false_eq_true, false_iff]; omega), HB.out⟩
end Go.Proofs.Ytdnncpikndgabaa
