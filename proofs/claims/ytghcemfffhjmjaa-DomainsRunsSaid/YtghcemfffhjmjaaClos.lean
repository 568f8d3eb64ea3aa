/- The two closures of reckon: contracts. -/
import Derived.Test.YtghcemfffhjmjaaReckon
set_option linter.unusedVariables false
namespace Go.Proofs.Ytghcemfffhjmjaa
open Go.RowKit
theorem vote1_any (u d u0 d0 : Nat) (hu : u < 1024) (hd : d < 256) (hu0 : u0 < 1024) (hd0 : d0 < 256) (b : Nat) (w : World) (hb : b < w.heap.size) (c0 : w.cell? ⟨b, 0, none⟩ = some (.int .i64 (u0 : Int))) (c1 : w.cell? ⟨b, 1, none⟩ = some (.int .i64 (d0 : Int))) :
    Calls Try.prog 25 #[seat u d, .pointer (some ⟨b, 0, none⟩)] w fun e w' => e = .returned (.bool (!decide ((u : Int) = u0 ∧ (d : Int) = d0))) ∧ Below w.heap.size w w' := by
  rw [show seat u d = Value.agg #[.int .i64 (u : Int), .int .i64 (d : Int)] from rfl]
  have k0 := (World.cell?_alloc_lt w (.cells #[.int .i64 (u : Int), .int .i64 (d : Int)] 66) ⟨b, 0, none⟩ hb).trans c0
  have k1 := (World.cell?_alloc_lt w (.cells #[.int .i64 (u : Int), .int .i64 (d : Int)] 66) ⟨b, 1, none⟩ hb).trans c1
  go_enter Try.func25, Try.ntmps25
  go_wp2_with fail
  all_goals
    go_ret
    refine ⟨ret_bool ?_, (Below.refl _ _).alloc (Nat.le_refl _) _⟩
    simp_all
theorem leave1_any (u d u0 : Nat) (hu : u < 1024) (hd : d < 256) (hu0 : u0 < 1024) (b : Nat) (w : World) (hb : b < w.heap.size) (c0 : w.cell? ⟨b, 0, none⟩ = some (.int .i64 (u0 : Int))) :
    Calls Try.prog 28 #[seat u d, .pointer (some ⟨b, 0, none⟩)] w fun e w' => e = .returned (.bool (!decide ((u : Int) = u0))) ∧ Below w.heap.size w w' := by
  rw [show seat u d = Value.agg #[.int .i64 (u : Int), .int .i64 (d : Int)] from rfl]
  have k0 := (World.cell?_alloc_lt w (.cells #[.int .i64 (u : Int), .int .i64 (d : Int)] 66) ⟨b, 0, none⟩ hb).trans c0
  go_enter Try.func28, Try.ntmps28
  go_wp2_with fail
  go_ret
  refine ⟨ret_bool ?_, (Below.refl _ _).alloc (Nat.le_refl _) _⟩
  by_cases h : (u : Int) = u0 <;> simp [h]
end Go.Proofs.Ytghcemfffhjmjaa
