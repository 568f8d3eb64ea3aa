/- Contracts of there, Rate and of Round's closure. -/
import Derived.Test.YtbahclnpgdejlaaNew
set_option linter.unusedVariables false
namespace Go.Proofs.Ytbahclnpgdejlaa
open Go.RowKit
section
variable {w : World} {B nb n : Nat} {Ac Ar Au Ah : Option Addr} {cc cr cu ch : Nat} {s : St}
theorem NetAt.c0 (h : NetAt w B nb n Ac Ar Au Ah cc cr cu ch s) : w.cell? ⟨nb, 0, none⟩ = some (.slice Ac n cc) := cell_of_row w nb 0 _ _ (0, 0) h.box
theorem NetAt.c1 (h : NetAt w B nb n Ac Ar Au Ah cc cr cu ch s) : w.cell? ⟨nb, 1, none⟩ = some (.slice Ar n cr) := cell_of_row w nb 1 _ _ (0, 0) h.box
theorem NetAt.c2 (h : NetAt w B nb n Ac Ar Au Ah cc cr cu ch s) : w.cell? ⟨nb, 2, none⟩ = some (.slice Au n cu) := cell_of_row w nb 2 _ _ (0, 0) h.box
theorem NetAt.c3 (h : NetAt w B nb n Ac Ar Au Ah cc cr cu ch s) : w.cell? ⟨nb, 3, none⟩ = some (.slice Ah n ch) := cell_of_row w nb 3 _ _ (0, 0) h.box
theorem NetAt.lt (h : NetAt w B nb n Ac Ar Au Ah cc cr cu ch s) : nb < w.heap.size := lt_of_heap h.box
theorem Vec.seg {A : Option Addr} {e : TypeId} {xs : List Value} (h : Vec w B A e xs) : Seg w w.heap.size A xs := fun hx => by
  obtain ⟨g, rfl, hb, hr⟩ := h hx
  exact hr.seg hr.lt hx
end
theorem there_ok (nb n cc : Nat) (A : Option Addr) (i : Int) (w : World) (h0 : w.cell? ⟨nb, 0, none⟩ = some (.slice A n cc)) (h1 : 0 ≤ i) (h2 : i < n) :
    Calls Try.prog 25 #[.pointer (some ⟨nb, 0, none⟩), .int .i64 i] w fun e w' => e = .returned (.int .i64 0) ∧ w = w' := by
  go_enter Try.func25, Try.ntmps25
  go_wp2
  go_ret
  exact ⟨rfl, rfl⟩
theorem there_no (nb n cc : Nat) (A : Option Addr) (i : Int) (w : World) (h0 : w.cell? ⟨nb, 0, none⟩ = some (.slice A n cc)) (h1 : i < 0 ∨ n ≤ i) :
    Calls Try.prog 25 #[.pointer (some ⟨nb, 0, none⟩), .int .i64 i] w fun e w' => e = .returned (.int .i64 1) ∧ w = w' := by
  by_cases h2 : i < 0
  · clear h1
    go_enter Try.func25, Try.ntmps25
    go_wp2
    go_ret
    exact ⟨rfl, rfl⟩
  · have h3 : (n : Int) ≤ i := by omega
    clear h1
    go_enter Try.func25, Try.ntmps25
    go_wp2
    go_ret
    exact ⟨rfl, rfl⟩
theorem rate_ok {nb n cr cc : Nat} {A R : Option Addr} {rs : List Int} {k : Nat} {w : World} {B : Nat} (h0 : w.cell? ⟨nb, 0, none⟩ = some (.slice A n cc)) (h1 : w.cell? ⟨nb, 1, none⟩ = some (.slice R n cr)) (hr : Seg w B R (i64s rs)) (hk : k < n) (hn : n = rs.length) :
    Calls Try.prog 28 #[.pointer (some ⟨nb, 0, none⟩), .int .i64 k] w fun e w' => e = .returned (.tuple #[.int .i64 (rs.getD k 0), .int .i64 0]) ∧ w = w' := by
  have hkr : k < rs.length := by omega
  obtain ⟨b, off, rfl, hb, hc⟩ := hr.i64 hkr
  have hv : rs.getD k 0 = rs[k] := by simp [List.getD, hkr]
  rw [hv]
  obtain ⟨v, hvv⟩ : ∃ v, v = rs[k] := ⟨_, rfl⟩
  rw [← hvv] at hc ⊢
  have hki : (k : Int) < (n : Int) := by omega
  clear hn hr hv hvv
  go_enter Try.func28, Try.ntmps28
  go_wp2_with (go_at_call 25; refine (there_ok _ _ _ _ _ _ h0 (by omega) (by omega)).mono ?_; rintro e w' ⟨rfl, rfl⟩)
  go_ret2
  exact ⟨rfl, rfl⟩
def leastOf (all r : Int) : Int := min (all / (r + 1) + 1) 65535
theorem least_any (all r : Int) (b : Nat) (w : World) (hc : w.cell? ⟨b, 0, none⟩ = some (.int .i64 all)) (h1 : 0 ≤ all) (h2 : all ≤ 72056494526300160) (h3 : 0 ≤ r) (h4 : r ≤ 72056494526300160) :
    Calls Try.prog 27 #[.int .i64 r, .pointer (some ⟨b, 0, none⟩)] w fun e w' => e = .returned (.int .i64 (leastOf all r)) ∧ w = w' := by
  have d1 : 0 ≤ all / (r + 1) := Int.ediv_nonneg h1 (by omega)
  have d2 : all / (r + 1) ≤ all := Int.ediv_le_self _ h1
  go_enter Try.func27, Try.ntmps27
  go_wp2
  all_goals go_ret
  all_goals exact ⟨ret_int (by unfold leastOf; omega), rfl⟩
end Go.Proofs.Ytbahclnpgdejlaa
