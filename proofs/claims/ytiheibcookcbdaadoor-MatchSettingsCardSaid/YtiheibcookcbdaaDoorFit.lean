/- Fit, the document's and the program's: contracts. -/
import Derived.Test.YtiheibcookcbdaaDoorOwnC
import Derived.Deep.DeepCutAuto
import Derived.Deep.CutRange
set_option linter.unusedVariables false
namespace Go.Proofs.YtiheibcookcbdaaDoor
open Go.RowKit
set_option maxRecDepth 100000 in
theorem rcards_any (A : Option Addr) (cap n : Nat) (l : List Cd) (hn : n = l.length) (hcap : n ≤ cap) (hz : CSized l) (w : World) (B : Nat) (hB : B ≤ w.heap.size) (hs : Cards w B A l) :
    Calls Tryd.prog 12 #[.slice A n cap] w fun e w' => e = .returned (.bool (allOk (cdat l))) ∧ Below w.heap.size w w' := by
  have hc := rcheck_any A cap n l hn hcap hz w B hB hs
  generalize allOk (cdat l) = ok at *
  have HC := Lib.hid hc
  clear hc hn hcap hz hs
  rcases ok with _ | _
  all_goals
    go_enter Tryd.func12, Tryd.ntmps12
    go_wp2_with (go_at_call 25; refine HC.out.mono ?_; rintro e w1 ⟨hr, hb1⟩; obtain ⟨k, rfl⟩ := hr; have HB1 := Lib.hid hb1; clear hb1)
    go_ret
    exact ⟨by rfl, HB1.out⟩
set_option maxRecDepth 100000 in
theorem cwrong_any (A : Option Addr) (cap n : Nat) (l : List Cd) (hn : n = l.length) (hz : CSized l) (w : World) (B : Nat) (hB : B ≤ w.heap.size) (hs : Cards w B A l) :
    Calls Tryd.prog 13 #[.slice A n cap] w fun e w' => e = .returned (.int .i64 (if allOk (cdat l) then 0 else 70)) ∧ Below w.heap.size w w' := by
  have hc := ccheck_any A cap n l hn hz w B hB hs
  generalize allOk (cdat l) = ok at *
  have HC := Lib.hid hc
  clear hc hn hz hs
  rcases ok with _ | _
  all_goals
    go_enter Tryd.func13, Tryd.ntmps13
    go_wp2_with (go_at_call 26; refine HC.out.mono ?_; rintro e w1 ⟨hr, hb1⟩; obtain ⟨k, rfl⟩ := hr; have HB1 := Lib.hid hb1; clear hb1)
    go_ret
    exact ⟨by rfl, HB1.out⟩
/-- A cell pair of the call's own, through what only makes memory. -/
theorem row_box {w w1 : World} {e : TypeId} {u v : Value} (hb : Below (w.heap.size + 1) (w.alloc (.cells #[u, v] e)) w1) : RowAt w1 w.heap.size e [u, v] ∧ Below w.heap.size w w1 :=
  ⟨RowAt.keep (w := w.alloc (.cells #[u, v] e)) ⟨_, heap_alloc_new _ _, rfl⟩ (hb.block _ (Nat.lt_succ_self _)), ((Below.refl w.heap.size w).alloc (Nat.le_refl _) (.cells #[u, v] e)).trans (hb.mono (Nat.le_succ _))⟩
theorem box_size {w w1 : World} {o : Obj} (hb : Below (w.heap.size + 1) (w.alloc o) w1) : w.heap.size + 1 ≤ w1.heap.size := by have := hb.size; simp at this; omega
theorem RowAt.two {w : World} {g : Nat} {e : TypeId} {u v : Value} (h : RowAt w g e [u, v]) : w.cell? ⟨g, 0, none⟩ = some u ∧ w.cell? ⟨g, 1, none⟩ = some v := ⟨h.cell (k := 0) (by simp), h.cell (k := 1) (by simp)⟩
end Go.Proofs.YtiheibcookcbdaaDoor
