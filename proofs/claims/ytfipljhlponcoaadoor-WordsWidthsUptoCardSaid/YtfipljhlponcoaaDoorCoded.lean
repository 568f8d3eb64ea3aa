/- ref01.Coded: the contract. -/
import Derived.Test.YtfipljhlponcoaaDoorFitA
set_option linter.unusedVariables false
namespace Go.Proofs.YtfipljhlponcoaaDoor
open Go.RowKit
theorem str_new {w : World} (l : List Nat) (hl : ∀ x ∈ l, x < 256) {cs : Array Value} (hcs : cs.toList = bV l) {n : Nat} (hn : n = l.length) (c : Nat) : ∃ t, (convert 72 9 (.slice (some ⟨w.heap.size, 0, none⟩) n c)).run Tryd.prog (w.alloc (.cells cs 5)) = .ok (.string t) (w.alloc (.cells cs 5)) ∧ nl t = l :=
  str_row hn (hcs ▸ seg_new (e := 5)) hl
set_option maxRecDepth 100000 in
set_option maxHeartbeats 16000000 in
theorem coded_any (r : Nat) (hr : r ≤ 1114111) (w : World) :
    Calls Tryd.prog 116 #[.int .i32 r] w fun e w' => ∃ t, e = .returned (.string t) ∧ nl t = encN r ∧ Below w.heap.size w w' := by
  by_cases h1 : r < 128
  · have e : encN r = [r] := by unfold encN; rw [if_pos h1]
    rw [e]
    have h1d : decide ((r : Int) < 128) = true := by simp; omega
    obtain ⟨t, ht, hn⟩ := str_new (w := w) [r] (by intro x hx; simp at hx; omega) (cs := #[.int .u8 ↑r]) (by simp [bV]) (n := 1) rfl 1
    go_enter Tryd.func116, Tryd.ntmps116
    go_wp2_with (fail)
    go_ret
    exact ⟨t, rfl, hn, (Below.refl _ _).alloc (Nat.le_refl _) _⟩
  have h1d : decide ((r : Int) < 128) = false := by simp; omega
  by_cases h2 : r < 2048
  · have e : encN r = [192 + r / 64, 128 + r % 64] := by unfold encN; rw [if_neg (by omega), if_pos (by omega)]
    rw [e]
    have h2d : decide ((r : Int) < 2048) = true := by simp; omega
    obtain ⟨t, ht, hn⟩ := str_new (w := w) [192 + r / 64, 128 + r % 64] (by intro x hx; simp at hx; omega) (cs := #[.int .u8 (192 + ↑r / 64), .int .u8 (128 + ↑r % 64)]) (by simp [bV]) (n := 2) rfl 2
    go_enter Tryd.func116, Tryd.ntmps116
    go_wp2_with (fail)
    go_ret
    exact ⟨t, rfl, hn, (Below.refl _ _).alloc (Nat.le_refl _) _⟩
  have h2d : decide ((r : Int) < 2048) = false := by simp; omega
  by_cases h3 : r < 65536
  · have e : encN r = [224 + r / 4096, 128 + r / 64 % 64, 128 + r % 64] := by unfold encN; rw [if_neg (by omega), if_neg (by omega), if_pos (by omega)]
    rw [e]
    have h3d : decide ((r : Int) < 65536) = true := by simp; omega
    obtain ⟨t, ht, hn⟩ := str_new (w := w) [224 + r / 4096, 128 + r / 64 % 64, 128 + r % 64] (by intro x hx; simp at hx; omega) (cs := #[.int .u8 (224 + ↑r / 4096), .int .u8 (128 + ↑r / 64 % 64), .int .u8 (128 + ↑r % 64)]) (by simp [bV]) (n := 3) rfl 3
    go_enter Tryd.func116, Tryd.ntmps116
    go_wp2_with (fail)
    go_ret
    exact ⟨t, rfl, hn, (Below.refl _ _).alloc (Nat.le_refl _) _⟩
  have h3d : decide ((r : Int) < 65536) = false := by simp; omega
  have e : encN r = [240 + r / 262144, 128 + r / 4096 % 64, 128 + r / 64 % 64, 128 + r % 64] := by unfold encN; rw [if_neg (by omega), if_neg (by omega), if_neg (by omega)]
  rw [e]
  obtain ⟨t, ht, hn⟩ := str_new (w := w) [240 + r / 262144, 128 + r / 4096 % 64, 128 + r / 64 % 64, 128 + r % 64] (by intro x hx; simp at hx; omega) (cs := #[.int .u8 (240 + ↑r / 262144), .int .u8 (128 + ↑r / 4096 % 64), .int .u8 (128 + ↑r / 64 % 64), .int .u8 (128 + ↑r % 64)]) (by simp [bV]) (n := 4) rfl 4
  go_enter Tryd.func116, Tryd.ntmps116
  go_wp2_with (fail)
  go_ret
  exact ⟨t, rfl, hn, (Below.refl _ _).alloc (Nat.le_refl _) _⟩
end Go.Proofs.YtfipljhlponcoaaDoor
