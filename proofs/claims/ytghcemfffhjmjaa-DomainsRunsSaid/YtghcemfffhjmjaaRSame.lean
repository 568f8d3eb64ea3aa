/- DomainsRuns: numbers and changes. -/
import Derived.Test.YtghcemfffhjmjaaRWhy
set_option linter.unusedVariables false
namespace Go.Proofs.Ytghcemfffhjmjaa
open Go.RowKit
set_option maxRecDepth 100000 in
set_option maxHeartbeats 4000000 in
theorem numbers_same (A B : Option Addr) (ca cb : Nat) (l : List Nat) (n : Nat) (hn : n = l.length) (hn5 : n ≤ 100000) (w : World) (ha : Seg w w.heap.size A (nats l)) (hb : Seg w w.heap.size B (nats l)) :
    Calls Try.prog 39 #[.slice A n ca, .slice B n cb] w fun e w' => e = .returned (.bool true) ∧ Below w.heap.size w w' := by
  have HA := Lib.hid ha
  have HB := Lib.hid hb
  have HN := Lib.hid hn
  clear ha hb hn
  go_enter Try.func39, Try.ntmps39
  go_wp2_with fail
  go_loopw [5] (fun iv wr => ∃ i : Nat, i ≤ n ∧ iv = .int .i64 i ∧ Below w.heap.size w wr) (fun iv _ => n - (intOf iv).toNat)
  case atStart => exact ⟨0, by omega, rfl, Below.refl _ _⟩
  case round =>
    obtain ⟨i, hi, rfl, hb⟩ := hrel
    have HBL := Lib.hid hb
    clear hb
    by_cases hin : i < n
    · have hii : (i : Int) < (n : Int) := by omega
      have hil : i < l.length := by rw [← HN.out]; exact hin
      obtain ⟨b1, o1, rfl, _, z1⟩ := (HA.out.below HBL.out).nat hil
      obtain ⟨b2, o2, rfl, _, z2⟩ := (HB.out.below HBL.out).nat hil
      generalize l[i] = q at z1 z2
      go_wp2_with fail
      go_quiet (fail)
      go_wp2_with fail
      exact ⟨⟨i + 1, by omega, by go_num, below_drewN HBL.out _⟩, by simp [intOf]; omega⟩
    · obtain rfl : i = n := by omega
      go_wp2_with fail
      go_ret
      exact ⟨by rfl, HBL.out⟩
set_option maxRecDepth 100000 in
set_option maxHeartbeats 4000000 in
theorem changes_same (A B : Option Addr) (ca cb : Nat) (l : List (Nat × Nat × Nat)) (n : Nat) (hn : n = l.length) (hn5 : n ≤ 100000) (w : World) (ha : Seg w w.heap.size A (chCells l)) (hb : Seg w w.heap.size B (chCells l)) :
    Calls Try.prog 31 #[.slice A n ca, .slice B n cb] w fun e w' => e = .returned (.bool true) ∧ Below w.heap.size w w' := by
  have HA := Lib.hid ha
  have HB := Lib.hid hb
  have HN := Lib.hid hn
  clear ha hb hn
  go_enter Try.func31, Try.ntmps31
  go_wp2_with fail
  go_loopw [5] (fun iv wr => ∃ i : Nat, i ≤ n ∧ iv = .int .i64 i ∧ Below w.heap.size w wr) (fun iv _ => n - (intOf iv).toNat)
  case atStart => exact ⟨0, by omega, rfl, Below.refl _ _⟩
  case round =>
    obtain ⟨i, hi, rfl, hb⟩ := hrel
    have HBL := Lib.hid hb
    clear hb
    by_cases hin : i < n
    · have hii : (i : Int) < (n : Int) := by omega
      have hil : i < l.length := by rw [← HN.out]; exact hin
      obtain ⟨b1, o1, rfl, _, x0, x1, x2⟩ := seg_ch (HA.out.below HBL.out) hil
      obtain ⟨b2, o2, rfl, _, y0, y1, y2⟩ := seg_ch (HB.out.below HBL.out) hil
      generalize l[i].1 = q0 at x0 y0
      generalize l[i].2.1 = q1 at x1 y1
      generalize l[i].2.2 = q2 at x2 y2
      go_wp2_with fail
      go_quiet (fail)
      go_wp2_with fail
      exact ⟨⟨i + 1, by omega, by go_num, below_drewN HBL.out _⟩, by simp [intOf]; omega⟩
    · obtain rfl : i = n := by omega
      go_wp2_with fail
      go_ret
      exact ⟨by rfl, HBL.out⟩
end Go.Proofs.Ytghcemfffhjmjaa
