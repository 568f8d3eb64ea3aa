/- strings.IndexRune at the rune of an error, over an ASCII text. -/
import Derived.Test.YtiheibcookcbdaaDoorRunes
import Derived.Test.YtiheibcookcbdaaDoorProg
set_option linter.unusedVariables false
namespace Go.Proofs.YtiheibcookcbdaaDoor
open Go.RowKit
set_option maxHeartbeats 4000000 in
set_option maxRecDepth 1000000 in
theorem irune_fffd (s : ByteArray) (hm : s.size = 8) (hall : ∀ i (h : i < s.size), (s[i]'h).toNat < 128) (w : World) :
    Calls Tryd.prog 45 #[.string s, .int .i32 65533] w fun e w' => e = .returned (.int .i64 (-1)) ∧ Below w.heap.size w w' := by
  have HA := Lib.hid hall
  have HM := Lib.hid hm
  clear hall hm
  go_enter Tryd.func45, Tryd.ntmps45
  go_wp2_with fail
  go_loopg [5, 6] s.size (fun gf _ _ wx => ∃ pos : Nat, wx.heap[w.heap.size]? = some (.stringIter s pos) ∧ Below w.heap.size w wx ∧ s.size ≤ pos + gf)
  case atStart => exact ⟨0, World.iter_heap w s 0, (Below.refl _ w).alloc (Nat.le_refl _) _, by omega⟩
  case round =>
    obtain ⟨pos, hit, hbw, hfu⟩ := hrel
    by_cases hps : pos < s.size
    · obtain ⟨g', rfl⟩ : ∃ g', gk = g' + 1 := ⟨gk - 1, by omega⟩
      have hnx : ∀ ty, (Instr.next (.pointer (some ⟨w.heap.size, 0, none⟩)) true ty).run Tryd.prog wr = _ := fun ty => Lib.run_next_any_at wr w.heap.size s pos ty hit hps
      have h128 := HA.out pos hps
      rw [decode_ascii s pos hps h128] at hnx
      have hit2 := Lib.iterAt_heap wr w.heap.size s pos (pos + 1) hit
      have hbw2 := Lib.below_iterAt hbw (k := w.heap.size) (Nat.le_refl _) s (pos + 1)
      obtain ⟨R, hR⟩ : ∃ R, R = (s[pos]'hps).toNat := ⟨_, rfl⟩
      rw [← hR] at hnx h128
      have hne : ((R : Int) == 65533) = false := by rw [beq_eq_false_iff_ne]; omega
      have HIT := Lib.hid hit2
      have HBW := Lib.hid hbw2
      clear hit2 hbw2 hit hbw hR
      go_wp2_with fail
      go_roundg g'
      case measure => omega
      case rel => exact ⟨pos + 1, HIT.out, HBW.out, by omega⟩
    · have hnx : ∀ ty, (Instr.next (.pointer (some ⟨w.heap.size, 0, none⟩)) true ty).run Tryd.prog wr = _ := fun ty => Lib.run_next_end_at wr w.heap.size s pos ty hit hps
      have HBW := Lib.hid hbw
      clear hbw
      go_wp2_with fail
      go_ret
      exact ⟨by rfl, HBW.out⟩
end Go.Proofs.YtiheibcookcbdaaDoor
