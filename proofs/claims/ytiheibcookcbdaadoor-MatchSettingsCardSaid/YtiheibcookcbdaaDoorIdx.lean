/- strings.IndexFunc's walk at the closure of card.name. -/
import Derived.Test.YtiheibcookcbdaaDoorRunes
import Derived.Test.YtiheibcookcbdaaDoorProg
set_option linter.unusedVariables false
namespace Go.Proofs.YtiheibcookcbdaaDoor
open Go.RowKit
/-- What the closure of card.name is to do. -/
def ClosOk : Prop := ∀ (W : World) (x : Nat), Calls Tryd.prog 40 #[.int .i32 (x : Int)] W fun e w' => e = .returned (.bool (notCh x)) ∧ Below W.heap.size W w'
set_option maxHeartbeats 2000000 in
set_option maxRecDepth 1000000 in
theorem idxfunc_any (hcl : ClosOk) (s : ByteArray) (w : World) (hs : s.size ≤ 31) :
    Calls Tryd.prog 44 #[.string s, .func (.func 40) #[] #[], .bool true] w fun e w' => e = .returned (.int .i64 (Lib.idxFunc notCh true s)) ∧ Below w.heap.size w w' := by
  have HCL := Lib.hid hcl
  clear hcl
  go_enter Tryd.func44, Tryd.ntmps44
  go_wp2_with fail
  go_loopg [] s.size (fun gf wx => ∃ pos : Nat, wx.heap[w.heap.size]? = some (.stringIter s pos) ∧ Below w.heap.size w wx ∧ Lib.idxFuncFrom notCh true s gf pos = Lib.idxFunc notCh true s ∧ s.size ≤ pos + gf)
  case atStart => exact ⟨0, World.iter_heap w s 0, (Below.refl _ w).alloc (Nat.le_refl _) _, rfl, by omega⟩
  case round =>
    obtain ⟨pos, hit, hbw, hleft, hfu⟩ := hrel
    by_cases hps : pos < s.size
    · obtain ⟨g', rfl⟩ : ∃ g', gk = g' + 1 := ⟨gk - 1, by omega⟩
      have hnx : ∀ ty, (Instr.next (.pointer (some ⟨w.heap.size, 0, none⟩)) true ty).run Tryd.prog wr = _ := fun ty => Lib.run_next_any_at wr w.heap.size s pos ty hit hps
      have hwd := Lib.width_pos s pos
      obtain ⟨R, hR⟩ : ∃ R, (Utf8.decode s pos).1 = R := ⟨_, rfl⟩
      obtain ⟨K, hK⟩ : ∃ K, (Utf8.decode s pos).2 = K := ⟨_, rfl⟩
      simp only [Lib.idxFuncFrom, hps, if_true, hR, hK] at hleft
      rw [hR, hK] at hnx
      rw [hK] at hwd
      have hit2 := Lib.iterAt_heap wr w.heap.size s pos (pos + K) hit
      have hbw2 := Lib.below_iterAt hbw (k := w.heap.size) (Nat.le_refl _) s (pos + K)
      obtain ⟨W, hWd⟩ : ∃ W, wr.iterAt w.heap.size s (pos + K) = W := ⟨_, rfl⟩
      rw [hWd] at hnx hit2 hbw2
      have cS := HCL.out W R
      have hlt : w.heap.size < W.heap.size := (Array.getElem?_eq_some_iff.1 hit2).1
      cases hsp : notCh R <;> rw [hsp] at cS <;> simp only [hsp, if_true, Bool.false_eq_true, if_false] at hleft
      · have CS := Lib.hid cS
        have HIT := Lib.hid hit2
        have HBW := Lib.hid hbw2
        have HL := Lib.hid hleft
        clear cS hit2 hbw2 hleft hsp hit hbw hR hK hWd
        go_wp2_with (go_at_call 40; refine CS.out.mono ?_; rintro e W' ⟨rfl, hbq⟩; have HBQ := Lib.hid hbq; clear hbq)
        go_roundg g'
        case measure => omega
        case rel => exact ⟨pos + K, (HBQ.out.block _ hlt).trans HIT.out, HBW.out.trans (HBQ.out.mono (Nat.le_of_lt hlt)), HL.out, by omega⟩
      · have CS := Lib.hid cS
        have HBW := Lib.hid hbw2
        have HL := Lib.hid hleft
        clear cS hit2 hbw2 hleft hsp hit hbw hR hK hWd
        go_wp2_with (go_at_call 40; refine CS.out.mono ?_; rintro e W' ⟨rfl, hbq⟩; have HBQ := Lib.hid hbq; clear hbq)
        go_ret
        exact ⟨by rw [← HL.out] <;> rfl, HBW.out.trans (HBQ.out.mono (Nat.le_of_lt hlt))⟩
    · have hnx : ∀ ty, (Instr.next (.pointer (some ⟨w.heap.size, 0, none⟩)) true ty).run Tryd.prog wr = _ := fun ty => Lib.run_next_end_at wr w.heap.size s pos ty hit hps
      rw [Lib.idxFuncFrom_end notCh true s gk pos hps] at hleft
      have HL := Lib.hid hleft
      have HBW := Lib.hid hbw
      clear hleft hbw
      go_wp2_with fail
      go_ret
      exact ⟨by rw [← HL.out] <;> rfl, HBW.out⟩
end Go.Proofs.YtiheibcookcbdaaDoor
