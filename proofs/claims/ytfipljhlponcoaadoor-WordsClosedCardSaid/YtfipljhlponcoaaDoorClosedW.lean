/- The walk of WordsClosed. -/
import Derived.Test.YtfipljhlponcoaaDoorSmal
import Derived.Test.YtfipljhlponcoaaDoorWorks
set_option linter.unusedVariables false
namespace Go.Proofs.YtfipljhlponcoaaDoor
open Go.RowKit
set_option maxRecDepth 100000 in
set_option maxHeartbeats 32000000 in
theorem closed_walk (w : World) (hy : Lay w) : Calls Tryd.prog 8 #[] w fun e w' => e = .returned (.bool true) ∧ Below w.heap.size w w' := by
  have HY := Lib.hid hy
  have S1 := Lib.hid (pstep_any 32767 1 w (by omega) (by omega) (by omega) (by omega))
  have S2 := Lib.hid (pstep_any (-32768) (-32768) w (by omega) (by omega) (by omega) (by omega))
  have N1 := Lib.hid (pmean_any none 0 [] 0 rfl 0 w Seg.nil (by simp [In8]) (by omega))
  clear hy
  have e1 : sat16 (32767 + 1) = 32767 := by decide
  have e2 : fits16 (32767 + 1) = false := by decide
  have e3 : sat16 (-32768 + -32768) = -32768 := by decide
  have e4 : fits16 (-32768 + -32768) = false := by decide
  have e5 : meanI [] = 0 := by decide
  have e6 : meanE [] = 1 := by decide
  rw [e1, e2] at S1
  rw [e3, e4] at S2
  rw [e5, e6] at N1
  clear e1 e2 e3 e4 e5 e6
  go_enter Tryd.func8, Tryd.ntmps8
  go_wp2_with fail
  refine S1.out.mono ?_
  rintro e w' ⟨rfl, rfl⟩
  go_wp2_with fail
  refine S2.out.mono ?_
  rintro e w' ⟨rfl, rfl⟩
  go_wp2_with fail
  refine N1.out.mono ?_
  rintro e w' ⟨rfl, rfl⟩
  go_wp2_with fail
  have M1 := pmean_any (some ⟨w.heap.size, 0, none⟩) 2 [-1, 0] 2 rfl (w.heap.size + 1) _ (seg_new (w := w) (e := 52) (cs := #[.int .i8 (-1), .int .i8 0])) (by intro z hz; simp at hz; omega) (by omega)
  rw [show meanI [-1, 0] = -1 from by decide, show meanE [-1, 0] = 0 from by decide] at M1
  refine M1.mono ?_
  clear M1
  rintro e w1 ⟨rfl, h1⟩
  have hb1 : Below w.heap.size w w1 := by rw [← h1]; exact (Below.refl _ w).alloc (Nat.le_refl _) _
  have B1 := Lib.hid hb1
  have Y1 := Lib.hid (HY.out.below hb1)
  subst h1
  clear hb1
  go_wp2_with fail
  refine (works_any _ Y1.out).mono ?_
  rintro e w2 ⟨rfl, hb2⟩
  have B2 := Lib.hid (B1.out.trans (hb2.mono B1.out.size))
  clear hb2
  go_wp2_with fail
  refine (pwrap8_any 300 w2).mono ?_
  rw [show IntKind.i8.wrap 300 = 44 from by decide]
  rintro e w' ⟨rfl, rfl⟩
  go_wp2_with fail
  refine (psat8_any 300 w2 (by omega) (by omega)).mono ?_
  rw [show sat8 300 = 127 from by decide]
  rintro e w' ⟨rfl, rfl⟩
  go_wp2_with fail
  refine (pwrap16_any (-32769) w2).mono ?_
  rw [show IntKind.i16.wrap (-32769) = 32767 from by decide]
  rintro e w' ⟨rfl, rfl⟩
  go_wp2_with fail
  refine (psat16_any (-32769) w2 (by omega) (by omega)).mono ?_
  rw [show sat16 (-32769) = -32768 from by decide]
  rintro e w' ⟨rfl, rfl⟩
  go_wp2_with fail
  go_ret
  exact ⟨rfl, B2.out⟩
end Go.Proofs.YtfipljhlponcoaaDoor
