/- The walk of WordsShows. -/
import Derived.Test.YtfipljhlponcoaaRFit
set_option linter.unusedVariables false
namespace Go.Proofs.Ytfipljhlponcoaa
open Go.RowKit
set_option maxRecDepth 100000 in
set_option maxHeartbeats 16000000 in
theorem shows_walk (s : ByteArray) (m : Int) (w : World) (hz : s.size ≤ 1048576) :
    Calls Try.prog 5 #[.string s, .int .i64 m] w fun e w' => e = .returned (.bool true) ∧ Below w.heap.size w w' := by
  have F1 := Lib.hid fun W => fit_any s m W hz
  have F2 := Lib.hid fun W => rfit_any s m W hz
  have G1 := Lib.hid fun W => show_any s W hz
  have G2 := Lib.hid fun W => rshow_any s W hz
  have H1 := Lib.hid fun W => width_any s W hz
  have H2 := Lib.hid fun W => rwidth_any s W hz
  obtain ⟨e0, he0⟩ : ∃ e0, (fitF (nl s) m).2 = e0 := ⟨_, rfl⟩
  obtain ⟨L, hL⟩ : ∃ L, (shows 92 (nl s)).length = L := ⟨_, rfl⟩
  rw [he0] at F1 F2
  rw [hL] at H1 H2
  clear he0 hL
  go_enter Try.func5, Try.ntmps5
  go_wp2_with (first
    | (go_at_call 22; refine (F1.out _).mono ?_; rintro e w1 ⟨t1, rfl, h1, b1⟩; have A1 := Lib.hid h1; have B1 := Lib.hid b1; clear h1 b1)
    | (go_at_call 23; refine (F2.out _).mono ?_; rintro e w2 ⟨t2, rfl, h2, b2⟩; obtain rfl : t2 = t1 := nl_inj (h2.trans A1.out.symm); have B2 := Lib.hid (B1.out.trans (b2.mono B1.out.size)); clear h2 b2)
    | (go_at_call 24; refine (G1.out _).mono ?_; rintro e w3 ⟨t3, rfl, h3, b3⟩; have A3 := Lib.hid h3; have B3 := Lib.hid (B2.out.trans (b3.mono B2.out.size)); clear h3 b3)
    | (go_at_call 25; refine (G2.out _).mono ?_; rintro e w4 ⟨t4, rfl, h4, b4⟩; obtain rfl : t4 = t3 := nl_inj (h4.trans A3.out.symm); have B4 := Lib.hid (B3.out.trans (b4.mono B3.out.size)); clear h4 b4)
    | (go_at_call 26; refine (H1.out _).mono ?_; rintro e w5 ⟨rfl, b5⟩; have B5 := Lib.hid (B4.out.trans (b5.mono B4.out.size)); clear b5)
    | (go_at_call 27; refine (H2.out _).mono ?_; rintro e w6 ⟨rfl, b6⟩; have B6 := Lib.hid (B5.out.trans (b6.mono B5.out.size)); clear b6)
    | (fail))
  go_ret
  exact ⟨rfl, B6.out⟩
end Go.Proofs.Ytfipljhlponcoaa
