/- strconv.ParseUint at base 16 -/
import Derived.Test.YtfipljhlponcoaaDoorHexP
set_option linter.unusedVariables false
namespace Go.Proofs.YtfipljhlponcoaaDoor
open Go.RowKit
/-- What an error variable holds. -/
def ErrCell (w : World) (b : Nat) : Prop := ∃ ev, w.cell? ⟨b, 0, none⟩ = some ev ∧ (ev = .nilIface ∨ ∃ te pe, ev = .iface te pe)
theorem hexGo_err (mx n : Nat) (l : List Nat) : (hexGo mx n l).2 = 0 ∨ (hexGo mx n l).2 = 1 ∨ (hexGo mx n l).2 = 2 := by
  induction l generalizing n with
  | nil => exact .inl rfl
  | cons c t ih =>
    unfold hexGo
    split
    · exact .inr (.inr rfl)
    · split
      · exact .inr (.inl rfl)
      · exact ih _
theorem hexPU_err (mx : Nat) (l : List Nat) : (hexPU mx l).2 = 0 ∨ (hexPU mx l).2 = 1 ∨ (hexPU mx l).2 = 2 := by
  unfold hexPU
  split
  · exact .inr (.inr rfl)
  · exact hexGo_err _ _ _
/-- What ParseUint's error is to its caller. -/
def PErr (k : Nat) (v : Value) : Prop := if k = 0 then v = .nilIface else ∃ N, v = .iface 119 (.pointer (some ⟨N, 0, none⟩))
set_option maxRecDepth 100000 in
set_option maxHeartbeats 16000000 in
theorem hexs_any (s : ByteArray) (bs : Nat) (hbs : bs = 8 ∨ bs = 64) (hz : s.size ≤ 281474976710656) (w : World) (h1 : ErrCell w 1) (h2 : ErrCell w 2) (hw : 2 < w.heap.size) :
    Calls Tryd.prog 41 #[.string s, .int .i64 16, .int .i64 bs] w fun e w' => (∃ ev, e = .returned (.tuple #[.int .u64 ((hexPU (mxOf bs) (nl s)).1 : Nat), ev]) ∧ PErr (hexPU (mxOf bs) (nl s)).2 ev) ∧ Below w.heap.size w w' := by
  obtain ⟨e1, h1, g1⟩ := h1
  obtain ⟨e2, h2, g2⟩ := h2
  have HC := hexi_any s bs hbs (by omega) w
  obtain ⟨R, hR⟩ : ∃ R, hexPU (mxOf bs) (nl s) = R := ⟨_, rfl⟩
  have HE := hexPU_err (mxOf bs) (nl s)
  rw [hR] at HC HE ⊢
  obtain ⟨v, k⟩ := R
  have HC2 := Lib.hid HC
  have G1 := Lib.hid (And.intro h1 g1)
  have G2 := Lib.hid (And.intro h2 g2)
  have HW := Lib.hid hw
  clear HC h1 g1 h2 g2 hR hw
  rcases HE with h | h | h
  · obtain rfl : k = _ := h
    have hE := Lib.hid (show errV 0 = .nilIface from rfl)
    go_enter Tryd.func41, Tryd.ntmps41
    go_wp2_with (first
      | (go_at_call 66; refine HC2.out.mono ?_; rintro e w' ⟨rfl, hb⟩; have HB := Lib.hid hb; clear hb; rw [hE.out])
      | (fail))
    go_ret2
    exact ⟨⟨_, rfl, rfl⟩, HB.out⟩
  · obtain rfl : k = _ := h
    have hE := Lib.hid (show errV 1 = .iface 118 (.int .i64 1) from rfl)
    go_enter Tryd.func41, Tryd.ntmps41
    go_wp2_with (first
      | (go_at_call 66; refine HC2.out.mono ?_; rintro e w' ⟨rfl, hb⟩; have HB := Lib.hid hb; clear hb; rw [hE.out])
      | (go_at_call 64; refine (Tryd.strconv_toError_range _ s _ _ e2 _ (by omega) (by rw [HB.out.cell HW.out]; exact G2.out.1) G2.out.2).mono ?_; rintro e w'' ⟨N, rfl, hN, hC, hb2⟩; have HB2 := Lib.hid (below_next HB.out hb2); clear hN hC hb2)
      | (fail))
    go_ret2
    exact ⟨⟨_, rfl, ⟨_, rfl⟩⟩, HB2.out⟩
  · obtain rfl : k = _ := h
    have hE := Lib.hid (show errV 2 = .iface 118 (.int .i64 2) from rfl)
    go_enter Tryd.func41, Tryd.ntmps41
    go_wp2_with (first
      | (go_at_call 66; refine HC2.out.mono ?_; rintro e w' ⟨rfl, hb⟩; have HB := Lib.hid hb; clear hb; rw [hE.out])
      | (go_at_call 64; refine (Tryd.strconv_toError_syntax _ s _ _ e1 _ (by omega) (by rw [HB.out.cell (Nat.lt_of_lt_of_le (by decide) (Nat.le_of_lt HW.out))]; exact G1.out.1) G1.out.2).mono ?_; rintro e w'' ⟨N, rfl, hN, hC, hb2⟩; have HB2 := Lib.hid (below_next HB.out hb2); clear hN hC hb2)
      | (fail))
    go_ret2
    exact ⟨⟨_, rfl, ⟨_, rfl⟩⟩, HB2.out⟩
end Go.Proofs.YtfipljhlponcoaaDoor
