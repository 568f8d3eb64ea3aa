/- ref01.digit: the contract. -/
import Derived.Test.YtfipljhlponcoaaDoorLineLaw
import Derived.Test.YtfipljhlponcoaaDoorProg
import Derived.LoopTactic
set_option linter.unusedVariables false
namespace Go.Proofs.YtfipljhlponcoaaDoor
open Go.RowKit
theorem digS_at (k : Nat) (h : k < 16) : ((⟨#[48, 49, 50, 51, 52, 53, 54, 55, 56, 57, 97, 98, 99, 100, 101, 102]⟩ : ByteArray)[k]'h).toNat = hexd k := by
  have : ∀ k : Fin 16, ((⟨#[48, 49, 50, 51, 52, 53, 54, 55, 56, 57, 97, 98, 99, 100, 101, 102]⟩ : ByteArray)[k.1]'k.2).toNat = hexd k := by decide
  exact this ⟨k, h⟩
theorem hxV_none {c : Nat} (h : ∀ j, j < 16 → hexd j ≠ c) : hxV c = -1 := by
  unfold hxV
  split
  · exact absurd (by unfold hexd; split <;> omega) (h (c - 48) (by omega))
  split
  · exact absurd (by unfold hexd; split <;> omega) (h (c - 87) (by omega))
  · rfl
set_option maxHeartbeats 4000000 in
theorem digit_any (c : Nat) (w : World) (hc : c < 256) : Calls Tryd.prog 77 #[.int .u8 c] w fun e w' => e = .returned (.int .i64 (hxV c)) ∧ w = w' := by
  go_enter Tryd.func77, Tryd.ntmps77
  go_wp2_with fail
  go_loop [3] (fun i => ∃ k : Nat, k ≤ 16 ∧ i = .int .i64 k ∧ ∀ j, j < k → hexd j ≠ c) (fun i => 16 - (intOf i).toNat)
  case atStart => exact ⟨0, by omega, rfl, by omega⟩
  case round =>
    obtain ⟨k, hk, rfl, hall⟩ := hrel
    have H := Lib.hid hall
    clear hall
    by_cases hlt : k < 16
    · have hd := digS_at k hlt
      by_cases he : hexd k = c
      · subst he
        have H1 := Lib.hid hlt
        have hki : (k : Int) < 16 := by omega
        go_wp2_with fail
        go_ret
        exact ⟨ret_int (hxV_hexd H1.out).symm, rfl⟩
      · have HE := Lib.hid he
        go_wp2_with fail
        go_round
        case rel => exact ⟨k + 1, by omega, by go_num, fun j hj => by
          rcases Nat.lt_or_ge j k with h | h
          · exact H.out j h
          · obtain rfl : j = k := by omega
            exact HE.out⟩
        case measure => simp [intOf]; omega
    · obtain rfl : k = 16 := by omega
      go_wp2_with fail
      go_ret
      exact ⟨ret_int (hxV_none H.out).symm, rfl⟩
end Go.Proofs.YtfipljhlponcoaaDoor
