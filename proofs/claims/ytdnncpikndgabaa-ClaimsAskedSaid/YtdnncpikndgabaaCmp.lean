/- The order of claims: the contracts of its parts. -/
import Derived.Test.YtdnncpikndgabaaMeet
import Derived.Deep.DeepCutAuto
set_option linter.unusedVariables false
namespace Go.Proofs.Ytdnncpikndgabaa
open Go.RowKit
def cmpN (x y : Nat) : Int := if x < y then -1 else if y < x then 1 else 0
theorem nan8_any (x : Nat) (w : World) : Calls Try.prog 33 #[.int .u8 (x : Int)] w fun e w' => e = .returned (.bool false) ∧ w = w' := by
  have e1 : ((x : Int) != (x : Int)) = false := bne_self_eq_false _
  go_enter Try.func33, Try.ntmps33
  go_wp2_with fail
  go_ret
  exact ⟨rfl, rfl⟩
theorem nan64_any (x : Nat) (w : World) : Calls Try.prog 34 #[.int .u64 (x : Int)] w fun e w' => e = .returned (.bool false) ∧ w = w' := by
  have e1 : ((x : Int) != (x : Int)) = false := bne_self_eq_false _
  go_enter Try.func34, Try.ntmps34
  go_wp2_with fail
  go_ret
  exact ⟨rfl, rfl⟩
theorem cmp8_any (x y : Nat) (w : World) : Calls Try.prog 21 #[.int .u8 (x : Int), .int .u8 (y : Int)] w fun e w' => e = .returned (.int .i64 (cmpN x y)) ∧ w = w' := by
  have hx := nan8_any x w
  have hy := nan8_any y w
  have fin : ∀ r : Int, (x < y → r = -1) → (y < x → r = 1) → (x = y → r = 0) → Ending.returned (.int .i64 r) = .returned (.int .i64 (cmpN x y)) := fun r h1 h2 h3 => ret_int (by
    unfold cmpN
    by_cases g : x < y
    · rw [if_pos g, h1 g]
    · rw [if_neg g]
      by_cases g2 : y < x
      · rw [if_pos g2, h2 g2]
      · rw [if_neg g2, h3 (by omega)])
  go_enter Try.func21, Try.ntmps21
  go_wp2_with (first
    | (go_at_call 33; (first | (refine hx.mono ?_; clear hx) | (refine hy.mono ?_; clear hy)); rintro e w' ⟨rfl, rfl⟩))
  all_goals go_ret
  all_goals exact ⟨fin _ (by omega) (by omega) (by omega), rfl⟩
theorem cmp64_any (x y : Nat) (w : World) : Calls Try.prog 22 #[.int .u64 (x : Int), .int .u64 (y : Int)] w fun e w' => e = .returned (.int .i64 (cmpN x y)) ∧ w = w' := by
  have hx := nan64_any x w
  have hy := nan64_any y w
  have fin : ∀ r : Int, (x < y → r = -1) → (y < x → r = 1) → (x = y → r = 0) → Ending.returned (.int .i64 r) = .returned (.int .i64 (cmpN x y)) := fun r h1 h2 h3 => ret_int (by
    unfold cmpN
    by_cases g : x < y
    · rw [if_pos g, h1 g]
    · rw [if_neg g]
      by_cases g2 : y < x
      · rw [if_pos g2, h2 g2]
      · rw [if_neg g2, h3 (by omega)])
  go_enter Try.func22, Try.ntmps22
  go_wp2_with (first
    | (go_at_call 34; (first | (refine hx.mono ?_; clear hx) | (refine hy.mono ?_; clear hy)); rintro e w' ⟨rfl, rfl⟩))
  all_goals go_ret
  all_goals exact ⟨fin _ (by omega) (by omega) (by omega), rfl⟩
/-- The first of three that is not nought. -/
def or3 (a b c : Int) : Int := if a ≠ 0 then a else if b ≠ 0 then b else c
set_option maxRecDepth 100000 in
theorem or_any (a b c : Int) (w : World) (g : Nat) (x0 : w.cell? ⟨g, 0, none⟩ = some (.int .i64 a)) (x1 : w.cell? ⟨g, 1, none⟩ = some (.int .i64 b)) (x2 : w.cell? ⟨g, 2, none⟩ = some (.int .i64 c)) :
    Calls Try.prog 20 #[.slice (some ⟨g, 0, none⟩) 3 3] w fun e w' => e = .returned (.int .i64 (or3 a b c)) ∧ w = w' := by
  go_enter Try.func20, Try.ntmps20
  go_wp2_with fail
  go_loopw [5, 8] (fun _ iv wr => w = wr ∧ ((iv = .int .i64 0) ∨ (iv = .int .i64 1 ∧ a = 0) ∨ (iv = .int .i64 2 ∧ a = 0 ∧ b = 0) ∨ (iv = .int .i64 3 ∧ a = 0 ∧ b = 0 ∧ c = 0))) (fun _ iv _ => 3 - (intOf iv).toNat)
  case atStart => exact ⟨rfl, .inl rfl⟩
  case round =>
    obtain ⟨rfl, hrel⟩ := hrel
    rcases hrel with rfl | ⟨rfl, ha⟩ | ⟨rfl, ha, hb⟩ | ⟨rfl, ha, hb, hc⟩
    · by_cases ha : a = 0
      · subst ha
        go_wp2_with fail
        refine ⟨⟨?_, ?_⟩, ?_⟩ <;> simp [intOf]
      · have e1 : (a != 0) = true := by simpa using ha
        have HO := Lib.hid (show a = or3 a b c from (by unfold or3; rw [if_pos ha] : or3 a b c = a).symm)
        clear ha
        go_wp2_with fail
        go_ret
        exact ⟨ret_int HO.out, rfl⟩
    · subst ha
      by_cases hb : b = 0
      · subst hb
        go_wp2_with fail
        refine ⟨⟨?_, ?_⟩, ?_⟩ <;> simp [intOf]
      · have e1 : (b != 0) = true := by simpa using hb
        have HO := Lib.hid (show b = or3 0 b c from (by unfold or3; rw [if_neg (by decide), if_pos hb] : or3 0 b c = b).symm)
        clear hb
        go_wp2_with fail
        go_ret
        exact ⟨ret_int HO.out, rfl⟩
    · subst ha hb
      by_cases hc : c = 0
      · subst hc
        go_wp2_with fail
        refine ⟨⟨?_, ?_⟩, ?_⟩ <;> simp [intOf]
      · have e1 : (c != 0) = true := by simpa using hc
        have HO := Lib.hid (show c = or3 0 0 c from (by unfold or3; rw [if_neg (by decide), if_neg (by decide)] : or3 0 0 c = c).symm)
        clear hc
        go_wp2_with fail
        go_ret
        exact ⟨ret_int HO.out, rfl⟩
    · subst ha hb hc
      have HO := Lib.hid (show 0 = or3 0 0 0 from (by exact rfl : or3 0 0 0 = 0).symm)
      skip
      go_wp2_with fail
      go_ret
      exact ⟨ret_int HO.out, rfl⟩
end Go.Proofs.Ytdnncpikndgabaa
