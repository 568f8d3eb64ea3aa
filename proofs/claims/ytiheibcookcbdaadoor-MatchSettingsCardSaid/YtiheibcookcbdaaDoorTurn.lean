/- What a quirk makes of a number: law and contracts. -/
import Derived.Test.YtiheibcookcbdaaDoorTabM
import Derived.Test.YtiheibcookcbdaaDoorFit
set_option linter.unusedVariables false
namespace Go.Proofs.YtiheibcookcbdaaDoor
open Go.RowKit
/-- What a quirk makes of a number. -/
def turnF (k : ByteArray) (n : Int) : Option Int :=
  if k = ⟨#[]⟩ then some n else if k = bSlow then some (n.tdiv 4) else if k = bHalf then some (n.tdiv 2) else if k = bDouble then some (wrap64 (n + n)) else if k = bOdd then some (if n.tmod 2 = 0 then n else wrap64 (-n)) else none
theorem turn_has (k : ByteArray) (n n' : Int) : (turnF k n).isSome = (turnF k n').isSome := by
  unfold turnF
  repeat' split
  all_goals rfl
theorem turn_ways (k : ByteArray) : k = ⟨#[]⟩ ∨ k = bSlow ∨ k = bHalf ∨ k = bDouble ∨ k = bOdd ∨ (¬ k = ⟨#[]⟩ ∧ ¬ k = bSlow ∧ ¬ k = bHalf ∧ ¬ k = bDouble ∧ ¬ k = bOdd) := by
  by_cases h1 : k = ⟨#[]⟩
  · exact .inl h1
  by_cases h2 : k = bSlow
  · exact .inr (.inl h2)
  by_cases h3 : k = bHalf
  · exact .inr (.inr (.inl h3))
  by_cases h4 : k = bDouble
  · exact .inr (.inr (.inr (.inl h4)))
  by_cases h5 : k = bOdd
  · exact .inr (.inr (.inr (.inr (.inl h5))))
  exact .inr (.inr (.inr (.inr (.inr ⟨h1, h2, h3, h4, h5⟩))))
theorem byd (n d : Int) (hd : d = 1 ∨ d = 2 ∨ d = 4) (q : Nat) (w : World) (h0 : -9223372036854775808 ≤ n) (h1 : n ≤ 9223372036854775807) (hc : w.cell? ⟨q, 0, none⟩ = some (.int .i64 d)) :
    Calls Tryd.prog 28 #[.int .i64 n, .pointer (some ⟨q, 0, none⟩)] w fun e w' => e = .returned (.int .i64 (n.tdiv d)) ∧ w = w' := by
  rcases hd with rfl | rfl | rfl
  all_goals
    go_enter Tryd.func28, Tryd.ntmps28
    go_wp2
    go_ret
    exact ⟨by simp, rfl⟩
theorem dbl (n : Int) (w : World) (h0 : -9223372036854775808 ≤ n) (h1 : n ≤ 9223372036854775807) :
    Calls Tryd.prog 29 #[.int .i64 n] w fun e w' => e = .returned (.int .i64 (wrap64 (n + n))) ∧ w = w' := by
  go_enter Tryd.func29, Tryd.ntmps29
  go_wp2
  go_ret
  exact ⟨rfl, rfl⟩
theorem odd_ (n : Int) (w : World) (h0 : -9223372036854775808 ≤ n) (h1 : n ≤ 9223372036854775807) :
    Calls Tryd.prog 30 #[.int .i64 n] w fun e w' => e = .returned (.int .i64 (if n.tmod 2 = 0 then n else wrap64 (-n))) ∧ w = w' := by
  by_cases h : n.tmod 2 = 0
  · have hb : (n.tmod 2 != 0) = false := by simp [h]
    rw [if_pos h]
    clear h
    go_enter Tryd.func30, Tryd.ntmps30
    go_wp2
    all_goals first
      | (go_ret; exact ⟨rfl, rfl⟩)
      | (exfalso; simp_all)
  · have hb : (n.tmod 2 != 0) = true := by simp [h]
    rw [if_neg h]
    clear h
    go_enter Tryd.func30, Tryd.ntmps30
    go_wp2
    all_goals first
      | (go_ret; exact ⟨rfl, rfl⟩)
      | (exfalso; simp_all)
/-- What the document's Turned hands back. -/
def TurnRet (k : ByteArray) (n : Int) : Ending := match turnF k n with
  | some x => .returned (.tuple #[.int .i64 x, .bool true])
  | none => .returned (.tuple #[.int .i64 0, .bool false])
theorem turned_any (k : ByteArray) (n : Int) (w : World) (h0 : -9223372036854775808 ≤ n) (h1 : n ≤ 9223372036854775807) :
    Calls Tryd.prog 9 #[.string k, .int .i64 n] w fun e w' => e = TurnRet k n ∧ w = w' := by
  rcases turn_ways k with rfl | rfl | rfl | rfl | rfl | ⟨k0, k1, k2, k3, k4⟩
  · have hr : TurnRet ⟨#[]⟩ n = .returned (.tuple #[.int .i64 n, .bool true]) := rfl
    rw [hr]
    go_enter Tryd.func9, Tryd.ntmps9
    go_wp2
    go_ret2
    exact ⟨rfl, rfl⟩
  · have hr : TurnRet bSlow n = .returned (.tuple #[.int .i64 (n.tdiv 4), .bool true]) := rfl
    rw [hr]
    unfold bSlow
    go_enter Tryd.func9, Tryd.ntmps9
    go_wp2
    go_ret2
    exact ⟨rfl, rfl⟩
  · have hr : TurnRet bHalf n = .returned (.tuple #[.int .i64 (n.tdiv 2), .bool true]) := rfl
    rw [hr]
    unfold bHalf
    go_enter Tryd.func9, Tryd.ntmps9
    go_wp2
    go_ret2
    exact ⟨rfl, rfl⟩
  · have hr : TurnRet bDouble n = .returned (.tuple #[.int .i64 (wrap64 (n + n)), .bool true]) := rfl
    rw [hr]
    unfold bDouble
    go_enter Tryd.func9, Tryd.ntmps9
    go_wp2
    go_ret2
    exact ⟨rfl, rfl⟩
  · have hr : TurnRet bOdd n = .returned (.tuple #[.int .i64 (if n.tmod 2 = 0 then n else wrap64 (-n)), .bool true]) := rfl
    rw [hr]
    unfold bOdd
    by_cases h : n.tmod 2 = 0
    · have hb : (n.tmod 2 == 0) = true := by simp [h]
      rw [if_pos h]
      clear h
      go_enter Tryd.func9, Tryd.ntmps9
      go_wp2
      all_goals first
        | (go_ret2; exact ⟨rfl, rfl⟩)
        | (exfalso; simp_all)
    · have hb : (n.tmod 2 == 0) = false := by simp [h]
      rw [if_neg h]
      clear h
      go_enter Tryd.func9, Tryd.ntmps9
      go_wp2
      all_goals first
        | (go_ret2; exact ⟨rfl, rfl⟩)
        | (exfalso; simp_all)
  · have hr : TurnRet k n = .returned (.tuple #[.int .i64 0, .bool false]) := by
      unfold TurnRet turnF
      rw [if_neg k0, if_neg k1, if_neg k2, if_neg k3, if_neg k4]
    rw [hr]
    obtain ⟨f1, f2⟩ := full_facts (s := k) (fun h => k0 (by
      obtain ⟨⟨l⟩⟩ := k
      cases l with
      | nil => rfl
      | cons a l => simp [ByteArray.size] at h))
    have hl : ∀ l : Array UInt8, ByteArray.toList ⟨l⟩ = l.toList := fun l => ByteArray.toList_eq _
    have g1 : (k.toList == [115, 108, 111, 119]) = false := by
      have := str_ne k1
      unfold bSlow at this
      rw [hl #[115, 108, 111, 119]] at this
      exact this
    have g2 : (k.toList == [104, 97, 108, 102]) = false := by
      have := str_ne k2
      unfold bHalf at this
      rw [hl #[104, 97, 108, 102]] at this
      exact this
    have g3 : (k.toList == [100, 111, 117, 98, 108, 101]) = false := by
      have := str_ne k3
      unfold bDouble at this
      rw [hl #[100, 111, 117, 98, 108, 101]] at this
      exact this
    have g4 : (k.toList == [111, 100, 100]) = false := by
      have := str_ne k4
      unfold bOdd at this
      rw [hl #[111, 100, 100]] at this
      exact this
    clear hr k0 k1 k2 k3 k4 hl
    go_enter Tryd.func9, Tryd.ntmps9
    go_wp2
    go_ret2
    exact ⟨rfl, rfl⟩
end Go.Proofs.YtiheibcookcbdaaDoor
