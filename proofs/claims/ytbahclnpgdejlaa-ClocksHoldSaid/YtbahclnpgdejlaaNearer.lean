import Derived.Test.YtbahclnpgdejlaaSet
set_option linter.unusedVariables false
namespace Go.Proofs.Ytbahclnpgdejlaa
open Go.RowKit
def absI (a : Int) : Int := if a < 0 then -a else a
/-- Is a Div as good as another one? -/
def nearerB (all want d other : Int) : Bool :=
  if other < 1 ∨ 65535 < other then true else
  decide (absI (all / d - want) < absI (all / other - want)) || ((absI (all / d - want) == absI (all / other - want)) && decide (d ≤ other))
set_option maxRecDepth 100000 in
set_option maxHeartbeats 2000000 in
theorem nearer_any (all want d other : Int) (h1 : 0 ≤ all) (h2 : all ≤ 72056494526300160) (h3 : 0 ≤ want) (h4 : want ≤ 1099511627776) (h5 : 1 ≤ d) (w : World) :
    Calls Try.prog 9 #[.int .i64 all, .int .i64 want, .int .i64 d, .int .i64 other] w fun e w' => e = .returned (.bool (nearerB all want d other)) ∧ w = w' := by
  by_cases hb : other < 1 ∨ 65535 < other
  · have e0 : nearerB all want d other = true := by unfold nearerB; rw [if_pos hb]
    rw [e0]
    rcases hb with hb | hb
    all_goals
      clear e0
      go_enter Try.func9, Try.ntmps9
      go_wp2
      go_ret
      exact ⟨rfl, rfl⟩
  · have e0 : nearerB all want d other = (decide (absI (all / d - want) < absI (all / other - want)) || ((absI (all / d - want) == absI (all / other - want)) && decide (d ≤ other))) := by unfold nearerB; rw [if_neg hb]
    rw [e0]
    clear e0
    have b1 : 1 ≤ other := by omega
    have b2 : other ≤ 65535 := by omega
    clear hb
    have q1 : 0 ≤ all / d := Int.ediv_nonneg h1 (by omega)
    have q2 : all / d ≤ all := Int.ediv_le_self _ h1
    have q3 : 0 ≤ all / other := Int.ediv_nonneg h1 (by omega)
    have q4 : all / other ≤ all := Int.ediv_le_self _ h1
    have e1 : IntKind.i64.wrap (all.tdiv d) = all / d := IntWalk.i64_quo _ _ (by omega)
    have e2 : IntKind.i64.wrap (all.tdiv other) = all / other := IntWalk.i64_quo _ _ (by omega)
    have e3 : ¬ d = 0 := by omega
    have e4 : ¬ other = 0 := by omega
    obtain ⟨x, hx⟩ : ∃ x, x = all / d - want := ⟨_, rfl⟩
    obtain ⟨y, hy⟩ : ∃ y, y = all / other - want := ⟨_, rfl⟩
    have e5 : IntKind.i64.wrap (all / d - want) = x := by rw [hx]; exact IntWalk.i64_in _ (by omega)
    have e6 : IntKind.i64.wrap (all / other - want) = y := by rw [hy]; exact IntWalk.i64_in _ (by omega)
    rw [← hx, ← hy]
    have bx : -1099511627776 ≤ x ∧ x ≤ 72056494526300160 := by omega
    have by' : -1099511627776 ≤ y ∧ y ≤ 72056494526300160 := by omega
    clear hx hy
    rcases (show x < 0 ∨ 0 ≤ x by omega) with hx0 | hx0 <;> rcases (show y < 0 ∨ 0 ≤ y by omega) with hy0 | hy0
    all_goals
      first
        | rw [show absI x = -x from by unfold absI; rw [if_pos hx0]]
        | rw [show absI x = x from by unfold absI; rw [if_neg (by omega)]]
      first
        | rw [show absI y = -y from by unfold absI; rw [if_pos hy0]]
        | rw [show absI y = y from by unfold absI; rw [if_neg (by omega)]]
      have e7 : IntKind.i64.wrap (-x) = -x := IntWalk.i64_in _ (by omega)
      have e8 : IntKind.i64.wrap (-y) = -y := IntWalk.i64_in _ (by omega)
      go_enter Try.func9, Try.ntmps9
      go_wp2
      all_goals
        go_ret
        refine ⟨ret_bool ?_, rfl⟩
        try rw [Bool.eq_iff_iff]
        try simp
        try omega
end Go.Proofs.Ytbahclnpgdejlaa
