/- The tied card of MatchSettings: the row's statement holds, and what the tables hold is tied to the program's text. -/
import Derived.Test.YtiheibcookcbdaaDoorSetRow
import Derived.Test.YtiheibcookcbdaaDoorTie
import Derived.Test.YtiheibcookcbdaaDoorCards
import Derived.SevenTiedAt
set_option linter.unusedVariables false
namespace Go.Proofs.YtiheibcookcbdaaDoor
open Go
theorem matchSettings_card : Rows.MatchSettingsCardSaid :=
  Claim7.holds_tied_plain_at .later [] [.data, .data, .data, .data, .data] true (true, "c7a03190012089688a1321ffe6164743e8e45d637f2988df20ef4ec21c684438") false
    matchSettings_row (fun _ h => by cases h) (by kernel_rfl) (fun _ h => by cases h) matchSettings_row_tie rfl ⟨rfl, rfl⟩ (by kernel_rfl) rfl
    (fun f fn hf hfn => by
      obtain rfl : f = 3 := Option.some.inj ((show Tryd.prog.funcNamed "reveille/reveillelaw14.MatchSettings" = some 3 by kernel_rfl).symm.trans hf) |>.symm
      obtain rfl : fn = Tryd.f3 := (Option.some.inj (Tryd.func3.symm.trans hfn)).symm
      exact ⟨by kernel_rfl, fun j t ht => by
        rw [Tryd.params3] at ht
        have hm : t ∈ [26, 9, 2] := by simpa using Array.mem_of_getElem? ht
        have hall : ([26, 9, 2].all fun u => !Tryd.prog.wantsStandIn u) = true := by kernel_rfl
        exact (show Tryd.prog.wantsStandIn t = false by simpa using List.all_eq_true.1 hall t hm)⟩)
    (by kernel_rfl)
#print axioms matchSettings_card
end Go.Proofs.YtiheibcookcbdaaDoor
