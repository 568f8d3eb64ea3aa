/- Level, Wants, and Vote's refusals: contracts. -/
import Derived.Test.YtghcemfffhjmjaaVote
set_option linter.unusedVariables false
namespace Go.Proofs.Ytghcemfffhjmjaa
open Go.RowKit
theorem wpList_look {w : World} {ops : Array Oper} {rest : List Oper} {o : Oper} {a : Act} {Q : Exit → Act → World → Prop} (hgd : o.guard = none) (m x : Operand) (ho : o.op = .lookup 59 m x false)
    {mb : Nat} (u d : Int) (h1 : a.eval m = .map (some mb)) (h2 : a.eval x = seat u d) {v : Value} (hl : (Instr.lookup 59 (.map (some mb)) (seat u d) false).run Try.prog w = .ok v w)
    (h : wpList Try.prog ops Q rest (a.put o.dst v) w) : wpList Try.prog ops Q (o :: rest) a w := by
  refine wpList_plain hgd fun K' hK' => ?_
  unfold Oper.wp
  simp [execOp, ho, h1, h2, hl, Result.andThen]
  exact hK' _ _ h
section
variable {w : World} {nb mb N n : Nat} {Ad : Option Addr} {cd : Nat} {l : List Dmm} {W : Int → Int → Nat} {f : Nat → Nat}
set_option maxRecDepth 100000 in
theorem level_ok (h : NetAt w nb mb N n Ad cd l W f) (hn : n ≤ 256) {d : Nat} (hd : d < n) : Calls Try.prog 13 #[.pointer (some ⟨nb, 0, none⟩), .int .i64 (d : Int)] w fun e w' => e = .returned (.int .u8 (f d : Int)) ∧ w = w' := by
  have c0 := h.c0
  have c2 := h.lv (d := d) (by omega)
  have hd1 : (d : Int) < (n : Int) := by omega
  have hd2 : (d : Int) < 256 := by omega
  clear h
  go_enter Try.func13, Try.ntmps13
  go_wp2_with fail
  go_ret
  exact ⟨rfl, rfl⟩
theorem level_no (h : NetAt w nb mb N n Ad cd l W f) {d : Int} (hd : d < 0 ∨ (n : Int) ≤ d) : Calls Try.prog 13 #[.pointer (some ⟨nb, 0, none⟩), .int .i64 d] w fun e w' => e = .returned (.int .u8 0) ∧ w = w' := by
  have c0 := h.c0
  clear h
  rcases hd with hd | hd
  · go_enter Try.func13, Try.ntmps13
    go_wp2_with fail
    go_ret
    exact ⟨rfl, rfl⟩
  · by_cases h0 : d < 0
    · go_enter Try.func13, Try.ntmps13
      go_wp2_with fail
      go_ret
      exact ⟨rfl, rfl⟩
    · go_enter Try.func13, Try.ntmps13
      go_wp2_with fail
      go_ret
      exact ⟨rfl, rfl⟩
theorem wants_ok (h : NetAt w nb mb N n Ad cd l W f) (u d : Int) (hu : (Lit.int .i64 u).wf = true) (hd : (Lit.int .i64 d).wf = true) : Calls Try.prog 12 #[.pointer (some ⟨nb, 0, none⟩), .int .i64 u, .int .i64 d] w fun e w' => e = .returned (.int .u8 (W u d : Int)) ∧ w = w' := by
  have c1 := h.c1
  have hl := h.wants.look u d hu hd
  have HL := Lib.hid hl
  clear h hl
  go_enter Try.func12, Try.ntmps12
  go_wp2_with (at_lookup; refine wpList_look rfl (.tmp 12) (.tmp 15) rfl u d rfl rfl HL.out ?_)
  go_ret
  exact ⟨rfl, rfl⟩
theorem vote_arg (h : NetAt w nb mb N n Ad cd l W f) (u d : Int) (v : Nat) (hud : u < 0 ∨ 1024 ≤ u ∨ d < 0 ∨ (n : Int) ≤ d) : Calls Try.prog 11 #[.pointer (some ⟨nb, 0, none⟩), .int .i64 u, .int .i64 d, .int .u8 (v : Int)] w fun e w' => e = .returned (.tuple #[.slice none 0 0, .int .i64 1]) ∧ w = w' := by
  have c0 := h.c0
  clear h
  by_cases h1 : u < 0
  · go_enter Try.func11, Try.ntmps11
    go_wp2_with fail
    go_ret2
    exact ⟨rfl, rfl⟩
  by_cases h2 : 1024 ≤ u
  · go_enter Try.func11, Try.ntmps11
    go_wp2_with fail
    go_ret2
    exact ⟨rfl, rfl⟩
  by_cases h3 : d < 0
  · go_enter Try.func11, Try.ntmps11
    go_wp2_with fail
    go_ret2
    exact ⟨rfl, rfl⟩
  have h4 : (n : Int) ≤ d := by omega
  go_enter Try.func11, Try.ntmps11
  go_wp2_with fail
  go_ret2
  exact ⟨rfl, rfl⟩
end
end Go.Proofs.Ytghcemfffhjmjaa
