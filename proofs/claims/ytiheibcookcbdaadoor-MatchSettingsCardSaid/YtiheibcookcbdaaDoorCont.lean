/- slices.Index and Contains over texts: contracts. -/
import Derived.Test.YtiheibcookcbdaaDoorCardD
import Derived.Test.YtiheibcookcbdaaDoorProg
set_option linter.unusedVariables false
namespace Go.Proofs.YtiheibcookcbdaaDoor
open Go.RowKit
def hasB (l : List ByteArray) (v : ByteArray) : Bool := l.any fun x => x == v
theorem beq_of {a b : ByteArray} : (a == b) = true ↔ a = b := MapKept.bytes_beq a b
theorem hasB_iff {l : List ByteArray} {v : ByteArray} : hasB l v = true ↔ v ∈ l := by
  unfold hasB
  rw [List.any_eq_true]
  constructor
  · rintro ⟨x, hx, e⟩; rw [beq_of] at e; subst e; exact hx
  · intro h; exact ⟨v, h, beq_of.2 rfl⟩
theorem toList_inj {a b : ByteArray} (h : a.toList = b.toList) : a = b := by
  rw [ByteArray.toList_eq, ByteArray.toList_eq] at h
  obtain ⟨⟨x⟩⟩ := a
  obtain ⟨⟨y⟩⟩ := b
  cases h
  rfl
/-- A test of two strings as the walk spells it. -/
theorem str_ne {a b : ByteArray} (h : ¬ a = b) : (a.toList == b.toList) = false := by
  rw [beq_eq_false_iff_ne]
  exact fun e => h (toList_inj e)
set_option maxRecDepth 100000 in
theorem index_str (A : Option Addr) (cap : Nat) (l : List ByteArray) (n : Nat) (hn : n = l.length) (hl : n ≤ 8796093022208) (v : ByteArray) (w : World) (B : Nat) (hs : Seg w B A (strs l)) :
    Calls Tryd.prog 43 #[.slice A n cap, .string v] w fun e w' => ∃ r : Int, e = .returned (.int .i64 r) ∧ (0 ≤ r ↔ v ∈ l) ∧ w = w' := by
  have Hn := Lib.hid hn
  have HS := Lib.hid hs
  clear hn hs
  go_enter Tryd.func43, Tryd.ntmps43
  go_wp2
  go_loopw [8] (fun i wr => ∃ k : Nat, k ≤ n ∧ i = .int .i64 k ∧ v ∉ l.take k ∧ wr = w) (fun i _ => n - (intOf i).toNat)
  case atStart => exact ⟨0, by omega, rfl, by simp, rfl⟩
  case round =>
    obtain ⟨k, hk, rfl, hno, rfl⟩ := hrel
    have HNO := Lib.hid hno
    clear hno
    by_cases hkn : k < n
    · have hkl : k < l.length := by rw [← Hn.out]; exact hkn
      have hki : (k : Int) < (n : Int) := by omega
      obtain ⟨b, off, rfl, _, c0⟩ := HS.out.strs hkl
      obtain ⟨x, hx⟩ : ∃ x, x = l[k] := ⟨_, rfl⟩
      rw [← hx] at c0
      have HX := Lib.hid hx
      clear hx
      by_cases he : v = x
      · subst he
        have hd : (v.toList == v.toList) = true := by simp
        go_wp2_with fail
        go_ret
        refine ⟨k, rfl, ?_, by first | rfl | trivial⟩
        have hm : v ∈ l := by rw [HX.out]; exact List.getElem_mem hkl
        simp [hm]
      · have hb : (v == x) = false := by
          rcases h : v == x
          · rfl
          · exact absurd (beq_of.1 h) he
        have hd := str_ne he
        go_wp2_with fail
        refine ⟨⟨k + 1, by omega, by go_num, ?_, by first | rfl | trivial⟩, by simp [intOf]; omega⟩
        rw [List.take_succ_eq_append_getElem hkl, List.mem_append, List.mem_singleton, ← HX.out]
        exact fun h => h.elim HNO.out he
    · obtain rfl : k = n := by omega
      go_wp2_with fail
      go_ret
      refine ⟨-1, rfl, ⟨fun h => by omega, fun h => ?_⟩, by first | rfl | trivial⟩
      have := HNO.out
      rw [Hn.out, List.take_length] at this
      exact absurd h this
set_option maxRecDepth 100000 in
theorem contains_str (A : Option Addr) (cap : Nat) (l : List ByteArray) (n : Nat) (hn : n = l.length) (hl : n ≤ 8796093022208) (v : ByteArray) (w : World) (B : Nat) (hs : Seg w B A (strs l)) :
    Calls Tryd.prog 38 #[.slice A n cap, .string v] w fun e w' => e = .returned (.bool (hasB l v)) ∧ w = w' := by
  have hi := Lib.hid (index_str A cap l n hn hl v w B hs)
  clear hs hn
  go_enter Tryd.func38, Tryd.ntmps38
  go_wp2_with (go_at_call 43; refine hi.out.mono ?_; rintro e w1 ⟨r, rfl, hr, rfl⟩; have HR := Lib.hid hr; clear hr)
  go_ret
  refine ⟨ret_bool ?_, rfl⟩
  rw [Bool.eq_iff_iff, decide_eq_true_eq, hasB_iff]
  exact HR.out
end Go.Proofs.YtiheibcookcbdaaDoor
