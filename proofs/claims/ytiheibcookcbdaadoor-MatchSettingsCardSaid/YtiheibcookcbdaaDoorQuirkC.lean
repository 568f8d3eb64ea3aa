/- Quirk, by all names: contracts. -/
import Derived.Test.YtiheibcookcbdaaDoorTurn
set_option linter.unusedVariables false
namespace Go.Proofs.YtiheibcookcbdaaDoor
open Go.RowKit
theorem QS.cell {w0 w : World} {b : Nat} {qs : List (Nat × Int)} {es : List (ByteArray × Value)} (h : QS w0 w b qs es) {q : Nat} {d : Int} (hm : (q, d) ∈ qs) : w.cell? ⟨q, 0, none⟩ = some (.int .i64 d) ∧ q < w.heap.size :=
  ⟨(h.cells _ hm).1.cell (k := 0) (by simp), (h.cells _ hm).1.lt⟩
theorem quirk_no {k : ByteArray} (h : ¬ k = ⟨#[]⟩ ∧ ¬ k = bSlow ∧ ¬ k = bHalf ∧ ¬ k = bDouble ∧ ¬ k = bOdd) (q1 q4 q2 : Nat) : ((quirkMap q1 q4 q2).find? fun x => k == x.1).map Prod.snd = none := by
  obtain ⟨k0, k1, k2, k3, k4⟩ := h
  have hb : ∀ n : ByteArray, ¬ k = n → (k == n) = false := fun n hn => by
    rcases hx : k == n
    · rfl
    · exact absurd ((MapKept.bytes_beq k n).1 hx) hn
  unfold quirkMap
  simp only [List.find?_cons, List.find?_nil]
  rw [hb _ k0, hb _ k1, hb _ k2, hb _ k3, hb _ k4]
  rfl
/-- A quirk's closure with a divisor, as Quirk hands it back. -/
def ByRet (w : World) (d : Int) (e : Ending) (w' : World) : Prop := ∃ q, e = .returned (.tuple #[.func (.func 28) #[] #[.pointer (some ⟨q, 0, none⟩)], .bool true]) ∧ w'.cell? ⟨q, 0, none⟩ = some (.int .i64 d) ∧ q < w'.heap.size ∧ Below w.heap.size w w'
set_option maxRecDepth 100000 in
set_option maxHeartbeats 4000000 in
theorem quirk_by (k : ByteArray) (d : Int) (hk : (k = ⟨#[]⟩ ∧ d = 1) ∨ (k = bSlow ∧ d = 4) ∨ (k = bHalf ∧ d = 2)) (w : World) : Calls Tryd.prog 10 #[.string k] w (ByRet w d) := by
  have hl : ∀ w1 b q1 q4 q2, QS w w1 b [(q1, 1), (q4, 4), (q2, 2)] (quirkMap q1 q4 q2) → ∃ q, (Instr.lookup 49 (.map (some b)) (.string k) true).run Tryd.prog w1 = .ok (.tuple #[.func (.func 28) #[] #[.pointer (some ⟨q, 0, none⟩)], .bool true]) w1 ∧ w1.cell? ⟨q, 0, none⟩ = some (.int .i64 d) ∧ q < w1.heap.size ∧ Below w.heap.size w w1 := fun w1 b q1 q4 q2 h => by
    rcases hk with ⟨rfl, rfl⟩ | ⟨rfl, rfl⟩ | ⟨rfl, rfl⟩
    · exact ⟨q1, look_at (v := byF q1) h.map _ (by rfl), (h.cell (q := q1) (d := 1) (by simp)).1, (h.cell (q := q1) (d := 1) (by simp)).2, h.low⟩
    · exact ⟨q4, look_at (v := byF q4) h.map _ (by rfl), (h.cell (q := q4) (d := 4) (by simp)).1, (h.cell (q := q4) (d := 4) (by simp)).2, h.low⟩
    · exact ⟨q2, look_at (v := byF q2) h.map _ (by rfl), (h.cell (q := q2) (d := 2) (by simp)).1, (h.cell (q := q2) (d := 2) (by simp)).2, h.low⟩
  have HL := Lib.hid hl
  clear hl hk
  go_enter Tryd.func10, Tryd.ntmps10
  go_wp2_with (first
    | (go_at_call 14; refine (quirks_any _).mono ?_; rintro e w1 ⟨b, q1, q4, q2, rfl, hq⟩
       obtain ⟨q, hlook, hc, hlt, hb⟩ := HL.out w1 b q1 q4 q2 hq
       have HB := Lib.hid hb
       have HC := Lib.hid hc
       have HLT := Lib.hid hlt
       clear hq hb hc hlt)
    | fail)
  go_ret2
  exact ⟨q, by rfl, HC.out, HLT.out, HB.out⟩
set_option maxRecDepth 100000 in
set_option maxHeartbeats 4000000 in
theorem quirk_fn (k : ByteArray) (f : Nat) (hk : (k = bDouble ∧ f = 29) ∨ (k = bOdd ∧ f = 30)) (w : World) : Calls Tryd.prog 10 #[.string k] w fun e w' => e = .returned (.tuple #[.func (.func f) #[] #[], .bool true]) ∧ Below w.heap.size w w' := by
  have hl : ∀ w1 b q1 q4 q2, QS w w1 b [(q1, 1), (q4, 4), (q2, 2)] (quirkMap q1 q4 q2) → (Instr.lookup 49 (.map (some b)) (.string k) true).run Tryd.prog w1 = .ok (.tuple #[.func (.func f) #[] #[], .bool true]) w1 ∧ Below w.heap.size w w1 := fun w1 b q1 q4 q2 h => by
    rcases hk with ⟨rfl, rfl⟩ | ⟨rfl, rfl⟩
    · exact ⟨look_at (v := fnF 29) h.map _ (by rfl), h.low⟩
    · exact ⟨look_at (v := fnF 30) h.map _ (by rfl), h.low⟩
  have HL := Lib.hid hl
  clear hl hk
  go_enter Tryd.func10, Tryd.ntmps10
  go_wp2_with (first
    | (go_at_call 14; refine (quirks_any _).mono ?_; rintro e w1 ⟨b, q1, q4, q2, rfl, hq⟩
       obtain ⟨hlook, hb⟩ := HL.out w1 b q1 q4 q2 hq
       have HB := Lib.hid hb
       clear hq hb)
    | fail)
  go_ret2
  exact ⟨by rfl, HB.out⟩
set_option maxRecDepth 100000 in
set_option maxHeartbeats 4000000 in
theorem quirk_none (k : ByteArray) (hk : ¬ k = ⟨#[]⟩ ∧ ¬ k = bSlow ∧ ¬ k = bHalf ∧ ¬ k = bDouble ∧ ¬ k = bOdd) (w : World) : Calls Tryd.prog 10 #[.string k] w fun e w' => e = .returned (.tuple #[.nilFunc, .bool false]) ∧ Below w.heap.size w w' := by
  have hl : ∀ w1 b q1 q4 q2, QS w w1 b [(q1, 1), (q4, 4), (q2, 2)] (quirkMap q1 q4 q2) → (Instr.lookup 49 (.map (some b)) (.string k) true).run Tryd.prog w1 = .ok (.tuple #[.nilFunc, .bool false]) w1 ∧ Below w.heap.size w w1 := fun w1 b q1 q4 q2 h =>
    ⟨look_noQ h.map k (quirk_no hk q1 q4 q2), h.low⟩
  have HL := Lib.hid hl
  clear hl hk
  go_enter Tryd.func10, Tryd.ntmps10
  go_wp2_with (first
    | (go_at_call 14; refine (quirks_any _).mono ?_; rintro e w1 ⟨b, q1, q4, q2, rfl, hq⟩
       obtain ⟨hlook, hb⟩ := HL.out w1 b q1 q4 q2 hq
       have HB := Lib.hid hb
       clear hq hb)
    | fail)
  go_ret2
  exact ⟨by rfl, HB.out⟩
/-- Quirk, told in short. -/
def QRet (w : World) (ok : Bool) (e : Ending) (w' : World) : Prop := ∃ v, e = .returned (.tuple #[v, .bool ok]) ∧ Below w.heap.size w w'
theorem quirk_short (k : ByteArray) (w : World) : Calls Tryd.prog 10 #[.string k] w (QRet w (turnF k 0).isSome) := by
  rcases turn_ways k with h | h | h | h | h | h
  · exact (quirk_by k 1 (.inl ⟨h, rfl⟩) w).mono fun e w' ⟨q, h1, _, _, h2⟩ => ⟨.func (.func 28) #[] #[.pointer (some ⟨q, 0, none⟩)], by subst h; exact h1, h2⟩
  · exact (quirk_by k 4 (.inr (.inl ⟨h, rfl⟩)) w).mono fun e w' ⟨q, h1, _, _, h2⟩ => ⟨.func (.func 28) #[] #[.pointer (some ⟨q, 0, none⟩)], by subst h; exact h1, h2⟩
  · exact (quirk_by k 2 (.inr (.inr ⟨h, rfl⟩)) w).mono fun e w' ⟨q, h1, _, _, h2⟩ => ⟨.func (.func 28) #[] #[.pointer (some ⟨q, 0, none⟩)], by subst h; exact h1, h2⟩
  · exact (quirk_fn k 29 (.inl ⟨h, rfl⟩) w).mono fun e w' ⟨h1, h2⟩ => ⟨.func (.func 29) #[] #[], by subst h; exact h1, h2⟩
  · exact (quirk_fn k 30 (.inr ⟨h, rfl⟩) w).mono fun e w' ⟨h1, h2⟩ => ⟨.func (.func 30) #[] #[], by subst h; exact h1, h2⟩
  · refine (quirk_none k h w).mono fun e w' ⟨h1, h2⟩ => ⟨.nilFunc, ?_, h2⟩
    rw [h1]
    unfold turnF
    rw [if_neg h.1, if_neg h.2.1, if_neg h.2.2.1, if_neg h.2.2.2.1, if_neg h.2.2.2.2]
    rfl
end Go.Proofs.YtiheibcookcbdaaDoor
