/- words.Width: the contract. -/
import Derived.Test.YtfipljhlponcoaaDoorCnt
set_option linter.unusedVariables false
namespace Go.Proofs.YtfipljhlponcoaaDoor
open Go.RowKit
theorem shows_cnt (q : Nat) (l : List Nat) (hl : ∀ x ∈ l, x < 256) : cntN (shows (q : Int) l).flatten.length (shows (q : Int) l).flatten = (shows (q : Int) l).length := cnt_join _ _ (all_rune _ _ _ hl) (Nat.le_refl _)
theorem elems_bd (q : Int) : ∀ (f : Nat) (l : List Nat), (∀ x ∈ l, x < 256) → (elems q f l).flatten.length ≤ 4 * l.length
  | 0, l, _ => by unfold elems; simp
  | f + 1, [], _ => by unfold elems; simp
  | f + 1, b :: t, hl => by
    have hc := cut_len hl (by simp)
    have := elems_len q hl (by simp)
    have ih := elems_bd q f ((b :: t).drop (cutN (b :: t)).2.length) (drop_lt hl _)
    rw [List.length_drop] at ih
    unfold elems
    rw [List.flatten_append, List.length_append]
    omega
theorem shows_bd (q : Int) (l : List Nat) (hl : ∀ x ∈ l, x < 256) : (shows q l).flatten.length ≤ 4 * l.length := elems_bd q _ l hl
set_option maxRecDepth 100000 in
set_option maxHeartbeats 16000000 in
theorem width_any (s : ByteArray) (w : World) (hz : s.size ≤ 1048576) :
    Calls Tryd.prog 31 #[.string s] w fun e w' => e = .returned (.int .i64 (shows 92 (nl s)).length) ∧ Below w.heap.size w w' := by
  have hs := Lib.hid (shown_any s 92 (by omega) (by omega) w hz)
  have hbd := Lib.hid (shows_bd 92 (nl s) (nl_lt s))
  go_enter Tryd.func31, Tryd.ntmps31
  go_wp2_with (first
    | (go_at_call 51; refine hs.out.mono ?_; rintro e w1 ⟨A1, n1, c1, rfl, hown, hb⟩
       have HC0 := (count_any A1 n1 c1 _ (shows_lt 92 (nl s) (nl_lt s)) w1 w.heap.size hb.size hown (by rw [hown.1]; have := hbd.out; rw [nl_len] at this; exact Nat.le_trans this (by omega)))
       rw [shows_cnt 92 (nl s) (nl_lt s)] at HC0; have HC := Lib.hid HC0; clear HC0
       have HB := Lib.hid hb; clear hb hown)
    | (go_at_call 61; refine HC.out.mono ?_; rintro e w2 ⟨rfl, hb2⟩; have HB2 := Lib.hid hb2; clear hb2)
    | (fail))
  go_ret
  exact ⟨rfl, HB.out.trans (HB2.out.mono HB.out.size)⟩
end Go.Proofs.YtfipljhlponcoaaDoor
