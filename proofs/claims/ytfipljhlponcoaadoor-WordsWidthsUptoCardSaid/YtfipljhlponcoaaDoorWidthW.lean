/- RuneCount of a row: the contract. words.Width: the contract. -/
import Derived.Test.YtfipljhlponcoaaDoorShowW
set_option linter.unusedVariables false
namespace Go.Proofs.YtfipljhlponcoaaDoor
open Go.RowKit
theorem cnt_from (s : ByteArray) : ∀ (f pos : Nat), Lib.runeCountFrom s f pos = cntN f ((nl s).drop pos)
  | 0, pos => by unfold Lib.runeCountFrom cntN; rfl
  | f + 1, pos => by
    by_cases hp : pos < s.size
    · obtain ⟨b, t, hbt⟩ : ∃ b t, (nl s).drop pos = b :: t := by
        cases h : (nl s).drop pos with
        | nil =>
          have := congrArg List.length h
          rw [List.length_drop, nl_len] at this
          simp at this
          omega
        | cons b t => exact ⟨b, t, rfl⟩
      have hd := dec_pc s pos hp
      unfold Lib.runeCountFrom
      rw [if_pos hp, hbt, cntN, ← hbt, ← hd, List.drop_drop, cnt_from s f, Nat.add_comm]
    · have : (nl s).drop pos = [] := List.drop_of_length_le (by rw [nl_len]; omega)
      rw [this, Lib.runeCountFrom_end s _ pos hp]
      rfl
theorem cnt_str (s : ByteArray) : Lib.runeCount s = cntN s.size (nl s) := by
  unfold Lib.runeCount
  rw [cnt_from, List.drop_zero]
theorem cnt_step {l : List Nat} {j : Nat} (hj : j < l.length) (h : l[j] < 128) : cntN (l.length - j) (l.drop j) = cntN (l.length - (j + 1)) (l.drop (j + 1)) + 1 := by
  rw [List.drop_eq_getElem_cons hj, show l.length - j = (l.length - (j + 1)) + 1 from by omega, cntN]
  have : pcN (l[j] :: l.drop (j + 1)) = some (l[j], 1) := by simp only [pcN]; rw [if_pos h]
  rw [this]
  rfl
set_option maxRecDepth 100000 in
set_option maxHeartbeats 16000000 in
theorem count_any (A : Option Addr) (n c : Nat) (l : List Nat) (hl : ∀ x ∈ l, x < 256) (w : World) (base : Nat) (hb : base ≤ w.heap.size) (ho : Own w base A n c l) (hn : n ≤ 140737488355000) :
    Calls Tryd.prog 61 #[.slice A n c] w fun e w' => e = .returned (.int .i64 (cntN l.length l)) ∧ Below w.heap.size w w' := by
  have hnl := ho.1
  have HO := Lib.hid ho
  have HL := Lib.hid hl
  have HN := Lib.hid hnl
  clear ho hl hnl
  go_enter Tryd.func61, Tryd.ntmps61
  go_wp2_with (fail)
  go_loopw [4] (fun v wx => ∃ (j : Nat), v = .int .i64 j ∧ wx = w ∧ j ≤ n ∧ cntN l.length l = cntN (l.length - j) (l.drop j) + j) (fun v _ => n - (intOf v).toNat)
  case atStart => exact ⟨0, rfl, rfl, by omega, rfl⟩
  case round =>
    obtain ⟨j, rfl, rfl, hj, hc⟩ := hrel
    have HC := Lib.hid hc
    clear hc
    by_cases hjn : j < n
    · have hjl : j < l.length := by rw [← HN.out]; exact hjn
      obtain ⟨g, rfl, hg1, hg2⟩ := own_head HO.out.2 (by omega)
      have hcap : n ≤ c := by
        rcases HO.out.2.2 with ⟨h, _⟩ | ⟨g', cap, cur, h, _, _, h2, _⟩
        · cases h
        · injection h with _ _ h; omega
      have hcl : wr.cell? ⟨g, j, none⟩ = some (.int .u8 ((l[j] : Nat) : Int)) := by
        have := HO.out.2.cells (g := g) rfl j (.int .u8 ((l[j] : Nat) : Int)) (by simp [bV, hjl])
        rwa [addr_add, Nat.zero_add] at this
      have hji : (j : Int) < (n : Int) := by omega
      have hjc : (j : Int) < (c : Int) := by omega
      have hx := HL.out _ (List.getElem_mem hjl)
      obtain ⟨x, hxx⟩ : ∃ x, x = l[j] := ⟨_, rfl⟩
      rw [← hxx] at hcl hx
      have HX := Lib.hid hxx
      clear hxx
      by_cases h8 : x < 128
      · have hstep := Lib.hid (cnt_step hjl (by rw [← HX.out]; exact h8))
        have h8i : decide (128 ≤ (x : Int)) = false := by simp; omega
        go_wp2
        exact ⟨⟨j + 1, by go_num, trivial, by omega, by have := HC.out; have := hstep.out; omega⟩, by simp [intOf]; omega⟩
      · have h8i : decide (128 ≤ (x : Int)) = true := by simp; omega
        obtain ⟨t, ht, hnl⟩ := str_row (w := wr) (B := wr.heap.size) (c := c - j) (A := some ⟨g, j, none⟩) (l := l.drop j) (n := n - j) (by rw [List.length_drop, ← HN.out]) (fun hne => by
          refine ⟨g, j, rfl, hg2, fun i u hu => ?_⟩
          have := HO.out.2.cells (g := g) rfl (j + i) u (by unfold bV at hu ⊢; rw [List.map_drop, List.getElem?_drop] at hu; exact hu)
          rwa [addr_add, Nat.zero_add] at this) (drop_lt HL.out j)
        have HT := Lib.hid hnl
        clear hnl
        go_wp2_with (first
          | (go_at_call 59; refine (Tryd.utf8_RuneCountInString t _ ?_).mono ?_; (have := congrArg List.length HT.out; rw [nl_len, List.length_drop] at this; have := HN.out; omega); rintro e w1 ⟨rfl, pos, rfl⟩)
          | (fail))
        have hle := Lib.runeCount_le t
        have hsz : t.size = n - j := by
          have := congrArg List.length HT.out
          rw [nl_len, List.length_drop] at this
          have := HN.out
          omega
        have hw : wrap64 ((j : Int) + (Lib.runeCount t : Int)) = ((cntN l.length l : Nat) : Int) := by
          rw [IntWalk.wrap64_in _ (by omega), HC.out, cnt_str, hsz, HT.out, HN.out]
          omega
        rw [hw]
        go_ret
        exact ⟨rfl, (Below.refl _ _).alloc (Nat.le_refl _) _⟩
    · obtain rfl : j = n := by omega
      have := HC.out
      rw [HN.out, List.drop_of_length_le (Nat.le_refl _), Nat.sub_self] at this
      have hfin : cntN l.length l = j := by rw [this]; simp [cntN]; exact HN.out.symm
      have HF := Lib.hid hfin
      clear this hfin
      go_wp2
      go_ret
      exact ⟨by rw [HF.out]; rfl, Below.refl _ _⟩
end Go.Proofs.YtfipljhlponcoaaDoor

set_option linter.unusedVariables false
namespace Go.Proofs.YtfipljhlponcoaaDoor
open Go.RowKit
theorem shows_cnt (q : Nat) (l : List Nat) (hl : ∀ x ∈ l, x < 256) : cntN (shows (q : Int) l).flatten.length (shows (q : Int) l).flatten = (shows (q : Int) l).length := cnt_join _ _ (all_rune _ _ _ hl) (Nat.le_refl _)
theorem elems_bd (q : Int) : ∀ (f : Nat) (l : List Nat), (∀ x ∈ l, x < 256) → (elems q f l).flatten.length ≤ 4 * l.length
  | 0, l, _ => by unfold elems; simp
  | f + 1, [], _ => by unfold elems; simp
  | f + 1, b :: t, hl => by
    have hc := cut_len hl (by simp)
    have := elems_len q hl (by simp)
    have ih := elems_bd q f ((b :: t).drop (cutN (b :: t)).2.length) (drop_lt hl _)
    rw [List.length_drop] at ih
    unfold elems
    rw [List.flatten_append, List.length_append]
    omega
theorem shows_bd (q : Int) (l : List Nat) (hl : ∀ x ∈ l, x < 256) : (shows q l).flatten.length ≤ 4 * l.length := elems_bd q _ l hl
set_option maxRecDepth 100000 in
set_option maxHeartbeats 16000000 in
theorem width_any (s : ByteArray) (w : World) (hz : s.size ≤ 1048576) :
    Calls Tryd.prog 31 #[.string s] w fun e w' => e = .returned (.int .i64 (shows 92 (nl s)).length) ∧ Below w.heap.size w w' := by
  have hs := Lib.hid (shown_any s 92 (by omega) (by omega) w hz)
  have hbd := Lib.hid (shows_bd 92 (nl s) (nl_lt s))
  go_enter Tryd.func31, Tryd.ntmps31
  go_wp2_with (first
    | (go_at_call 51; refine hs.out.mono ?_; rintro e w1 ⟨A1, n1, c1, rfl, hown, hb⟩
       have HC0 := (count_any A1 n1 c1 _ (shows_lt 92 (nl s) (nl_lt s)) w1 w.heap.size hb.size hown (by rw [hown.1]; have := hbd.out; rw [nl_len] at this; exact Nat.le_trans this (by omega)))
       rw [shows_cnt 92 (nl s) (nl_lt s)] at HC0; have HC := Lib.hid HC0; clear HC0
       have HB := Lib.hid hb; clear hb hown)
    | (go_at_call 61; refine HC.out.mono ?_; rintro e w2 ⟨rfl, hb2⟩; have HB2 := Lib.hid hb2; clear hb2)
    | (fail))
  go_ret
  exact ⟨rfl, HB.out.trans (HB2.out.mono HB.out.size)⟩
end Go.Proofs.YtfipljhlponcoaaDoor
