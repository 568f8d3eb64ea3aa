/- ref01.Pieces: the contract. -/
import Derived.Test.YtfipljhlponcoaaDoorBeg
set_option linter.unusedVariables false
namespace Go.Proofs.YtfipljhlponcoaaDoor
open Go.RowKit
/-- A text's front of four bytes says as much as the text. -/
theorem pc_take (l : List Nat) : pcN (l.take 4) = pcN l := by
  match l with
  | [] => rfl
  | [a] => rfl
  | [a, b] => rfl
  | [a, b, c] => rfl
  | a :: b :: c :: d :: t => simp [pcN]
theorem drop_ne {s : ByteArray} {pos : Nat} (h : pos < s.size) : (nl s).drop pos ≠ [] := fun e => by
  have := congrArg List.length e
  rw [List.length_drop, nl_len] at this
  simp at this
  omega
theorem cut_pos {s : ByteArray} {pos : Nat} (h : pos < s.size) : 1 ≤ (cutN ((nl s).drop pos)).2.length ∧ pos + (cutN ((nl s).drop pos)).2.length ≤ s.size := by
  have := cut_len (drop_lt (nl_lt s) pos) (drop_ne h)
  rw [List.length_drop, nl_len] at this
  omega
/-- All that is taken of a text from a place on: its bytes, the rune. -/
def pieces (s : ByteArray) (pos : Nat) : List (ByteArray × Int) :=
  if h : pos < s.size then (s.extract pos (pos + (cutN ((nl s).drop pos)).2.length), (cutN ((nl s).drop pos)).1) :: pieces s (pos + (cutN ((nl s).drop pos)).2.length) else []
termination_by s.size - pos
decreasing_by have := cut_pos h; omega
theorem pieces_cons {s : ByteArray} {pos : Nat} (h : pos < s.size) : pieces s pos = (s.extract pos (pos + (cutN ((nl s).drop pos)).2.length), (cutN ((nl s).drop pos)).1) :: pieces s (pos + (cutN ((nl s).drop pos)).2.length) := by
  rw [pieces, dif_pos h]
theorem pieces_nil {s : ByteArray} {pos : Nat} (h : ¬ pos < s.size) : pieces s pos = [] := by rw [pieces, dif_neg h]
/-- What the pieces show is what the text shows. -/
theorem pieces_shows (q : Int) (s : ByteArray) (pos : Nat) (hp : pos ≤ s.size) : (pieces s pos).flatMap (fun p => elemsOf q (p.2, nl p.1)) = shows q ((nl s).drop pos) := by
  induction h : s.size - pos using Nat.strongRecOn generalizing pos with
  | ind k ih =>
    by_cases hlt : pos < s.size
    · have hc := cut_pos hlt
      have hcl := cut_len (drop_lt (nl_lt s) pos) (drop_ne hlt)
      rw [pieces_cons hlt, shows_cons q (drop_lt (nl_lt s) pos) (drop_ne hlt), List.flatMap_cons]
      congr 1
      · have : nl (s.extract pos (pos + (cutN ((nl s).drop pos)).2.length)) = (cutN ((nl s).drop pos)).2 := by
          rw [nl_extract, Nat.add_sub_cancel_left]
          exact hcl.2.2.2.symm
        rw [this]
      · rw [ih _ (by omega) _ hc.2 rfl, List.drop_drop]
    · rw [pieces_nil hlt, List.drop_of_length_le (by rw [nl_len]; omega)]
      rfl
theorem pieces_len (s : ByteArray) (pos : Nat) : (pieces s pos).length ≤ s.size - pos := by
  induction h : s.size - pos using Nat.strongRecOn generalizing pos with
  | ind k ih =>
    by_cases hlt : pos < s.size
    · have hc := cut_pos hlt
      rw [pieces_cons hlt, List.length_cons]
      have := ih _ (by omega) (pos + (cutN ((nl s).drop pos)).2.length) rfl
      omega
    · rw [pieces_nil hlt]; simp
/-- The cells of pieces. -/
def pcCells (ps : List (ByteArray × Int)) : List Value := ps.flatMap fun p => [.string p.1, .int .i32 p.2]
theorem pcCells_len (ps : List (ByteArray × Int)) : (pcCells ps).length = ps.length * 2 := by
  unfold pcCells
  induction ps with
  | nil => rfl
  | cons a t ih => simp [ih]; omega
theorem pcCells_snoc (ps : List (ByteArray × Int)) (t : ByteArray) (r : Int) : pcCells (ps ++ [(t, r)]) = pcCells ps ++ [.string t, .int .i32 r] := by simp [pcCells]
/-- What begins gives at a place is what is cut there. -/
theorem beg_cut {s : ByteArray} {pos : Nat} (h : pos < s.size) : (pcN (nl (s.extract pos (min s.size (pos + 4))))) = pcN ((nl s).drop pos) := by
  rw [nl_extract, ← pc_take ((nl s).drop pos)]
  congr 1
  rcases Nat.le_total s.size (pos + 4) with h1 | h1
  · rw [Nat.min_eq_left h1, List.take_of_length_le (by rw [List.length_drop, nl_len]; exact Nat.le_refl _), List.take_of_length_le (by rw [List.length_drop, nl_len]; omega)]
  · rw [Nat.min_eq_right h1, Nat.add_sub_cancel_left]
theorem own_below {w w' : World} {base e size n : Nat} {v : Value} {xs : List Value} (h : w.ownsRow base e size v n xs) (hb : Below w.heap.size w w') : w'.ownsRow base e size v n xs := by
  refine ⟨h.1, ?_⟩
  rcases h.2 with h2 | ⟨g, cap, cur, a1, a2, a3, a4⟩
  · exact .inl h2
  · exact .inr ⟨g, cap, cur, a1, a2, (hb.block g (Array.getElem?_eq_some_iff.1 a3).1).trans a3, a4⟩
set_option maxRecDepth 100000 in
set_option maxHeartbeats 4000000 in
theorem slice_at {s : ByteArray} {a : Nat} (b : Nat) {z : Int} (hz : z = (b : Int)) (h1 : a ≤ b) (h2 : b ≤ s.size) (W : World) : (Instr.slice 9 (.string s) (some (.int .i64 (a : Int))) (some (.int .i64 z)) none).run Tryd.prog W = .ok (.string (s.extract a b)) W := by
  subst hz
  rw [run_slice_string W 9 s .i64 .i64 a b Tryd.underlying9 (by omega) (by omega) (by omega)]
  rfl
theorem info69 : (Tryd.prog.info? 105).map (fun i => (i.zero, i.size, i.bytes)) = some (some (.agg #[.string ⟨#[]⟩, .int .i32 0]), 2, 24) := by kernel_rfl
set_option maxRecDepth 100000 in
set_option maxHeartbeats 16000000 in
theorem pieces_any (s : ByteArray) (hz : s.size ≤ 1048576) (w : World) :
    Calls Tryd.prog 75 #[.string s] w fun e w' => ∃ A c, e = .returned (.slice A (pieces s 0).length c) ∧ w'.ownsRow w.heap.size 105 2 (.slice A (pieces s 0).length c) (pieces s 0).length (pcCells (pieces s 0)) ∧ Below w.heap.size w w' := by
  obtain ⟨i0, fi, fz0, fz1, fz2⟩ := info_parts info69
  have hs : (s.size : Int) ≤ 1048576 := by omega
  go_enter Tryd.func75, Tryd.ntmps75
  go_wp2_with (fail)
  go_loopw [3, 4] (fun v i wx => ∃ (pos : Nat) (A : Option Addr) (c : Nat) (ps : List (ByteArray × Int)), i = .int .i64 pos ∧ pos ≤ s.size ∧ v = .slice A ps.length c ∧ wx.ownsRow w.heap.size 105 2 (.slice A ps.length c) ps.length (pcCells ps) ∧ ps ++ pieces s pos = pieces s 0 ∧ Below w.heap.size w wx) (fun _ i _ => s.size - (intOf i).toNat)
  case atStart => exact ⟨0, none, 0, [], rfl, by omega, rfl, World.ownsRow_nil _ _ _ _, rfl, Below.refl _ _⟩
  case round =>
    obtain ⟨pos, A, c, ps, rfl, hps, rfl, hown, hpp, hb⟩ := hrel
    have HB := Lib.hid hb
    have HO := Lib.hid hown
    have HP := Lib.hid hpp
    clear hb hown hpp
    by_cases hlt : pos < s.size
    · have hli : (pos : Int) < (s.size : Int) := by omega
      have hpl := pieces_len s 0
      have hpq := congrArg List.length HP.out
      rw [List.length_append] at hpq
      have m1 : ps.length + 1 ≤ maxLen := by unfold maxLen; omega
      have m2 : (ps.length + 1) * 24 ≤ 140737488355328 := by omega
      have m3 := HB.out.size
      have hmin : (min (s.size : Int) ((pos : Int) + 4)) = ((min s.size (pos + 4) : Nat) : Int) := by omega
      obtain ⟨mm, hmm⟩ : ∃ mm, min s.size (pos + 4) = mm := ⟨_, rfl⟩
      have hm1 : pos ≤ mm ∧ mm ≤ s.size := by omega
      have hbc := beg_cut hlt
      rw [hmm] at hbc hmin
      have hx := Lib.hid (fun W => begins_any (s.extract pos mm) (by have := nl_len (s.extract pos mm); rw [nl_extract, List.length_take] at this; omega) W)
      rw [hbc] at hx
      have hstep := pieces_cons hlt
      have hcp := cut_pos hlt
      clear hpl hpq hbc hmm
      rcases hpc : pcN ((nl s).drop pos) with _ | ⟨r, n⟩
      · have hcut : cutN ((nl s).drop pos) = (-1, ((nl s).drop pos).take 1) := by unfold cutN; rw [hpc]
        have hln : (cutN ((nl s).drop pos)).2.length = 1 := by
          rw [hcut]; simp only [List.length_take, List.length_drop, nl_len]; omega
        rw [hln, hcut] at hstep
        have HS := Lib.hid hstep
        rw [hpc] at hx
        simp only [Option.getD_none, Int.natCast_zero] at hx
        have hp1 : (pos : Int) + 1 ≤ (s.size : Int) := by omega
        have hsl : ∀ W : World, (Instr.slice 9 (.string s) (some (.int .i64 (pos : Int))) (some (.int .i64 ((pos : Int) + 1))) none).run Tryd.prog W = .ok (.string (s.extract pos (pos + 1))) W := slice_at (pos + 1) (by omega) (by omega) (by omega)
        clear hstep hcut hln hpc hcp
        go_wp2_with (first
          | (go_at_call 100; refine (hx.out _).mono ?_; rintro e w1 ⟨rfl, hb1⟩; have HB1 := Lib.hid (HB.out.trans (hb1.mono m3)); have HO1 := Lib.hid (own_below HO.out hb1); clear hb1)
          | (at_builtin; refine wpList_append_seg _ rfl (.tmp 25) (.tmp 34) 101 rfl w.heap.size 105 i0 _ 2 24 Tryd.underlying101 fi fz0 fz1 fz2 rfl (by decide) (.slice A ps.length c) ps.length (pcCells ps) rfl (World.ownsRow.alloc HO1.out _) (w1.heap.size + 1) (some ⟨w1.heap.size, 0, none⟩) 1 1 [.string (s.extract pos (pos + 1)), .int .i32 (-1)] rfl rfl (seg_new (e := 105) (cs := #[.string (s.extract pos (pos + 1)), .int .i32 (-1)])) (by simp [Value.oneCell']) m1 m2 (by rw [World.size_alloc]; have := HB1.out.size; omega) ?_
             intro v4 w8 hown4 hg4 _
             have hb8 : Below w.heap.size w w8 := (HB1.out.alloc HB1.out.size _).grown hg4 (by rw [World.size_alloc]; have := HB1.out.size; omega) (fun g hg => (HO1.out.lt g hg).1)
             obtain ⟨A4, c4, rfl⟩ := own_shape hown4
             have HO8 := Lib.hid hown4; have HB8 := Lib.hid hb8; clear hown4 hb8 hg4)
          | (fail))
        refine ⟨⟨pos + 1, A4, c4, ps ++ [(s.extract pos (pos + 1), -1)], by go_num, by omega, by simp, ?_, ?_, HB8.out⟩, by simp [intOf]; omega⟩
        · rw [pcCells_snoc, List.length_append]; exact HO8.out
        · rw [← HP.out, HS.out]; simp
      · have hcut : cutN ((nl s).drop pos) = ((r : Int), ((nl s).drop pos).take n) := by unfold cutN; rw [hpc]
        obtain ⟨hr1, hr2, hr3⟩ := pc_some (drop_lt (nl_lt s) pos) hpc
        have hrl := enc_len r
        have hln : (cutN ((nl s).drop pos)).2.length = n := by
          rw [hcut, hr3, ← hr2]
        rw [hln] at hcp
        rw [hln, hcut] at hstep
        have HS := Lib.hid hstep
        rw [hpc] at hx
        simp only [Option.getD_some] at hx
        have hp1 : (pos : Int) + (n : Int) ≤ (s.size : Int) := by omega
        have hn0 : ((n : Int) == 0) = false := by simp; omega
        have hsl : ∀ W : World, (Instr.slice 9 (.string s) (some (.int .i64 (pos : Int))) (some (.int .i64 ((pos : Int) + (n : Int)))) none).run Tryd.prog W = .ok (.string (s.extract pos (pos + n))) W := slice_at (pos + n) (by omega) (by omega) (by omega)
        have hn4 : n ≤ 4 := by omega
        have hn1 : 1 ≤ n := by omega
        clear hstep hcut hln hpc hcp hr1 hr2 hr3 hrl
        go_wp2_with (first
          | (go_at_call 100; refine (hx.out _).mono ?_; rintro e w1 ⟨rfl, hb1⟩; have HB1 := Lib.hid (HB.out.trans (hb1.mono m3)); have HO1 := Lib.hid (own_below HO.out hb1); clear hb1)
          | (at_builtin; refine wpList_append_seg _ rfl (.tmp 25) (.tmp 34) 101 rfl w.heap.size 105 i0 _ 2 24 Tryd.underlying101 fi fz0 fz1 fz2 rfl (by decide) (.slice A ps.length c) ps.length (pcCells ps) rfl (World.ownsRow.alloc HO1.out _) (w1.heap.size + 1) (some ⟨w1.heap.size, 0, none⟩) 1 1 [.string (s.extract pos (pos + n)), .int .i32 (r : Int)] rfl rfl (seg_new (e := 105) (cs := #[.string (s.extract pos (pos + n)), .int .i32 (r : Int)])) (by simp [Value.oneCell']) m1 m2 (by rw [World.size_alloc]; have := HB1.out.size; omega) ?_
             intro v4 w8 hown4 hg4 _
             have hb8 : Below w.heap.size w w8 := (HB1.out.alloc HB1.out.size _).grown hg4 (by rw [World.size_alloc]; have := HB1.out.size; omega) (fun g hg => (HO1.out.lt g hg).1)
             obtain ⟨A4, c4, rfl⟩ := own_shape hown4
             have HO8 := Lib.hid hown4; have HB8 := Lib.hid hb8; clear hown4 hb8 hg4)
          | (fail))
        refine ⟨⟨pos + n, A4, c4, ps ++ [(s.extract pos (pos + n), (r : Int))], by go_num, by omega, by simp, ?_, ?_, HB8.out⟩, by simp [intOf]; omega⟩
        · rw [pcCells_snoc, List.length_append]; exact HO8.out
        · rw [← HP.out, HS.out]; simp
    · have hli : ¬ (pos : Int) < (s.size : Int) := by omega
      have hq : ps = pieces s 0 := by rw [← HP.out, pieces_nil hlt, List.append_nil]
      subst hq
      go_wp2
      go_ret
      exact ⟨A, c, rfl, HO.out, HB.out⟩
end Go.Proofs.YtfipljhlponcoaaDoor
