/- DomainsNames: no net; as many domains as there may be; the walk. -/
import Derived.Test.YtghcemfffhjmjaaPair
import Derived.Test.YtghcemfffhjmjaaAwake
import Derived.Laws.MakeOwn
import Derived.OwnWalk
set_option linter.unusedVariables false
namespace Go.Proofs.Ytghcemfffhjmjaa
open Go.RowKit
set_option maxRecDepth 100000 in
theorem vote_nil (w : World) (u d v : Int) : Calls Try.prog 11 #[.pointer none, .int .i64 u, .int .i64 d, .int .u8 v] w fun e w' => e = .returned (.tuple #[.slice none 0 0, .int .i64 2]) ∧ w = w' := by
  go_enter Try.func11, Try.ntmps11
  go_wp2_with fail
  go_ret2
  exact ⟨by rfl, rfl⟩
theorem level_nil (w : World) (d : Int) : Calls Try.prog 13 #[.pointer none, .int .i64 d] w fun e w' => e = .returned (.int .u8 0) ∧ w = w' := by
  go_enter Try.func13, Try.ntmps13
  go_wp2_with fail
  go_ret
  exact ⟨by rfl, rfl⟩
theorem wants_nil (w : World) (u d : Int) : Calls Try.prog 12 #[.pointer none, .int .i64 u, .int .i64 d] w fun e w' => e = .returned (.int .u8 0) ∧ w = w' := by
  go_enter Try.func12, Try.ntmps12
  go_wp2_with fail
  go_ret
  exact ⟨by rfl, rfl⟩
theorem on_nil (w : World) : Calls Try.prog 15 #[.pointer none] w fun e w' => e = .returned (.slice none 0 0) ∧ w = w' := by
  go_enter Try.func15, Try.ntmps15
  go_wp2_with fail
  go_ret
  exact ⟨by rfl, rfl⟩
theorem leave_nil (w : World) (u : Int) : Calls Try.prog 14 #[.pointer none, .int .i64 u] w fun e w' => e = .returned (.tuple #[.slice none 0 0, .int .i64 2]) ∧ Below w.heap.size w w' := by
  go_enter Try.func14, Try.ntmps14
  go_wp2_with fail
  go_ret2
  exact ⟨by rfl, (Below.refl _ _).alloc (Nat.le_refl _) _⟩
theorem why_nil (w : World) (d : Int) : Calls Try.prog 18 #[.pointer none, .int .i64 d] w fun e w' => e = .returned (.tuple #[.int .i64 0, .int .i64 0, .int .i64 2]) ∧ w = w' := by
  go_enter Try.func18, Try.ntmps18
  go_wp2_with fail
  go_ret3
  exact ⟨by rfl, rfl⟩
def d0 : Dmi := ⟨[], 0, none, 0⟩
theorem made_dms (n : Nat) : (madeCells #[.slice none 0 0, .int .u8 0] (n * 2)).toList = dmiCells (List.replicate n d0) := by
  apply List.ext_getElem?
  intro j
  have hl : (dmiCells (List.replicate n d0)).length = n * 2 := by unfold dmiCells; rw [flat_length Dmi.cells 2 dmi_len, List.length_replicate]
  by_cases hj : j < n * 2
  · have hk : j / 2 < (List.replicate n d0).length := by rw [List.length_replicate]; omega
    have h1 := flat_get Dmi.cells 2 dmi_len (List.replicate n d0) (j / 2) (j % 2) hk (by omega)
    rw [show j / 2 * 2 + j % 2 = j by omega] at h1
    rw [show (dmiCells (List.replicate n d0))[j]? = _ from h1]
    simp only [List.getElem_replicate]
    unfold madeCells
    rcases (show j % 2 = 0 ∨ j % 2 = 1 by omega) with h | h
    · simp [h, hj, d0, Dmi.cells]
    · simp [h, hj, d0, Dmi.cells]
  · rw [List.getElem?_eq_none (by simp [size_madeCells]; omega), List.getElem?_eq_none (by omega)]
theorem make_dms (n : Nat) (hn : n ≤ 1000) (w : World) : (Instr.makeSlice 31 (.int .i64 (n : Int)) (.int .i64 (n : Int))).run Try.prog w =
    .ok (.slice (some ⟨w.heap.size, 0, none⟩) n n) (w.alloc (.cells (madeCells #[.slice none 0 0, .int .u8 0] (n * 2)) 57)) := by
  obtain ⟨i0, hi, hz0, hz1, hz2⟩ := info_parts Try.info57
  have := run_make (P := Try.prog) w 31 57 i0 (.agg #[.slice none 0 0, .int .u8 0]) Try.underlying31 hi hz0 .i64 .i64 n n (by omega) (Int.le_refl _) (by rw [hz2]; omega) (by omega)
  simp only [Int.toNat_natCast, hz1] at this
  exact this
theorem dom_made (n : Nat) (w : World) : Domi (w.alloc (.cells (madeCells #[.slice none 0 0, .int .u8 0] (n * 2)) 57)) (w.heap.size + 1) (some ⟨w.heap.size, 0, none⟩) (List.replicate n d0) := by
  refine ⟨?_, fun x hx => ?_, fun x hx => ?_⟩
  · have := seg_new w 57 (madeCells #[.slice none 0 0, .int .u8 0] (n * 2))
    rw [made_dms] at this
    exact this
  · rw [List.eq_of_mem_replicate hx]; exact Seg.nil
  · rw [List.eq_of_mem_replicate hx]; exact Nat.le_refl _
theorem may_made {n : Nat} (hn : n ≤ 256) : mayD (List.replicate n d0) := by
  refine ⟨by rw [List.length_replicate]; exact hn, fun i hi => ?_⟩
  rw [List.getElem_replicate]
  exact ⟨by decide, fun k hk => by simp [d0] at hk⟩
theorem new_made {n : Nat} (hn : n ≤ 1000) (w : World) : Calls Try.prog 9 #[.slice (some ⟨w.heap.size, 0, none⟩) n n] (w.alloc (.cells (madeCells #[.slice none 0 0, .int .u8 0] (n * 2)) 57)) fun e w' =>
    ∃ p, e = .returned (.tuple #[.pointer p, .int .i64 (if n ≤ 256 then 0 else 200)]) ∧ Below w.heap.size w w' := by
  have hb : Below w.heap.size w (w.alloc (.cells (madeCells #[.slice none 0 0, .int .u8 0] (n * 2)) 57)) := (Below.refl _ _).alloc (Nat.le_refl _) _
  refine (new_any _ n (List.replicate n d0) n (by rw [List.length_replicate]) _ ((dom_made n w).more (by simp))).mono ?_
  rintro e w' ⟨hb2, (⟨h1, rfl⟩ | ⟨h1, rfl, _⟩)⟩
  · have : ¬ n ≤ 256 := fun h => h1 (may_made h)
    rw [if_neg this]
    exact ⟨none, rfl, hb.trans (hb2.mono hb.size)⟩
  · have : n ≤ 256 := by have := h1.1; rw [List.length_replicate] at this; exact this
    rw [if_pos this]
    exact ⟨_, rfl, hb.trans (hb2.mono hb.size)⟩
/-! One domain of top 1. -/
def l1 : List Dmi := [⟨[], 1, none, 0⟩]
theorem may1 : mayD l1 := by
  refine ⟨by simp [l1], fun i hi => ?_⟩
  obtain rfl : i = 0 := by simp [l1] at hi; omega
  show goodAt 0 []
  exact ⟨by decide, fun k hk => by simp at hk⟩
theorem new_one (w : World) : Calls Try.prog 9 #[.slice (some ⟨w.heap.size, 0, none⟩) 1 1] (w.alloc (.cells #[.slice none 0 0, .int .u8 1] 57)) fun e w' =>
    ∃ nb mb, e = .returned (.tuple #[.pointer (some ⟨nb, 0, none⟩), .int .i64 0]) ∧ Below w.heap.size w w' ∧ w.heap.size ≤ mb ∧ IsNet w' nb mb 0 [⟨[], 1⟩] (fun _ _ => 0) := by
  have hb : Below w.heap.size w (w.alloc (.cells #[.slice none 0 0, .int .u8 1] 57)) := (Below.refl _ _).alloc (Nat.le_refl _) _
  have hd : Domi (w.alloc (.cells #[.slice none 0 0, .int .u8 1] 57)) (w.heap.size + 1) (some ⟨w.heap.size, 0, none⟩) l1 := by
    refine ⟨seg_new w 57 #[.slice none 0 0, .int .u8 1], fun x hx => ?_, fun x hx => ?_⟩
    · simp only [l1, List.mem_cons, List.not_mem_nil, or_false] at hx
      subst hx; exact Seg.nil
    · simp only [l1, List.mem_cons, List.not_mem_nil, or_false] at hx
      subst hx; exact Nat.le_refl _
  refine (new_net _ 1 l1 1 rfl (fun x hx => by simp only [l1, List.mem_cons, List.not_mem_nil, or_false] at hx; subst hx; decide) _ (hd.more (by simp))).mono ?_
  rintro e w' ⟨hb2, (⟨h1, rfl⟩ | ⟨h1, rfl, hn⟩)⟩
  · exact absurd may1 h1
  · exact ⟨_, _, rfl, hb.trans (hb2.mono hb.size), by simp, hn⟩
theorem lev11 (u : Nat) (hu : u < 1024) : lev [⟨[], 1⟩] (updW (fun _ _ => 0) u (0 : Nat) 1) = settle [⟨[], 1⟩] (upd (fun _ => 0) 0 1) := lev_one _ hu 1
theorem e_one : voteE [⟨[], 1⟩] (fun _ _ => 0) 1023 0 1 = 0 := by
  refine voteE_ok ⟨by decide, by decide, by decide, by decide⟩ fun i hi => ?_
  obtain rfl : i = 0 := by simp at hi; omega
  rw [show lev [⟨[], 1⟩] (updW (fun _ _ => 0) 1023 0 1) = _ from lev11 1023 (by omega)]
  show settle [⟨[], 1⟩] (upd (fun _ => 0) 0 1) 0 ≤ 1
  decide
theorem e_two (W : Int → Int → Nat) : voteE [⟨[], 1⟩] W 0 0 2 = 201 := by
  refine voteE_stuck ⟨by decide, by decide, by decide, by decide⟩ fun h => ?_
  have h1 := h 0 (by decide)
  have h2 := settle_le [⟨[], 1⟩] (bs (updW W 0 0 2)) 0
  have h3 := base_ge (updW W 0 0 2) (fun _ _ => true) (u := 0) (d := 0) (by omega) rfl
  rw [show updW W 0 0 2 ((0 : Nat) : Int) ((0 : Nat) : Int) = 2 from updW_same W 0 0 2] at h3
  have h4 : lev [⟨[], 1⟩] (updW W 0 0 2) 0 ≤ 1 := h1
  unfold lev at h4
  unfold bs at h2 h4
  omega
theorem e_three (W : Int → Int → Nat) : voteE [⟨[], 1⟩] W 1024 0 1 = 1 := voteE_arg (by unfold inR; omega)
theorem vote_c {w : World} {nb mb N : Nat} {W : Int → Int → Nat} (h : IsNet w nb mb N [⟨[], 1⟩] W) (hN : N < maxLen) (u d : Int) (lv : Nat) (hlv : lv ≤ 255) (er : Int) (he : voteE [⟨[], 1⟩] W u d lv = er) : Calls Try.prog 11 #[.pointer (some ⟨nb, 0, none⟩), .int .i64 u, .int .i64 d, .int .u8 (lv : Int)] w fun e w' =>
    ∃ A k c W', e = .returned (.tuple #[.slice A k c, .int .i64 er]) ∧ IsNet w' nb mb (N + 1) [⟨[], 1⟩] W' ∧ Frame (fun j => j = nb ∨ j = mb) w w' := by
  refine (vote_net h hN u d lv hlv).mono ?_
  rintro e w' ⟨A, c, rfl, _, hn, hf⟩
  exact ⟨A, _, c, _, by rw [he], hn, hf⟩
set_option maxRecDepth 100000 in
set_option maxHeartbeats 4000000 in
theorem names_any (w : World) : Calls Try.prog 7 #[] w fun e w' => e = .returned (.bool true) ∧ Below w.heap.size w w' := by
  obtain ⟨Z1, hZ1⟩ : ∃ Z, Z = madeCells #[.slice none 0 0, .int .u8 0] (256 * 2) := ⟨_, rfl⟩
  obtain ⟨Z2, hZ2⟩ : ∃ Z, Z = madeCells #[.slice none 0 0, .int .u8 0] (257 * 2) := ⟨_, rfl⟩
  have hmk : ∀ w : World, (Instr.makeSlice 31 (.int .i64 256) (.int .i64 256)).run Try.prog w = .ok (.slice (some ⟨w.heap.size, 0, none⟩) 256 256) (w.alloc (.cells Z1 57)) := fun w => by
    rw [hZ1]; exact make_dms 256 (by omega) w
  have hmk2 : ∀ w : World, (Instr.makeSlice 31 (.int .i64 257) (.int .i64 257)).run Try.prog w = .ok (.slice (some ⟨w.heap.size, 0, none⟩) 257 257) (w.alloc (.cells Z2 57)) := fun w => by
    rw [hZ2]; exact make_dms 257 (by omega) w
  have hn1 : ∀ w : World, Calls Try.prog 9 #[.slice (some ⟨w.heap.size, 0, none⟩) 256 256] (w.alloc (.cells Z1 57)) fun e w' => ∃ p, e = .returned (.tuple #[.pointer p, .int .i64 0]) ∧ Below w.heap.size w w' := fun w => by
    have := new_made (n := 256) (by omega) w
    rw [← hZ1, if_pos (by omega)] at this
    exact this
  have hn2 : ∀ w : World, Calls Try.prog 9 #[.slice (some ⟨w.heap.size, 0, none⟩) 257 257] (w.alloc (.cells Z2 57)) fun e w' => ∃ p, e = .returned (.tuple #[.pointer p, .int .i64 200]) ∧ Below w.heap.size w w' := fun w => by
    have := new_made (n := 257) (by omega) w
    rw [← hZ2, if_neg (by omega)] at this
    exact this
  have HN1 := Lib.hid hn1
  have HN2 := Lib.hid hn2
  clear hZ1 hZ2 hn1 hn2
  go_enter Try.func7, Try.ntmps7
  go_wp2_with (first
    | (go_at_call 18; refine (why_nil _ _).mono ?_; rintro e w4 ⟨rfl, rfl⟩)
    | (go_at_call 14; refine (leave_nil _ _).mono ?_; rintro e w3 ⟨rfl, hb3⟩; have HB3 := Lib.hid hb3; clear hb3)
    | (go_at_call 13; refine (level_nil _ _).mono ?_; rintro e w4 ⟨rfl, rfl⟩)
    | (go_at_call 12; refine (wants_nil _ _ _).mono ?_; rintro e w4 ⟨rfl, rfl⟩)
    | (go_at_call 15; refine (on_nil _).mono ?_; rintro e w4 ⟨rfl, rfl⟩)
    | (go_at_call 9; refine (HNEW3.out w7).mono ?_; rintro e w8 ⟨nb, mb, rfl, hb8, hmb, hnet⟩
       have hv := vote_c hnet (by unfold maxLen; omega) 1023 0 1 (by omega) 0 e_one
       have hnbmb := hnet.lt
       have HV := Lib.hid hv
       have hb8' := HB7.out.trans (hb8.mono HB7.out.size)
       have HB8 := Lib.hid hb8'
       have hs7 := HB7.out.size
       clear hb8 hb8' hnet hv)
    | (go_at_call 9; refine (HNEW2.out w6).mono ?_; rintro e w7 ⟨p7, rfl, hb7⟩
       have hb7' := HB6.out.trans (hb7.mono HB6.out.size)
       have HB7 := Lib.hid hb7'
       have HNEW3 := Lib.hid new_one
       clear hb7 hb7')
    | (go_at_call 9; refine (HN1.out w3).mono ?_; rintro e w6 ⟨p6, rfl, hb6⟩
       have hb6' := HB3.out.trans (hb6.mono HB3.out.size)
       have HB6 := Lib.hid hb6'
       have HNEW2 := HN2
       clear hb6 hb6')
    | (go_at_call 11; refine HV3.out.mono ?_; rintro e w11 ⟨A11, k11, c11, W11, rfl, _, hf11⟩
       have hb11 := HB10.out.trans (hf11.toBelow HB10.out.size (fun j hj hs => by omega))
       have HB11 := Lib.hid hb11
       clear hf11 hb11)
    | (go_at_call 11; refine HV2.out.mono ?_; rintro e w10 ⟨A10, k10, c10, W10, rfl, hn10, hf10⟩
       have hv3 := vote_c hn10 (by unfold maxLen; omega) 0 0 2 (by omega) 201 (e_two _)
       have HV3 := Lib.hid hv3
       have hb10 := HB9.out.trans (hf10.toBelow HB9.out.size (fun j hj hs => by omega))
       have HB10 := Lib.hid hb10
       clear hn10 hf10 hb10 hv3)
    | (go_at_call 11; refine HV.out.mono ?_; rintro e w9 ⟨A9, k9, c9, W9, rfl, hn9, hf9⟩
       have hv2 := vote_c hn9 (by unfold maxLen; omega) 1024 0 1 (by omega) 1 (e_three _)
       have HV2 := Lib.hid hv2
       have hb9 := HB8.out.trans (hf9.toBelow HB8.out.size (fun j hj hs => by omega))
       have HB9 := Lib.hid hb9
       clear hn9 hf9 hb9 hv2)
    | (go_at_call 11; refine (vote_nil _ _ _ _).mono ?_; rintro e w2 ⟨rfl, rfl⟩)
    | fail)
  go_ret
  exact ⟨by rfl, HB11.out⟩
end Go.Proofs.Ytghcemfffhjmjaa
