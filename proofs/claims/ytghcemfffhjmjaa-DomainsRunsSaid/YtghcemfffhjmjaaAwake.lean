/- The chapter's first example. -/
import Derived.Test.YtghcemfffhjmjaaNets
set_option linter.unusedVariables false
namespace Go.Proofs.Ytghcemfffhjmjaa
open Go.RowKit
def l4 (A1 A2 A3 : Option Addr) : List Dmi := [⟨[], 255, none, 0⟩, ⟨[0], 255, A1, 1⟩, ⟨[0], 3, A2, 1⟩, ⟨[1, 2], 255, A3, 2⟩]
def ds4 : List Dm := [⟨[], 255⟩, ⟨[0], 255⟩, ⟨[0], 3⟩, ⟨[1, 2], 255⟩]
theorem dms4 (A1 A2 A3 : Option Addr) : dms (l4 A1 A2 A3) = ds4 := rfl
theorem may4 (A1 A2 A3 : Option Addr) : mayD (l4 A1 A2 A3) := by
  refine ⟨by simp [l4], fun i hi => ?_⟩
  have : i = 0 ∨ i = 1 ∨ i = 2 ∨ i = 3 := by simp [l4] at hi; omega
  rcases this with rfl | rfl | rfl | rfl
  · show goodAt 0 []
    exact ⟨by decide, fun k hk => by simp at hk⟩
  · show goodAt 1 [0]
    exact ⟨by decide, fun k hk => by obtain rfl : k = 0 := by simp at hk; omega
                                     exact ⟨by simp, by simp, by simp⟩⟩
  · show goodAt 2 [0]
    exact ⟨by decide, fun k hk => by obtain rfl : k = 0 := by simp at hk; omega
                                     exact ⟨by simp, by simp, by simp⟩⟩
  · show goodAt 3 [1, 2]
    exact ⟨by decide, fun k hk => by
      have : k = 0 ∨ k = 1 := by simp at hk; omega
      rcases this with rfl | rfl
      · exact ⟨by simp, by simp, by simp⟩
      · exact ⟨by simp, by simp, by simp⟩⟩
theorem base_zero (kp : Int → Int → Bool) : baseF (fun _ _ => 0) kp = fun _ => 0 := by
  funext d
  exact Nat.le_zero.1 (base_le fun u _ _ => Nat.le_refl _)
theorem lev_one (ds : List Dm) {u d : Nat} (hu : u < 1024) (v : Nat) : lev ds (updW (fun _ _ => 0) u d v) = settle ds (upd (fun _ => 0) d v) := by
  unfold lev
  rw [base_put _ hu, base_zero]
  simp
theorem lev42 : lev ds4 (updW (fun _ _ => 0) (7 : Nat) (3 : Nat) 2) = settle ds4 (upd (fun _ => 0) 3 2) := lev_one ds4 (by omega) 2
theorem top42 : TopOk ds4 (lev ds4 (updW (fun _ _ => 0) (7 : Nat) (3 : Nat) 2)) := by
  rw [lev42]
  intro i hi
  have : i = 0 ∨ i = 1 ∨ i = 2 ∨ i = 3 := by simp [ds4] at hi; omega
  rcases this with rfl | rfl | rfl | rfl
  · show settle ds4 (upd (fun _ => 0) 3 2) 0 ≤ 255
    decide
  · show settle ds4 (upd (fun _ => 0) 3 2) 1 ≤ 255
    decide
  · show settle ds4 (upd (fun _ => 0) 3 2) 2 ≤ 3
    decide
  · show settle ds4 (upd (fun _ => 0) 3 2) 3 ≤ 255
    decide
theorem e42 : voteE ds4 (fun _ _ => 0) 7 3 2 = 0 := voteE_ok ⟨by decide, by decide, by decide, by decide⟩ top42
theorem w42 : voteW ds4 (fun _ _ => 0) 7 3 2 = updW (fun _ _ => 0) 7 3 2 := voteW_ok e42
theorem c42 : voteC ds4 (fun _ _ => 0) 7 3 2 = [(0, 0, 2), (1, 0, 2), (2, 0, 2), (3, 0, 2)] := by
  rw [voteC_ok e42, lev_none, show lev ds4 (updW (fun _ _ => 0) 7 3 2) = _ from lev42]
  decide
theorem e44 : voteE ds4 (updW (fun _ _ => 0) 7 3 2) 7 3 4 = 201 := by
  refine voteE_stuck ⟨by decide, by decide, by decide, by decide⟩ fun h => ?_
  rw [updW_twice, show lev ds4 (updW (fun _ _ => 0) 7 3 4) = _ from lev_one ds4 (u := 7) (d := 3) (by omega) 4] at h
  exact absurd (h 2 (by decide)) (by decide)
theorem v42 : levelAt ds4 (updW (fun _ _ => 0) 7 3 2) 2 = 2 := by
  unfold levelAt
  rw [if_pos (by decide), show lev ds4 (updW (fun _ _ => 0) 7 3 2) = _ from lev42]
  decide
def b4 (w : World) : World := ((w.alloc (.cells #[.int .i64 0] 3)).alloc (.cells #[.int .i64 0] 3)).alloc (.cells #[.int .i64 1, .int .i64 2] 3)
def c4 (n : Nat) : Array Value := #[.slice none 0 0, .int .u8 255, .slice (some ⟨n, 0, none⟩) 1 1, .int .u8 255, .slice (some ⟨n + 1, 0, none⟩) 1 1, .int .u8 3, .slice (some ⟨n + 1 + 1, 0, none⟩) 2 2, .int .u8 255]
theorem b4_size (w : World) : (b4 w).heap.size = w.heap.size + 1 + 1 + 1 := by simp [b4]
theorem dom4 (w : World) : Domi ((b4 w).alloc (.cells (c4 w.heap.size) 57)) ((b4 w).alloc (.cells (c4 w.heap.size) 57)).heap.size (some ⟨w.heap.size + 1 + 1 + 1, 0, none⟩)
    (l4 (some ⟨w.heap.size, 0, none⟩) (some ⟨w.heap.size + 1, 0, none⟩) (some ⟨w.heap.size + 1 + 1, 0, none⟩)) := by
  have hs := b4_size w
  have r1 : RowAt (w.alloc (.cells #[.int .i64 0] 3)) w.heap.size 3 (ints [0]) := ⟨_, heap_alloc_new _ _, rfl⟩
  have r2 : RowAt ((w.alloc (.cells #[.int .i64 0] 3)).alloc (.cells #[.int .i64 0] 3)) (w.heap.size + 1) 3 (ints [0]) := ⟨_, heap_new _ _ _ (by simp), rfl⟩
  have r3 : RowAt (b4 w) (w.heap.size + 1 + 1) 3 (ints [1, 2]) := ⟨_, heap_new _ _ _ (by simp), rfl⟩
  have r4 : RowAt ((b4 w).alloc (.cells (c4 w.heap.size) 57)) (w.heap.size + 1 + 1 + 1) 57 (c4 w.heap.size).toList := ⟨_, heap_new _ _ _ hs.symm, List.take_of_length_le (Nat.le_refl _)⟩
  have al : ∀ {W : World} {g : Nat} {xs : List Value} (o : Obj), RowAt W g 3 xs → RowAt (W.alloc o) g 3 xs := fun o h => h.keep (Below.heap_alloc _ _ _ h.lt)
  have s1 := al (.cells (c4 w.heap.size) 57) (al (.cells #[.int .i64 1, .int .i64 2] 3) (al (.cells #[.int .i64 0] 3) r1))
  have s2 := al (.cells (c4 w.heap.size) 57) (al (.cells #[.int .i64 1, .int .i64 2] 3) r2)
  have s3 := al (.cells (c4 w.heap.size) 57) r3
  have hz : ((b4 w).alloc (.cells (c4 w.heap.size) 57)).heap.size = w.heap.size + 1 + 1 + 1 + 1 := by rw [World.size_alloc, hs]
  refine ⟨r4.seg (by omega), fun x hx => ?_, fun x hx => ?_⟩
  · simp only [l4, List.mem_cons, List.not_mem_nil, or_false] at hx
    rcases hx with rfl | rfl | rfl | rfl
    · exact Seg.nil
    · exact s1.seg (by omega)
    · exact s2.seg (by omega)
    · exact s3.seg (by omega)
  · simp only [l4, List.mem_cons, List.not_mem_nil, or_false] at hx
    rcases hx with rfl | rfl | rfl | rfl <;> simp
def row4 : List Value := [.int .i64 0, .int .u8 0, .int .u8 2, .int .i64 1, .int .u8 0, .int .u8 2, .int .i64 2, .int .u8 0, .int .u8 2, .int .i64 3, .int .u8 0, .int .u8 2]
theorem vote41 {w : World} {nb mb N : Nat} (h : IsNet w nb mb N ds4 (fun _ _ => 0)) (hN : N < maxLen) : Calls Try.prog 11 #[.pointer (some ⟨nb, 0, none⟩), .int .i64 7, .int .i64 3, .int .u8 2] w fun e w' =>
    ∃ g c, e = .returned (.tuple #[.slice (some ⟨g, 0, none⟩) 4 c, .int .i64 0]) ∧ w.heap.size ≤ g ∧ RowAt w' g 40 row4 ∧ IsNet w' nb mb (N + 1) ds4 (updW (fun _ _ => 0) 7 3 2) ∧ Frame (fun j => j = nb ∨ j = mb) w w' := by
  have hv := vote_net h hN 7 3 2 (by omega)
  rw [c42, e42, w42] at hv
  refine Calls.mono (show Calls Try.prog 11 #[.pointer (some ⟨nb, 0, none⟩), .int .i64 7, .int .i64 3, .int .u8 2] w _ from hv) ?_
  rintro e w' ⟨A, c, rfl, ho, hn, hf⟩
  obtain ⟨g, rfl, hg, _, hr⟩ := RowAt.of_own ho (by decide)
  exact ⟨g, c, rfl, hg, hr, hn, hf⟩
theorem vote42 {w : World} {nb mb N : Nat} (h : IsNet w nb mb N ds4 (updW (fun _ _ => 0) 7 3 2)) (hN : N < maxLen) : Calls Try.prog 11 #[.pointer (some ⟨nb, 0, none⟩), .int .i64 7, .int .i64 3, .int .u8 4] w fun e w' =>
    ∃ A c, e = .returned (.tuple #[.slice A 0 c, .int .i64 201]) ∧ IsNet w' nb mb (N + 1) ds4 (updW (fun _ _ => 0) 7 3 2) ∧ Frame (fun j => j = nb ∨ j = mb) w w' := by
  have hv := vote_net h hN 7 3 4 (by omega)
  have hne : voteE ds4 (updW (fun _ _ => 0) 7 3 2) 7 3 4 ≠ 0 := by rw [e44]; decide
  rw [voteC_no hne, voteW_no hne, e44] at hv
  refine Calls.mono (show Calls Try.prog 11 #[.pointer (some ⟨nb, 0, none⟩), .int .i64 7, .int .i64 3, .int .u8 4] w _ from hv) ?_
  rintro e w' ⟨A, c, rfl, _, hn, hf⟩
  exact ⟨A, c, rfl, hn, hf⟩
theorem level4 {w : World} {nb mb N : Nat} (h : IsNet w nb mb N ds4 (updW (fun _ _ => 0) 7 3 2)) : Calls Try.prog 13 #[.pointer (some ⟨nb, 0, none⟩), .int .i64 2] w fun e w' => e = .returned (.int .u8 2) ∧ w = w' := by
  have hl := level_net h 2
  rw [v42] at hl
  exact hl
set_option maxRecDepth 100000 in
set_option maxHeartbeats 4000000 in
theorem awake_any (w : World) : Calls Try.prog 8 #[] w fun e w' => e = .returned (.bool true) ∧ Below w.heap.size w w' := by
  have hd := dom4 w
  have hsz : ((b4 w).alloc (.cells (c4 w.heap.size) 57)).heap.size = w.heap.size + 1 + 1 + 1 + 1 := by rw [World.size_alloc, b4_size]
  have hn := new_net _ 4 _ 4 rfl (fun x hx => by
    simp only [l4, List.mem_cons, List.not_mem_nil, or_false] at hx
    rcases hx with rfl | rfl | rfl | rfl <;> simp) _ hd
  have hbw : Below w.heap.size w ((b4 w).alloc (.cells (c4 w.heap.size) 57)) := ((((Below.refl _ _).alloc (Nat.le_refl _) _).alloc (by simp) _).alloc (by simp; omega) _).alloc (show w.heap.size ≤ (b4 w).heap.size by rw [b4_size]; omega) _
  rw [dms4] at hn
  rw [hsz] at hn
  have HN := Lib.hid hn
  have HB := Lib.hid hbw
  clear hd hn hbw
  go_enter Try.func8, Try.ntmps8
  go_wp2_with (first
    | (go_at_call 9; refine HN.out.mono ?_; rintro e w1 ⟨hb1, (⟨hno, rfl⟩ | ⟨_, rfl, hnet⟩)⟩; · exact absurd (may4 _ _ _) hno
       have hv := vote41 hnet (by unfold maxLen; omega)
       have hb1' := HB.out.trans (hb1.mono (by omega))
       have hlt1 := hnet.lt
       have HV := Lib.hid hv
       have HB1 := Lib.hid hb1'
       clear hb1 hnet hv hb1')
    | (go_at_call 11; refine HV2.out.mono ?_; rintro e w3 ⟨A3, c3, rfl, hnet3, hf3⟩
       have ho3 := HO.out.keep (w' := w3) (hf3.block g HO.out.lt (by omega))
       have hl := level4 hnet3
       have HL := Lib.hid hl
       have HF3 := Lib.hid hf3
       have k0 : w3.cell? ⟨g, 0, none⟩ = some (.int .i64 0) := ho3.cell (k := 0) (by decide)
       have k1 : w3.cell? ⟨g, 1, none⟩ = some (.int .u8 0) := ho3.cell (k := 1) (by decide)
       have k2 : w3.cell? ⟨g, 2, none⟩ = some (.int .u8 2) := ho3.cell (k := 2) (by decide)
       have k9 : w3.cell? ⟨g, 9, none⟩ = some (.int .i64 3) := ho3.cell (k := 9) (by decide)
       have k10 : w3.cell? ⟨g, 10, none⟩ = some (.int .u8 0) := ho3.cell (k := 10) (by decide)
       have k11 : w3.cell? ⟨g, 11, none⟩ = some (.int .u8 2) := ho3.cell (k := 11) (by decide)
       clear hnet3 ho3 hl hf3)
    | (go_at_call 11; refine HV.out.mono ?_; rintro e w2 ⟨g, c, rfl, hg, hrow, hnet, hf⟩
       have hv2 := vote42 hnet (by unfold maxLen; omega)
       have HV2 := Lib.hid hv2
       have HO := Lib.hid hrow
       have HF := Lib.hid hf
       clear hrow hnet hf hv2)
    | (go_at_call 13; refine HL.out.mono ?_; rintro e w4 ⟨rfl, rfl⟩)
    | fail)
  go_ret
  exact ⟨by rfl, HB1.out.trans ((HF.out.trans HF3.out).toBelow HB1.out.size (fun k hk hs => by rcases hs with hs | hs <;> omega))⟩
end Go.Proofs.Ytghcemfffhjmjaa
