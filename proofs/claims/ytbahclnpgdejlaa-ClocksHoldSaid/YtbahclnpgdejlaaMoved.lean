/- A move at both nets: the same answers, and both stand side by side behind it. -/
import Derived.Test.YtbahclnpgdejlaaPairMove
set_option linter.unusedVariables false
namespace Go.Proofs.Ytbahclnpgdejlaa
open Go.RowKit
def SB (nb rb n gu gh gr : Nat) (j : Nat) : Prop := SP nb n gu gh j ∨ SR rb n gr j
section
variable {w w' : World} {B nb n gu gh gr : Nat} {Ac Ar Au Ah : Option Addr} {cc cr cu ch rb : Nat} {Al Ru : Option Addr} {cl ru : Nat} {s : St} {l : List Clk} {us : List Int}
/-- Behind a move both nets stand side by side again. -/
def MovedTo (w : World) (B nb n gu gh gr : Nat) (Au Ah : Option Addr) (cu ch rb : Nat) (Ru : Option Addr) (ru : Nat) (e : Ending) (w' : World) : Prop :=
  e = .returned (.bool true) ∧ (∃ Ac Ar cc cr Al cl s, Both w' B nb n Ac Ar Au Ah cc cr cu ch rb Al Ru cl ru s) ∧ Frame (SB nb rb n gu gh gr) w w'
theorem RNet.lts (h : RNet w B rb n Al Ru cl ru l us) (ap : Apart n gu gh gr Au Ah Ru) (j : Nat) (hj : SR rb n gr j) : j < w.heap.size := by
  rcases hj with rfl | ⟨h0, rfl⟩
  · exact h.lt
  · obtain ⟨g', e', _, hr⟩ := h.row_u h0
    rw [ap.ru h0] at e'
    injection e' with e'
    injection e' with e'
    rw [e']; exact hr.lt
theorem NetAt.lts (h : NetAt w B nb n Ac Ar Au Ah cc cr cu ch s) (ap : Apart n gu gh gr Au Ah Ru) (j : Nat) (hj : SP nb n gu gh j) : j < w.heap.size := by
  rcases hj with rfl | ⟨h0, rfl | rfl⟩
  · exact h.lt
  · obtain ⟨g', e', _, hr⟩ := h.row_u h0
    rw [ap.au h0] at e'
    injection e' with e'
    injection e' with e'
    rw [e']; exact hr.lt
  · obtain ⟨g', e', _, hr⟩ := h.row_h h0
    rw [ap.ah h0] at e'
    injection e' with e'
    injection e' with e'
    rw [e']; exact hr.lt
theorem moved_end {W0 w1 w2 w3 : World} {Ac' Ar' Al' : Option Addr} {cc' cr' cl' : Nat} {s' : St} (hb0 : Below w.heap.size w W0) (hf1 : Frame (SP nb n gu gh) W0 w1) (hf2 : Frame (SR rb n gr) w1 w2) (hb3 : Below w2.heap.size w2 w3)
    (hn : NetAt w2 B nb n Ac' Ar' Au Ah cc' cr' cu ch s') (hr : RNet w2 B rb n Al' Ru cl' ru s'.l s'.us) (hi : Inv s') (hb : Bal s'.l (fun j => s'.us.getD j 0) s'.hs) (hp : ∀ j, 0 ≤ s'.hs.getD j 0) (h0 : ∀ j, 0 ≤ s'.us.getD j 0) (h1 : ∀ j, s'.us.getD j 0 ≤ 65535) :
    MovedTo w B nb n gu gh gr Au Ah cu ch rb Ru ru (.returned (.bool true)) w3 :=
  ⟨rfl, ⟨_, _, _, _, _, _, s', hn.below hb3, hr.below hb3, hi, hb, hp, h0, h1⟩, (((Frame.of_below hb0).next hf1 (fun _ _ x => Or.inl x)).next hf2 (fun _ _ x => Or.inr x)).below hb3⟩
set_option maxRecDepth 100000 in
set_option maxHeartbeats 4000000 in
theorem moved_0 (h : Both w B nb n Ac Ar Au Ah cc cr cu ch rb Al Ru cl ru s) (ap : Apart n gu gh gr Au Ah Ru) (hBw : B ≤ w.heap.size) (I F W : Int) :
    Calls Try.prog 18 #[.pointer (some ⟨nb, 0, none⟩), .pointer (some ⟨rb, 0, none⟩), .agg #[.int .i64 0, .int .i64 I, .int .i64 F, .int .i64 W]] w (MovedTo w B nb n gu gh gr Au Ah cu ch rb Ru ru) := by
  have hb0 : Below w.heap.size w (w.alloc (.cells #[.int .i64 0, .int .i64 I, .int .i64 F, .int .i64 W] 54)) := (Below.refl _ _).alloc (Nat.le_refl _) _
  have h0 := h.below hb0
  have hBw0 := Nat.le_trans hBw hb0.size
  have hnl := fun j hj => h.net.lts (gr := gr) (Ru := Ru) ap j hj
  have hrl := fun j hj => h.rnet.lts (gu := gu) (gh := gh) (Au := Au) (Ah := Ah) ap j hj
  obtain ⟨t, z, s', hl, hp⟩ := pair_get h0 ap I
  have HP := Lib.hid hp.prog
  have HR := Lib.hid hp.ref
  have HB0 := Lib.hid hb0
  have H0 := Lib.hid h0
  have HA := Lib.hid ap
  have HPP := Lib.hid hp
  have HNL := Lib.hid hnl
  have HRL := Lib.hid hrl
  obtain ⟨m, hm⟩ : ∃ m, m = t.length := ⟨_, rfl⟩
  rw [← hm] at HP HR hl
  have HM := Lib.hid hm
  clear hp hb0 h0 h ap hm hnl hrl
  have ez : (z == z) = true := by simp
  go_enter Try.func18, Try.ntmps18
  go_wp2_with (first
    | (go_at_call 12
       refine HP.out.mono ?_
       rintro e w1 ⟨A1, c1, Ac', Ar', cc', cr', rfl, ho1, hn1, hf1⟩
       have hr1 := H0.out.rnet.frameP H0.out.net HA.out hf1
       have x1 := (hf1.block w.heap.size (by simp) (fun hx => by have := HNL.out _ hx; omega)).trans (heap_alloc_new w _)
       have y1 := cell_of_row w1 w.heap.size 1 _ _ (0, 0) x1
       have y2 := cell_of_row w1 w.heap.size 2 _ _ (0, 0) x1
       have y3 := cell_of_row w1 w.heap.size 3 _ _ (0, 0) x1
       simp only [List.getElem?_toArray, List.getElem?_cons_succ, List.getElem?_cons_zero] at y1 y2 y3
       have hB1 : B ≤ w1.heap.size := Nat.le_trans hBw0 hf1.size
       have HN1 := Lib.hid hn1
       have HF1 := Lib.hid hf1
       have HR1 := Lib.hid hr1
       have HO1 := Lib.hid ho1
       clear ho1 hn1 hf1 hr1 x1)
    | (go_at_call 34
       refine (HR.out w1 _ _ HR1.out hB1).mono ?_
       rintro e w2 ⟨A2, c2, Al', cl', rfl, ho2, hr2, hf2⟩
       have hn2 := HN1.out.frameR HR1.out HA.out hf2
       have HN2 := Lib.hid hn2
       have HR2 := Lib.hid hr2
       have HF2 := Lib.hid hf2
       have ho12 := own_frame HO1.out hf2 (fun g hg hx => by have := (HO1.out.lt g hg).1; have := HRL.out _ hx; have := HB0.out.size; omega)
       have HO2 := Lib.hid ho2
       have HO12 := Lib.hid ho12
       clear ho2 hr2 hf2 hn2 ho12)
    | (go_at_call 35
       refine (turns_any t _ _ _ _ m HM.out (by omega) w2 w2.heap.size (Nat.le_refl _) (own_seg HO12.out) (own_seg HO2.out)).mono ?_
       rintro e w3 ⟨rfl, hb3⟩
       have HB3 := Lib.hid hb3
       clear hb3))
  go_ret
  exact moved_end HB0.out HF1.out HF2.out HB3.out HN2.out HR2.out HPP.out.inv HPP.out.bal HPP.out.pos HPP.out.us0 HPP.out.us1
set_option maxRecDepth 100000 in
set_option maxHeartbeats 4000000 in
theorem moved_1 (h : Both w B nb n Ac Ar Au Ah cc cr cu ch rb Al Ru cl ru s) (ap : Apart n gu gh gr Au Ah Ru) (hBw : B ≤ w.heap.size) (I F W : Int) :
    Calls Try.prog 18 #[.pointer (some ⟨nb, 0, none⟩), .pointer (some ⟨rb, 0, none⟩), .agg #[.int .i64 1, .int .i64 I, .int .i64 F, .int .i64 W]] w (MovedTo w B nb n gu gh gr Au Ah cu ch rb Ru ru) := by
  have hb0 : Below w.heap.size w (w.alloc (.cells #[.int .i64 1, .int .i64 I, .int .i64 F, .int .i64 W] 54)) := (Below.refl _ _).alloc (Nat.le_refl _) _
  have h0 := h.below hb0
  have hBw0 := Nat.le_trans hBw hb0.size
  have hnl := fun j hj => h.net.lts (gr := gr) (Ru := Ru) ap j hj
  have hrl := fun j hj => h.rnet.lts (gu := gu) (gh := gh) (Au := Au) (Ah := Ah) ap j hj
  obtain ⟨t, z, s', hl, hp⟩ := pair_put h0 ap I
  have HP := Lib.hid hp.prog
  have HR := Lib.hid hp.ref
  have HB0 := Lib.hid hb0
  have H0 := Lib.hid h0
  have HA := Lib.hid ap
  have HPP := Lib.hid hp
  have HNL := Lib.hid hnl
  have HRL := Lib.hid hrl
  obtain ⟨m, hm⟩ : ∃ m, m = t.length := ⟨_, rfl⟩
  rw [← hm] at HP HR hl
  have HM := Lib.hid hm
  clear hp hb0 h0 h ap hm hnl hrl
  have ez : (z == z) = true := by simp
  go_enter Try.func18, Try.ntmps18
  go_wp2_with (first
    | (go_at_call 14
       refine HP.out.mono ?_
       rintro e w1 ⟨A1, c1, Ac', Ar', cc', cr', rfl, ho1, hn1, hf1⟩
       have hr1 := H0.out.rnet.frameP H0.out.net HA.out hf1
       have x1 := (hf1.block w.heap.size (by simp) (fun hx => by have := HNL.out _ hx; omega)).trans (heap_alloc_new w _)
       have y1 := cell_of_row w1 w.heap.size 1 _ _ (0, 0) x1
       have y2 := cell_of_row w1 w.heap.size 2 _ _ (0, 0) x1
       have y3 := cell_of_row w1 w.heap.size 3 _ _ (0, 0) x1
       simp only [List.getElem?_toArray, List.getElem?_cons_succ, List.getElem?_cons_zero] at y1 y2 y3
       have hB1 : B ≤ w1.heap.size := Nat.le_trans hBw0 hf1.size
       have HN1 := Lib.hid hn1
       have HF1 := Lib.hid hf1
       have HR1 := Lib.hid hr1
       have HO1 := Lib.hid ho1
       clear ho1 hn1 hf1 hr1 x1)
    | (go_at_call 36
       refine (HR.out w1 _ _ HR1.out hB1).mono ?_
       rintro e w2 ⟨A2, c2, Al', cl', rfl, ho2, hr2, hf2⟩
       have hn2 := HN1.out.frameR HR1.out HA.out hf2
       have HN2 := Lib.hid hn2
       have HR2 := Lib.hid hr2
       have HF2 := Lib.hid hf2
       have ho12 := own_frame HO1.out hf2 (fun g hg hx => by have := (HO1.out.lt g hg).1; have := HRL.out _ hx; have := HB0.out.size; omega)
       have HO2 := Lib.hid ho2
       have HO12 := Lib.hid ho12
       clear ho2 hr2 hf2 hn2 ho12)
    | (go_at_call 35
       refine (turns_any t _ _ _ _ m HM.out (by omega) w2 w2.heap.size (Nat.le_refl _) (own_seg HO12.out) (own_seg HO2.out)).mono ?_
       rintro e w3 ⟨rfl, hb3⟩
       have HB3 := Lib.hid hb3
       clear hb3))
  go_ret
  exact moved_end HB0.out HF1.out HF2.out HB3.out HN2.out HR2.out HPP.out.inv HPP.out.bal HPP.out.pos HPP.out.us0 HPP.out.us1
set_option maxRecDepth 100000 in
set_option maxHeartbeats 4000000 in
theorem moved_2 (h : Both w B nb n Ac Ar Au Ah cc cr cu ch rb Al Ru cl ru s) (ap : Apart n gu gh gr Au Ah Ru) (hBw : B ≤ w.heap.size) (I F W : Int) :
    Calls Try.prog 18 #[.pointer (some ⟨nb, 0, none⟩), .pointer (some ⟨rb, 0, none⟩), .agg #[.int .i64 2, .int .i64 I, .int .i64 F, .int .i64 W]] w (MovedTo w B nb n gu gh gr Au Ah cu ch rb Ru ru) := by
  have hb0 : Below w.heap.size w (w.alloc (.cells #[.int .i64 2, .int .i64 I, .int .i64 F, .int .i64 W] 54)) := (Below.refl _ _).alloc (Nat.le_refl _) _
  have h0 := h.below hb0
  have hBw0 := Nat.le_trans hBw hb0.size
  have hnl := fun j hj => h.net.lts (gr := gr) (Ru := Ru) ap j hj
  have hrl := fun j hj => h.rnet.lts (gu := gu) (gh := gh) (Au := Au) (Ah := Ah) ap j hj
  obtain ⟨t, z, s', hl, hp⟩ := pair_set h0 ap hBw0 I W
  have HP := Lib.hid hp.prog
  have HR := Lib.hid hp.ref
  have HB0 := Lib.hid hb0
  have H0 := Lib.hid h0
  have HA := Lib.hid ap
  have HPP := Lib.hid hp
  have HNL := Lib.hid hnl
  have HRL := Lib.hid hrl
  obtain ⟨m, hm⟩ : ∃ m, m = t.length := ⟨_, rfl⟩
  rw [← hm] at HP HR hl
  have HM := Lib.hid hm
  clear hp hb0 h0 h ap hm hnl hrl
  have ez : (z == z) = true := by simp
  go_enter Try.func18, Try.ntmps18
  go_wp2_with (first
    | (go_at_call 29
       refine HP.out.mono ?_
       rintro e w1 ⟨A1, c1, Ac', Ar', cc', cr', rfl, ho1, hn1, hf1⟩
       have hr1 := H0.out.rnet.frameP H0.out.net HA.out hf1
       have x1 := (hf1.block w.heap.size (by simp) (fun hx => by have := HNL.out _ hx; omega)).trans (heap_alloc_new w _)
       have y1 := cell_of_row w1 w.heap.size 1 _ _ (0, 0) x1
       have y2 := cell_of_row w1 w.heap.size 2 _ _ (0, 0) x1
       have y3 := cell_of_row w1 w.heap.size 3 _ _ (0, 0) x1
       simp only [List.getElem?_toArray, List.getElem?_cons_succ, List.getElem?_cons_zero] at y1 y2 y3
       have hB1 : B ≤ w1.heap.size := Nat.le_trans hBw0 hf1.size
       have HN1 := Lib.hid hn1
       have HF1 := Lib.hid hf1
       have HR1 := Lib.hid hr1
       have HO1 := Lib.hid ho1
       clear ho1 hn1 hf1 hr1 x1)
    | (go_at_call 37
       refine (HR.out w1 _ _ HR1.out hB1).mono ?_
       rintro e w2 ⟨A2, c2, Al', cl', rfl, ho2, hr2, hf2⟩
       have hn2 := HN1.out.frameR HR1.out HA.out hf2
       have HN2 := Lib.hid hn2
       have HR2 := Lib.hid hr2
       have HF2 := Lib.hid hf2
       have ho12 := own_frame HO1.out hf2 (fun g hg hx => by have := (HO1.out.lt g hg).1; have := HRL.out _ hx; have := HB0.out.size; omega)
       have HO2 := Lib.hid ho2
       have HO12 := Lib.hid ho12
       clear ho2 hr2 hf2 hn2 ho12)
    | (go_at_call 38
       refine (changes_any t _ _ _ _ m HM.out (by omega) w2 w2.heap.size (Nat.le_refl _) (own_seg HO12.out) (own_seg HO2.out)).mono ?_
       rintro e w3 ⟨rfl, hb3⟩
       have HB3 := Lib.hid hb3
       clear hb3))
  go_ret
  exact moved_end HB0.out HF1.out HF2.out HB3.out HN2.out HR2.out HPP.out.inv HPP.out.bal HPP.out.pos HPP.out.us0 HPP.out.us1
set_option maxRecDepth 100000 in
set_option maxHeartbeats 4000000 in
theorem moved_3 (h : Both w B nb n Ac Ar Au Ah cc cr cu ch rb Al Ru cl ru s) (ap : Apart n gu gh gr Au Ah Ru) (hBw : B ≤ w.heap.size) (I F W : Int) :
    Calls Try.prog 18 #[.pointer (some ⟨nb, 0, none⟩), .pointer (some ⟨rb, 0, none⟩), .agg #[.int .i64 3, .int .i64 I, .int .i64 F, .int .i64 W]] w (MovedTo w B nb n gu gh gr Au Ah cu ch rb Ru ru) := by
  have hb0 : Below w.heap.size w (w.alloc (.cells #[.int .i64 3, .int .i64 I, .int .i64 F, .int .i64 W] 54)) := (Below.refl _ _).alloc (Nat.le_refl _) _
  have h0 := h.below hb0
  have hBw0 := Nat.le_trans hBw hb0.size
  have hnl := fun j hj => h.net.lts (gr := gr) (Ru := Ru) ap j hj
  have hrl := fun j hj => h.rnet.lts (gu := gu) (gh := gh) (Au := Au) (Ah := Ah) ap j hj
  obtain ⟨t, u, z, s', hl, hl2, hp⟩ := pair_move h0 ap hBw0 I F
  have HP := Lib.hid hp.prog
  have HR := Lib.hid hp.ref
  have HB0 := Lib.hid hb0
  have H0 := Lib.hid h0
  have HA := Lib.hid ap
  have HPP := Lib.hid hp
  have HNL := Lib.hid hnl
  have HRL := Lib.hid hrl
  obtain ⟨m, hm⟩ : ∃ m, m = t.length := ⟨_, rfl⟩
  obtain ⟨m2, hm2⟩ : ∃ m2, m2 = u.length := ⟨_, rfl⟩
  rw [← hm, ← hm2] at HP HR
  rw [← hm] at hl
  rw [← hm2] at hl2
  have HM := Lib.hid hm
  have HM2 := Lib.hid hm2
  clear hp hb0 h0 h ap hm hnl hrl hm2
  have ez : (z == z) = true := by simp
  go_enter Try.func18, Try.ntmps18
  go_wp2_with (first
    | (go_at_call 39
       refine HP.out.mono ?_
       rintro e w1 ⟨A1, c1, D1, d1, Ac', Ar', cc', cr', rfl, ho1, hq1, hn1, hf1⟩
       have hr1 := H0.out.rnet.frameP H0.out.net HA.out hf1
       have x1 := (hf1.block w.heap.size (by simp) (fun hx => by have := HNL.out _ hx; omega)).trans (heap_alloc_new w _)
       have y1 := cell_of_row w1 w.heap.size 1 _ _ (0, 0) x1
       have y2 := cell_of_row w1 w.heap.size 2 _ _ (0, 0) x1
       have y3 := cell_of_row w1 w.heap.size 3 _ _ (0, 0) x1
       simp only [List.getElem?_toArray, List.getElem?_cons_succ, List.getElem?_cons_zero] at y1 y2 y3
       have hB1 : B ≤ w1.heap.size := Nat.le_trans hBw0 hf1.size
       have HN1 := Lib.hid hn1
       have HF1 := Lib.hid hf1
       have HR1 := Lib.hid hr1
       have HO1 := Lib.hid ho1
       have HQ1 := Lib.hid hq1
       clear ho1 hn1 hf1 hr1 x1 hq1)
    | (go_at_call 40
       refine (HR.out w1 _ _ HR1.out hB1).mono ?_
       rintro e w2 ⟨A2, c2, D2, d2, Al', cl', rfl, ho2, hq2, hr2, hf2⟩
       have hn2 := HN1.out.frameR HR1.out HA.out hf2
       have HN2 := Lib.hid hn2
       have HR2 := Lib.hid hr2
       have HF2 := Lib.hid hf2
       have ho12 := own_frame HO1.out hf2 (fun g hg hx => by have := (HO1.out.lt g hg).1; have := HRL.out _ hx; have := HB0.out.size; omega)
       have hq12 := own_frame HQ1.out hf2 (fun g hg hx => by have := (HQ1.out.lt g hg).1; have := HRL.out _ hx; have := HB0.out.size; omega)
       have HO2 := Lib.hid ho2
       have HQ2 := Lib.hid hq2
       have HO12 := Lib.hid ho12
       have HQ12 := Lib.hid hq12
       clear ho2 hr2 hf2 hn2 ho12 hq12 hq2)
    | (go_at_call 38
       refine (changes_any t _ _ _ _ m HM.out (by omega) w2 w2.heap.size (Nat.le_refl _) (own_seg HO12.out) (own_seg HO2.out)).mono ?_
       rintro e w3 ⟨rfl, hb3⟩
       have HB3 := Lib.hid hb3
       clear hb3)
    | (go_at_call 35
       refine (turns_any u _ _ _ _ m2 HM2.out (by omega) w3 w3.heap.size (Nat.le_refl _) (own_seg (own_below HQ12.out HB3.out)) (own_seg (own_below HQ2.out HB3.out))).mono ?_
       rintro e w4 ⟨rfl, hb4⟩
       have HB4 := Lib.hid (below_next HB3.out hb4)
       clear hb4))
  go_ret
  exact moved_end HB0.out HF1.out HF2.out HB4.out HN2.out HR2.out HPP.out.inv HPP.out.bal HPP.out.pos HPP.out.us0 HPP.out.us1
set_option maxRecDepth 100000 in
set_option maxHeartbeats 4000000 in
theorem moved_4 (h : Both w B nb n Ac Ar Au Ah cc cr cu ch rb Al Ru cl ru s) (ap : Apart n gu gh gr Au Ah Ru) (hBw : B ≤ w.heap.size) (K I F W : Int) (h4 : (K == 0) = false ∧ (K == 1) = false ∧ (K == 2) = false ∧ (K == 3) = false) :
    Calls Try.prog 18 #[.pointer (some ⟨nb, 0, none⟩), .pointer (some ⟨rb, 0, none⟩), .agg #[.int .i64 K, .int .i64 I, .int .i64 F, .int .i64 W]] w (MovedTo w B nb n gu gh gr Au Ah cu ch rb Ru ru) := by
  have hb0 : Below w.heap.size w (w.alloc (.cells #[.int .i64 K, .int .i64 I, .int .i64 F, .int .i64 W] 54)) := (Below.refl _ _).alloc (Nat.le_refl _) _
  have h0 := h.below hb0
  have hBw0 := Nat.le_trans hBw hb0.size
  have hnl := fun j hj => h.net.lts (gr := gr) (Ru := Ru) ap j hj
  have hrl := fun j hj => h.rnet.lts (gu := gu) (gh := gh) (Au := Au) (Ah := Ah) ap j hj
  obtain ⟨a, r, z, hp, hr⟩ := pair_round h0 I W
  obtain ⟨q0, q1, q2, q3⟩ := h4
  have HP := Lib.hid hp
  have HR := Lib.hid hr
  have HB0 := Lib.hid hb0
  have H0 := Lib.hid h0
  clear hp hb0 h0 h ap hnl hrl hr
  have ez : (z == z) = true := by simp
  have ea : (a == a) = true := by simp
  have er : (r == r) = true := by simp
  go_enter Try.func18, Try.ntmps18
  go_wp2_with (first
    | (go_at_call 8
       refine HP.out.mono ?_
       rintro e w1 ⟨rfl, hb1⟩
       have x1 := (hb1.block w.heap.size (by simp)).trans (heap_alloc_new w _)
       have y1 := cell_of_row w1 w.heap.size 1 _ _ (0, 0) x1
       have y2 := cell_of_row w1 w.heap.size 2 _ _ (0, 0) x1
       have y3 := cell_of_row w1 w.heap.size 3 _ _ (0, 0) x1
       simp only [List.getElem?_toArray, List.getElem?_cons_succ, List.getElem?_cons_zero] at y1 y2 y3
       have HB1 := Lib.hid hb1
       clear hb1 x1)
    | (go_at_call 41
       refine (HR.out w1 HB1.out).mono ?_
       rintro e w2 ⟨rfl, hb2⟩
       have HB2 := Lib.hid (below_next HB1.out hb2)
       clear hb2))
  go_ret
  exact ⟨rfl, ⟨_, _, _, _, _, _, s, H0.out.below HB2.out⟩, (Frame.of_below HB0.out).below HB2.out⟩
end
end Go.Proofs.Ytbahclnpgdejlaa
