/- A move at the statement's book: Set; any move. -/
import Derived.Test.YtbahclnpgdejlaaHeldA
set_option linter.unusedVariables false
namespace Go.Proofs.Ytbahclnpgdejlaa
open Go.RowKit
section
variable {w w' : World} {B nb n gu gh gb : Nat} {Ac Ar Au Ah : Option Addr} {cc cr cu ch bb : Nat} {Al Bu : Option Addr} {cl bu : Nat} {s s' : St} {l : List Clk} {us : List Int}
set_option maxRecDepth 100000 in
set_option maxHeartbeats 4000000 in
theorem hold2_no (h : Kept w B nb n Ac Ar Au Ah cc cr cu ch bb Al Bu cl bu s) (ap : Apart n gu gh gb Au Ah Bu) (F want z d r : Int) (hz : z ≠ 0) (k : Nat) (hk : k < n) (hkl : k < s.l.length) (h1 : 0 ≤ want) (h2 : want ≤ 1099511627776)
    (hd : d = (roundOf (baseOf s.rs s.l[k] * s.l[k].mul) want).1) (hr : r = (roundOf (baseOf s.rs s.l[k] * s.l[k].mul) want).2)
    (hp : ∀ w1, Below w.heap.size w w1 → Calls Try.prog 29 #[.pointer (some ⟨nb, 0, none⟩), .int .i64 k, .int .i64 want] w1 (Chgs1 w1 B nb n gu gh Au Ah cu ch [] z s)) :
    Calls Try.prog 21 #[.pointer (some ⟨bb, 0, none⟩), .pointer (some ⟨nb, 0, none⟩), .agg #[.int .i64 2, .int .i64 k, .int .i64 F, .int .i64 want]] w (HeldTo B nb n Au Ah cu ch bb Al Bu cl bu w) := by
  have hn5 := h.n5
  have h0 : 0 < n := by omega
  obtain ⟨gl, rfl, _, hrl0⟩ := h.book.row_l h0
  have hb0 : Below w.heap.size w (w.alloc (.cells #[.int .i64 2, .int .i64 k, .int .i64 F, .int .i64 want] 54)) := (Below.refl _ _).alloc (Nat.le_refl _) _
  have esz : (w.alloc (.cells #[.int .i64 2, .int .i64 k, .int .i64 F, .int .i64 want] 54)).heap.size = w.heap.size + 1 := by simp
  have hwas := was_any (h.net.below hb0) hn5
  rw [esz] at hwas
  have d0 := h.book.c0
  have hbbw := h.book.lt
  obtain ⟨vb1, vb2⟩ := h.inv.base_bd hkl
  have o := h.inv.good.at_ hkl
  have hm1 := o.m1
  have hm2 := o.m2
  have hrd := fun w1 (hb : Below w.heap.size w w1) => round_ok (h.net.below hb) h.inv hkl want h1 h2
  simp only [← hd, ← hr] at hrd
  have hrr := round_rate (baseOf s.rs s.l[k] * s.l[k].mul) want (Int.mul_nonneg vb1 (by omega)) h1
  rw [← hd, ← hr] at hrr
  have dbd := round_bd (baseOf s.rs s.l[k] * s.l[k].mul) want (Int.mul_nonneg vb1 (by omega)) h1
  rw [← hd] at dbd
  have hbas := fun w1 w2 (hn : ∃ Ac Ar cc cr, NetAt w1 B nb n Ac Ar Au Ah cc cr cu ch s) (hb : BookAt w1 B bb n (some ⟨gl, 0, none⟩) Bu cl bu s.l s.us) (hw : Below w1.heap.size w1 w2) =>
    (show Calls Try.prog 44 #[.pointer (some ⟨bb, 0, none⟩), .pointer (some ⟨nb, 0, none⟩), .int .i64 k] w2 fun e w' => e = .returned (.int .i64 (baseOf s.rs s.l[k])) ∧ w2 = w' from by
      obtain ⟨_, _, _, _, hn⟩ := hn
      exact bbase2 (hn.below hw) (hb.below hw) h.inv.good hkl)
  have hmul : ∀ w2, BookAt w2 B bb n (some ⟨gl, 0, none⟩) Bu cl bu s.l s.us → w2.cell? ⟨gl, k * 7 + 2, none⟩ = some (.int .i64 s.l[k].mul) := fun w2 hb => by
    obtain ⟨b, off, e, _, _, _, g2, _⟩ := hb.vl.seg.clk hkl
    injection e with e
    injection e with e1 e2
    subst e1 e2
    rw [Nat.zero_add] at g2
    exact g2
  obtain ⟨v, hv⟩ : ∃ v, v = baseOf s.rs s.l[k] := ⟨_, rfl⟩
  obtain ⟨M, hM⟩ : ∃ M, M = s.l[k].mul := ⟨_, rfl⟩
  rw [← hv, ← hM] at hrr
  rw [← hv] at vb1 vb2
  rw [← hM] at hm1 hm2
  simp only [← hM] at hmul
  simp only [← hv] at hbas
  obtain ⟨p1, p2, p3, p4⟩ := prod_bd vb1 vb2 hm1 hm2 dbd.1
  have e1 : IntKind.i64.wrap (v * M) = v * M := IntWalk.i64_in _ (by omega)
  have e2 : IntKind.i64.wrap ((v * M).tdiv d) = r := by rw [hrr]; exact IntWalk.i64_quo _ _ (by omega)
  have e3 : ¬ d = 0 := by omega
  have f1 : (r != r) = false := by simp
  have f2 : decide (d < 1) = false := by simp; omega
  have f3 : decide (65535 < d) = false := by simp; omega
  have hp2 := fun w1 (hb : Below w.heap.size w w1) => (hp w1 hb).mono (R' := fun e w2 => ∃ A c Ac' Ar' cc' cr', e = .returned (.tuple #[.slice A 0 c, .int .i64 z]) ∧ NetAt w2 B nb n Ac' Ar' Au Ah cc' cr' cu ch s ∧ Frame (SP nb n gu gh) w1 w2) (fun e w2 ⟨A, c, Ac', Ar', cc', cr', he, _, hn, hf⟩ => ⟨A, c, Ac', Ar', cc', cr', he, hn, hf⟩)
  have htold := fun (w3 : World) (h3 : ∃ Ac Ar cc cr, Kept w3 B nb n Ac Ar Au Ah cc cr cu ch bb (some ⟨gl, 0, none⟩) Bu cl bu s) (A4 : Option Addr) (c4 : Nat) (r1 : RowAt w3 (w.heap.size + 1) 2 (i64s s.rs)) (r2 : RowAt w3 (w.heap.size + 1 + 1) 4 (bools (onL s.l s.hs 0))) =>
    (show Calls Try.prog 46 #[.pointer (some ⟨bb, 0, none⟩), .pointer (some ⟨nb, 0, none⟩), .slice (some ⟨w.heap.size + 1, 0, none⟩) n n, .slice (some ⟨w.heap.size + 1 + 1, 0, none⟩) n n, .slice A4 0 c4, .slice none 0 0] w3 (fun e w' => e = .returned (.bool true) ∧ Below w3.heap.size w3 w') from by
      obtain ⟨_, _, _, _, h3⟩ := h3
      exact told_any h3 s.rs (onL s.l s.hs 0) h.net.lenr (by rw [onL_len]; exact h.net.len) _ _ A4 none n n c4 0 0 0 (by rw [chg_none]; rfl) (by rw [turns_same]; rfl) (by omega) w3.heap.size (Nat.le_refl _) (r1.seg r1.lt) (r2.seg r2.lt) (by rw [chg_none]; exact Seg.nil) (by rw [turns_same]; exact Seg.nil) (fun j _ hne => absurd rfl hne))
  have HT := Lib.hid htold
  have HW := Lib.hid hwas
  have HH := Lib.hid h
  have HP := Lib.hid hp2
  have HA := Lib.hid ap
  have HB0 := Lib.hid hb0
  have HRD := Lib.hid hrd
  have HBS := Lib.hid hbas
  have HMU := Lib.hid hmul
  have d0' := (hb0.cell (p := ⟨bb, 0, none⟩) hbbw).trans d0
  have hx := heap_alloc_new w (.cells #[.int .i64 2, .int .i64 k, .int .i64 F, .int .i64 want] 54)
  have q0 := cell_of_row _ w.heap.size 0 _ _ (0, 0) hx
  have q1 := cell_of_row _ w.heap.size 1 _ _ (0, 0) hx
  have q3 := cell_of_row _ w.heap.size 3 _ _ (0, 0) hx
  simp only [List.getElem?_toArray, List.getElem?_cons_succ, List.getElem?_cons_zero] at q0 q1 q3
  have hBw : B ≤ w.heap.size := Nat.le_of_lt (Nat.lt_of_le_of_lt h.net.low h.net.lt)
  have ez : (z == 0) = false := by simpa using hz
  have ez2 : (z != 0) = true := by simpa using hz
  have hki : (k : Int) < (n : Int) := by omega
  clear htold hwas h hp hp2 ap hb0 d0 hx hz hrd hbas hmul hrr hd hr hv hM o hrl0 vb1 vb2 hm1 hm2 p1 p2 p3 p4 h1 h2
  go_enter Try.func21, Try.ntmps21
  go_wp2_with (first
    | (go_at_call 45
       refine HW.out.mono ?_
       rintro e w1 ⟨rfl, r1, r2, hb1⟩
       have z0 := (hb1.cell (p := ⟨w.heap.size, 0, none⟩) (by show w.heap.size < w.heap.size + 1; omega)).trans q0
       have z1 := (hb1.cell (p := ⟨w.heap.size, 1, none⟩) (by show w.heap.size < w.heap.size + 1; omega)).trans q1
       have z3 := (hb1.cell (p := ⟨w.heap.size, 3, none⟩) (by show w.heap.size < w.heap.size + 1; omega)).trans q3
       have k0 := (hb1.cell (p := ⟨bb, 0, none⟩) (by show bb < w.heap.size + 1; omega)).trans d0'
       have hs1 : w.heap.size + 1 ≤ w1.heap.size := by have := hb1.size; rw [esz] at this; exact this
       have R1 := Lib.hid r1
       have R2 := Lib.hid r2
       have HB1 := Lib.hid hb1
       clear r1 r2 hb1))
  go_quiet (fail)
  have hbd : Below w.heap.size w (w1.drewN nq) := below_drewN (HB0.out.trans (HB1.out.mono (by omega))) _
  have HBD := Lib.hid hbd
  clear hbd
  go_wp2_with (first
    | (go_at_call 8
       refine (HRD.out _ HBD.out).mono ?_
       rintro e w2 ⟨rfl, hb2⟩
       have y1 := (hb2.cell (p := ⟨w.heap.size, 1, none⟩) (by show w.heap.size < w1.heap.size; omega)).trans z1
       have y3 := (hb2.cell (p := ⟨w.heap.size, 3, none⟩) (by show w.heap.size < w1.heap.size; omega)).trans z3
       have hbd2 := HBD.out.trans (hb2.mono HBD.out.size)
       have hs2 : w1.heap.size ≤ w2.heap.size := hb2.size
       have HBD2 := Lib.hid hbd2
       have R3 := Lib.hid (RowAt.below (w := w1.drewN nq) R1.out hb2)
       have R4 := Lib.hid (RowAt.below (w := w1.drewN nq) R2.out hb2)
       clear hb2 hbd2)
    | (go_at_call 29
       refine (HP.out _ HBD2.out).mono ?_
       rintro e w3 ⟨A, c, Ac', Ar', cc', cr', rfl, hn2, hf⟩
       have hbe := behind HH.out HA.out HBD2.out hf
       have hkp := Kept.of hn2 hbe.book HH.out.sound
       have x0 := hbe.book.c0
       have x2 := HMU.out _ hbe.book
       have x1 := (hbe.cell ⟨w.heap.size, 1, none⟩ (Nat.le_refl _) (by show w.heap.size < w2.heap.size; omega)).trans y1
       have hbs := fun w4 hw => HBS.out w3 w4 ⟨_, _, _, _, hn2⟩ hbe.book hw
       have hs3 := hbe.low.size
       have HKP := Lib.hid hkp
       have HBS2 := Lib.hid hbs
       have R5 := Lib.hid (hbe.row _ _ _ (by omega) R3.out)
       have R6 := Lib.hid (hbe.row _ _ _ (by omega) R4.out)
       have HLO := Lib.hid hbe.low
       clear hn2 hf hbe hkp hbs))
  go_quiet ((go_at_call 44; exact Calls.quiet_of_same (turn_same (HBS2.out _ (below_drewN (Below.refl _ _) _)))))
  have hd : Below w3.heap.size w3 (w3.drewN nq) := below_drewN (Below.refl _ _) _
  have hkp2 := HKP.out.below hd
  have htl := HT.out (w3.drewN nq) ⟨_, _, _, _, hkp2⟩ A c R5.out R6.out
  have HTL := Lib.hid htl
  have HKP2 := Lib.hid hkp2
  have HLO2 := Lib.hid (HLO.out.trans (hd.mono (Nat.le_trans hBw hs3)))
  clear hd hkp2 htl x0 x1 x2 e1 e2 e3 f1 f2 f3 y1 y3 z1 z3
  go_wp2_with (first
    | (go_at_call 46
       refine HTL.out.mono ?_
       rintro e w4 ⟨rfl, hb4⟩
       have HB4 := Lib.hid hb4
       clear hb4)
    | (go_at_call 20
       refine (holds_any (HKP2.out.below HB4.out)).mono ?_
       rintro e w5 ⟨rfl, hb5⟩
       have HB5 := Lib.hid hb5
       clear hb5))
  go_ret
  have hs4 := HB4.out.size
  exact ⟨rfl, ⟨_, _, _, _, _, (HKP2.out.below HB4.out).below HB5.out⟩, (HLO2.out.trans (HB4.out.mono (Nat.le_trans hBw hs3))).trans (HB5.out.mono (Nat.le_trans (Nat.le_trans hBw hs3) hs4))⟩
set_option maxRecDepth 100000 in
set_option maxHeartbeats 4000000 in
theorem hold2_ok (h : Kept w B nb n Ac Ar Au Ah cc cr cu ch bb Al Bu cl bu s) (ap : Apart n gu gh gb Au Ah Bu) (F want d r : Int) (k : Nat) (hk : k < n) (hkl : k < s.l.length) (h1 : 0 ≤ want) (h2 : want ≤ 1099511627776)
    (hd : d = (roundOf (baseOf s.rs s.l[k] * s.l[k].mul) want).1) (hr : r = (roundOf (baseOf s.rs s.l[k] * s.l[k].mul) want).2)
    (t : List (Nat × Int × Int)) (s' : St) (hp : ∀ w1, Below w.heap.size w w1 → Calls Try.prog 29 #[.pointer (some ⟨nb, 0, none⟩), .int .i64 k, .int .i64 want] w1 (Chgs1 w1 B nb n gu gh Au Ah cu ch t 0 s')) (hs' : Sound s')
    (e1 : s'.l = s.l.set k { s.l[k] with div := d }) (ex3 : s'.us = s.us) (ex4 : t = chg s.rs s'.rs n) (ex5 : s'.hs = s.hs) (ex6 : Calm n s s') (hbs0 : baseOf s'.rs s.l[k] = baseOf s.rs s.l[k]) :
    Calls Try.prog 21 #[.pointer (some ⟨bb, 0, none⟩), .pointer (some ⟨nb, 0, none⟩), .agg #[.int .i64 2, .int .i64 k, .int .i64 F, .int .i64 want]] w (HeldTo B nb n Au Ah cu ch bb Al Bu cl bu w) := by
  have hn5 := h.n5
  have h0 : 0 < n := by omega
  obtain ⟨gl, rfl, hge, hrl0⟩ := h.book.row_l h0
  have hb0 : Below w.heap.size w (w.alloc (.cells #[.int .i64 2, .int .i64 k, .int .i64 F, .int .i64 want] 54)) := (Below.refl _ _).alloc (Nat.le_refl _) _
  have esz : (w.alloc (.cells #[.int .i64 2, .int .i64 k, .int .i64 F, .int .i64 want] 54)).heap.size = w.heap.size + 1 := by simp
  have hwas := was_any (h.net.below hb0) hn5
  rw [esz] at hwas
  have d0 := h.book.c0
  have hbbw := h.book.lt
  obtain ⟨vb1, vb2⟩ := h.inv.base_bd hkl
  have o := h.inv.good.at_ hkl
  have hm1 := o.m1
  have hm2 := o.m2
  have hrd := fun w1 (hb : Below w.heap.size w w1) => round_ok (h.net.below hb) h.inv hkl want h1 h2
  simp only [← hd, ← hr] at hrd
  have hrr := round_rate (baseOf s.rs s.l[k] * s.l[k].mul) want (Int.mul_nonneg vb1 (by omega)) h1
  rw [← hd, ← hr] at hrr
  have dbd := round_bd (baseOf s.rs s.l[k] * s.l[k].mul) want (Int.mul_nonneg vb1 (by omega)) h1
  rw [← hd] at dbd
  have hbas := fun w1 w2 (hn : ∃ Ac Ar cc cr, NetAt w1 B nb n Ac Ar Au Ah cc cr cu ch s') (hb : BookAt w1 B bb n (some ⟨gl, 0, none⟩) Bu cl bu s.l s.us) (hw : Below w1.heap.size w1 w2) =>
    (show Calls Try.prog 44 #[.pointer (some ⟨bb, 0, none⟩), .pointer (some ⟨nb, 0, none⟩), .int .i64 k] w2 fun e w' => e = .returned (.int .i64 (baseOf s.rs s.l[k])) ∧ w2 = w' from by
      obtain ⟨_, _, _, _, hn⟩ := hn
      rw [← hbs0]
      exact bbase2 (hn.below hw) (hb.below hw) h.inv.good hkl)
  have hmul : ∀ w2, BookAt w2 B bb n (some ⟨gl, 0, none⟩) Bu cl bu s.l s.us → w2.cell? ⟨gl, k * 7 + 2, none⟩ = some (.int .i64 s.l[k].mul) := fun w2 hb => by
    obtain ⟨b, off, e, _, _, _, g2, _⟩ := hb.vl.seg.clk hkl
    injection e with e
    injection e with e1 e2
    subst e1 e2
    rw [Nat.zero_add] at g2
    exact g2
  have hcu : ∀ w2, BookAt w2 B bb n (some ⟨gl, 0, none⟩) Bu cl bu s.l s.us → (∃ v, w2.cell? ⟨gl, k * 7 + 3, none⟩ = some v) ∧ w2.frozen? ⟨gl, k * 7 + 3, none⟩ = false := fun w2 hb => by
    obtain ⟨g, e, _, hrow⟩ := hb.row_l h0
    injection e with e
    injection e with e
    subst e
    have := hrow.cell (k := k * 7 + 3) (by rw [clkCells, flat_length _ 7 clk_len]; omega)
    rw [List.getElem?_eq_getElem (by rw [clkCells, flat_length _ 7 clk_len]; omega)] at this
    exact ⟨⟨_, this⟩, hrow.frozen (k * 7 + 3)⟩
  have HCU := Lib.hid hcu
  clear hcu
  obtain ⟨v, hv⟩ : ∃ v, v = baseOf s.rs s.l[k] := ⟨_, rfl⟩
  obtain ⟨M, hM⟩ : ∃ M, M = s.l[k].mul := ⟨_, rfl⟩
  rw [← hv, ← hM] at hrr
  rw [← hv] at vb1 vb2
  rw [← hM] at hm1 hm2
  simp only [← hM] at hmul
  simp only [← hv] at hbas
  obtain ⟨p1, p2, p3, p4⟩ := prod_bd vb1 vb2 hm1 hm2 dbd.1
  have ey1 : IntKind.i64.wrap (v * M) = v * M := IntWalk.i64_in _ (by omega)
  have e2 : IntKind.i64.wrap ((v * M).tdiv d) = r := by rw [hrr]; exact IntWalk.i64_quo _ _ (by omega)
  have e3 : ¬ d = 0 := by omega
  have f1 : (r != r) = false := by simp
  have f2 : decide (d < 1) = false := by simp; omega
  have f3 : decide (65535 < d) = false := by simp; omega
  have hrt : refTurns (onL s.l s.hs 0) (onL s'.l s'.hs 0) n = [] := by rw [ex5, e1, ← onL_same s.l (s.l.set k { s.l[k] with div := d }) s.hs (by simp)]; exact turns_same _ _
  have htold := fun (w3 : World) (h3 : ∃ Ac Ar cc cr, Kept w3 B nb n Ac Ar Au Ah cc cr cu ch bb (some ⟨gl, 0, none⟩) Bu cl bu s') (A4 : Option Addr) (c4 : Nat) (r1 : RowAt w3 (w.heap.size + 1) 2 (i64s s.rs)) (r2 : RowAt w3 (w.heap.size + 1 + 1) 4 (bools (onL s.l s.hs 0))) (s4 : Seg w3 w3.heap.size A4 (chgCells t)) =>
    (show Calls Try.prog 46 #[.pointer (some ⟨bb, 0, none⟩), .pointer (some ⟨nb, 0, none⟩), .slice (some ⟨w.heap.size + 1, 0, none⟩) n n, .slice (some ⟨w.heap.size + 1 + 1, 0, none⟩) n n, .slice A4 t.length c4, .slice none 0 0] w3 (fun e w' => e = .returned (.bool true) ∧ Below w3.heap.size w3 w') from by
      obtain ⟨_, _, _, _, h3⟩ := h3
      exact told_any h3 s.rs (onL s.l s.hs 0) h.net.lenr (by rw [onL_len]; exact h.net.len) _ _ A4 none n n c4 0 t.length 0 (by rw [← ex4]) (by rw [hrt]; rfl) (by omega) w3.heap.size (Nat.le_refl _) (r1.seg r1.lt) (r2.seg r2.lt) (by rw [← ex4]; exact s4) (by rw [hrt]; exact Seg.nil) ex6)
  have HT := Lib.hid htold
  have HW := Lib.hid hwas
  have HH := Lib.hid h
  have HP := Lib.hid hp
  have HS' := Lib.hid hs'
  have E1 := Lib.hid e1
  have E3 := Lib.hid ex3
  have HA := Lib.hid ap
  have HB0 := Lib.hid hb0
  have HRD := Lib.hid hrd
  have HBS := Lib.hid hbas
  have HMU := Lib.hid hmul
  have d0' := (hb0.cell (p := ⟨bb, 0, none⟩) hbbw).trans d0
  have hx := heap_alloc_new w (.cells #[.int .i64 2, .int .i64 k, .int .i64 F, .int .i64 want] 54)
  have q0 := cell_of_row _ w.heap.size 0 _ _ (0, 0) hx
  have q1 := cell_of_row _ w.heap.size 1 _ _ (0, 0) hx
  have q3 := cell_of_row _ w.heap.size 3 _ _ (0, 0) hx
  simp only [List.getElem?_toArray, List.getElem?_cons_succ, List.getElem?_cons_zero] at q0 q1 q3
  have hgbw := hrl0.lt
  have hBw : B ≤ w.heap.size := Nat.le_of_lt (Nat.lt_of_le_of_lt h.net.low h.net.lt)
  have hki : (k : Int) < (n : Int) := by omega
  clear htold hwas h hp ap hb0 d0 hx hs' e1 ex3 ex4 ex5 ex6 hbs0 hrt hrd hbas hmul hrr hd hr hv hM o vb1 vb2 hm1 hm2 p1 p2 p3 p4 h1 h2
  go_enter Try.func21, Try.ntmps21
  go_wp2_with (first
    | (go_at_call 45
       refine HW.out.mono ?_
       rintro e w1 ⟨rfl, r1, r2, hb1⟩
       have z0 := (hb1.cell (p := ⟨w.heap.size, 0, none⟩) (by show w.heap.size < w.heap.size + 1; omega)).trans q0
       have z1 := (hb1.cell (p := ⟨w.heap.size, 1, none⟩) (by show w.heap.size < w.heap.size + 1; omega)).trans q1
       have z3 := (hb1.cell (p := ⟨w.heap.size, 3, none⟩) (by show w.heap.size < w.heap.size + 1; omega)).trans q3
       have k0 := (hb1.cell (p := ⟨bb, 0, none⟩) (by show bb < w.heap.size + 1; omega)).trans d0'
       have hs1 : w.heap.size + 1 ≤ w1.heap.size := by have := hb1.size; rw [esz] at this; exact this
       have R1 := Lib.hid r1
       have R2 := Lib.hid r2
       have HB1 := Lib.hid hb1
       clear r1 r2 hb1))
  go_quiet (fail)
  have hbd : Below w.heap.size w (w1.drewN nq) := below_drewN (HB0.out.trans (HB1.out.mono (by omega))) _
  have HBD := Lib.hid hbd
  clear hbd
  go_wp2_with (first
    | (go_at_call 8
       refine (HRD.out _ HBD.out).mono ?_
       rintro e w2 ⟨rfl, hb2⟩
       have y1 := (hb2.cell (p := ⟨w.heap.size, 1, none⟩) (by show w.heap.size < w1.heap.size; omega)).trans z1
       have y3 := (hb2.cell (p := ⟨w.heap.size, 3, none⟩) (by show w.heap.size < w1.heap.size; omega)).trans z3
       have hbd2 := HBD.out.trans (hb2.mono HBD.out.size)
       have hs2 : w1.heap.size ≤ w2.heap.size := hb2.size
       have HBD2 := Lib.hid hbd2
       have R3 := Lib.hid (RowAt.below (w := w1.drewN nq) R1.out hb2)
       have R4 := Lib.hid (RowAt.below (w := w1.drewN nq) R2.out hb2)
       clear hb2 hbd2)
    | (go_at_call 29
       refine (HP.out _ HBD2.out).mono ?_
       rintro e w3 ⟨A, c, Ac', Ar', cc', cr', rfl, ho, hn2, hf⟩
       have hbe := behind HH.out HA.out HBD2.out hf
       have HN := Lib.hid hn2
       have HO := Lib.hid ho
       have HBK := Lib.hid hbe.book
       have x0 := hbe.book.c0
       have x2 := HMU.out _ hbe.book
       have x1 := (hbe.cell ⟨w.heap.size, 1, none⟩ (Nat.le_refl _) (by show w.heap.size < w2.heap.size; omega)).trans y1
       have hbs := fun w4 hw => HBS.out w3 w4 ⟨_, _, _, _, hn2⟩ hbe.book hw
       have hs3 := hbe.low.size
       obtain ⟨⟨x3, x4⟩, x5⟩ := HCU.out _ hbe.book
       have HBS2 := Lib.hid hbs
       have R5 := Lib.hid (hbe.row _ _ _ (by omega) R3.out)
       have R6 := Lib.hid (hbe.row _ _ _ (by omega) R4.out)
       have HLO := Lib.hid hbe.low
       clear hn2 hf hbe hbs ho))
  go_quiet ((go_at_call 44; exact Calls.quiet_of_same (turn_same (HBS2.out _ (below_drewN (Below.refl _ _) _)))))
  clear x2 ey1 e2 e3 f1 f2 f3 y1 y3 z1 z3
  go_wp2_with fail
  go_region
  have hd0 : Below w3.heap.size w3 (w3.drewN (nq + 1)) := below_drewN (Below.refl _ _) _
  have hnn := HN.out.below hd0
  have hkk := HBK.out.below hd0
  have ho5 : (w3.drewN (nq + 1)).ownsRow w2.heap.size 78 3 (.slice A t.length c) t.length (chgCells t) := HO.out
  have hr5 : RowAt (w3.drewN (nq + 1)) (w.heap.size + 1) 2 (i64s s.rs) := R5.out
  have hr6 : RowAt (w3.drewN (nq + 1)) (w.heap.size + 1 + 1) 4 (bools (onL s.l s.hs 0)) := R6.out
  have hlo := HLO.out.trans (hd0.mono (Nat.le_trans hBw hs3))
  have hs9 : w.heap.size ≤ (w3.drewN (nq + 1)).heap.size := hs3
  generalize w3.drewN (nq + 1) = w6 at *
  have hkp := storedL hnn hkk h0 HS'.out k hkl (k * 7 + 3) (.int .i64 d) _ (clk_set_cell (j := 3) hkl (by omega) rfl) E1.out E3.out
  have hf3 : Frame (fun j => j = gl) w6 (w6.setCell ⟨gl, k * 7 + 3, none⟩ (.int .i64 d)) := (Frame.refl (fun j => j = gl) _).setCell (p := ⟨gl, k * 7 + 3, none⟩) (fun _ => rfl) _
  have ho3 := own_frame ho5 hf3 (fun g hg hx => by have := (ho5.lt g hg).1; omega)
  have hr1 := hr5.frame hf3 (by omega)
  have hr2 := hr6.frame hf3 (by omega)
  have hlo2 := hlo.setCell (p := ⟨gl, k * 7 + 3, none⟩) hge (.int .i64 d)
  have hBs : B ≤ (w6.setCell ⟨gl, k * 7 + 3, none⟩ (.int .i64 d)).heap.size := by simp; omega
  generalize w6.setCell ⟨gl, k * 7 + 3, none⟩ (.int .i64 d) = w7 at *
  have htl := HT.out w7 ⟨_, _, _, _, hkp⟩ A c hr1 hr2 (own_seg ho3)
  have HTL := Lib.hid htl
  have HKP := Lib.hid hkp
  have HLO2 := Lib.hid hlo2
  clear htl hkp hf3 ho3 hr1 hr2 hlo hlo2 hd0 hnn hkk ho5 hr5 hr6
  go_wp2_with (first
    | (go_at_call 46
       refine HTL.out.mono ?_
       rintro e w4 ⟨rfl, hb4⟩
       have HB4 := Lib.hid hb4
       clear hb4)
    | (go_at_call 20
       refine (holds_any (HKP.out.below HB4.out)).mono ?_
       rintro e w5 ⟨rfl, hb5⟩
       have HB5 := Lib.hid hb5
       clear hb5))
  go_ret
  have hs4 := HB4.out.size
  exact ⟨rfl, ⟨_, _, _, _, _, (HKP.out.below HB4.out).below HB5.out⟩, (HLO2.out.trans (HB4.out.mono hBs)).trans (HB5.out.mono (Nat.le_trans hBs hs4))⟩
set_option maxRecDepth 100000 in
set_option maxHeartbeats 4000000 in
theorem hold2_bad (h : Kept w B nb n Ac Ar Au Ah cc cr cu ch bb Al Bu cl bu s) (ap : Apart n gu gh gb Au Ah Bu) (I F W : Int) (hi : I < 0 ∨ n ≤ I ∨ W < 0 ∨ 1099511627776 < W) :
    Calls Try.prog 21 #[.pointer (some ⟨bb, 0, none⟩), .pointer (some ⟨nb, 0, none⟩), .agg #[.int .i64 2, .int .i64 I, .int .i64 F, .int .i64 W]] w (HeldTo B nb n Au Ah cu ch bb Al Bu cl bu w) := by
  have hn5 := h.n5
  have hb0 : Below w.heap.size w (w.alloc (.cells #[.int .i64 2, .int .i64 I, .int .i64 F, .int .i64 W] 54)) := (Below.refl _ _).alloc (Nat.le_refl _) _
  have esz : (w.alloc (.cells #[.int .i64 2, .int .i64 I, .int .i64 F, .int .i64 W] 54)).heap.size = w.heap.size + 1 := by simp
  have hwas := was_any (h.net.below hb0) hn5
  rw [esz] at hwas
  have d0 := h.book.c0
  have hbbw := h.book.lt
  have hp2 := fun w1 (hb : Below w.heap.size w w1) => pround_no (h.net.below hb) I W hi
  have hp3 := fun w1 (hb : Below w.heap.size w w1) => pset_no (h.net.below hb) I W hi
  have htold := fun (w3 : World) (h3 : ∃ Ac Ar cc cr, Kept w3 B nb n Ac Ar Au Ah cc cr cu ch bb Al Bu cl bu s) (A5 : Option Addr) (c5 : Nat) (r1 : RowAt w3 (w.heap.size + 1) 2 (i64s s.rs)) (r2 : RowAt w3 (w.heap.size + 1 + 1) 4 (bools (onL s.l s.hs 0))) =>
    (show Calls Try.prog 46 #[.pointer (some ⟨bb, 0, none⟩), .pointer (some ⟨nb, 0, none⟩), .slice (some ⟨w.heap.size + 1, 0, none⟩) n n, .slice (some ⟨w.heap.size + 1 + 1, 0, none⟩) n n, .slice none 0 0, .slice A5 0 c5] w3 (fun e w' => e = .returned (.bool true) ∧ Below w3.heap.size w3 w') from by
      obtain ⟨_, _, _, _, h3⟩ := h3
      exact told_any h3 s.rs (onL s.l s.hs 0) h.net.lenr (by rw [onL_len]; exact h.net.len) _ _ none A5 n n 0 c5 0 0 (by rw [chg_none]; rfl) (by rw [turns_same]; rfl) (by omega) w3.heap.size (Nat.le_refl _) (r1.seg r1.lt) (r2.seg r2.lt) (by rw [chg_none]; exact Seg.nil) (by rw [turns_same]; exact Seg.nil) (fun j _ hne => absurd rfl hne))
  have HT := Lib.hid htold
  have HW := Lib.hid hwas
  have HH := Lib.hid h
  have HP := Lib.hid hp2
  have HP3 := Lib.hid hp3
  have HA := Lib.hid ap
  have HB0 := Lib.hid hb0
  have d0' := (hb0.cell (p := ⟨bb, 0, none⟩) hbbw).trans d0
  have hx := heap_alloc_new w (.cells #[.int .i64 2, .int .i64 I, .int .i64 F, .int .i64 W] 54)
  have q0 := cell_of_row _ w.heap.size 0 _ _ (0, 0) hx
  have q1 := cell_of_row _ w.heap.size 1 _ _ (0, 0) hx
  have q3 := cell_of_row _ w.heap.size 3 _ _ (0, 0) hx
  simp only [List.getElem?_toArray, List.getElem?_cons_succ, List.getElem?_cons_zero] at q0 q1 q3
  have hBw : B ≤ w.heap.size := Nat.le_of_lt (Nat.lt_of_le_of_lt h.net.low h.net.lt)
  clear htold hwas h hp2 hp3 ap hb0 d0 hx hi
  rcases (show decide (0 ≤ I) = false ∨ (decide (0 ≤ I) = true ∧ I < (n : Int)) ∨ (decide (0 ≤ I) = true ∧ decide (I < (n : Int)) = false) by simp only [decide_eq_false_iff_not, decide_eq_true_eq]; omega) with hI | ⟨hI, hI2⟩ | ⟨hI, hI2⟩
  all_goals
    go_enter Try.func21, Try.ntmps21
    go_wp2_with (first
      | (go_at_call 45
         refine HW.out.mono ?_
         rintro e w1 ⟨rfl, r1, r2, hb1⟩
         have z0 := (hb1.cell (p := ⟨w.heap.size, 0, none⟩) (by show w.heap.size < w.heap.size + 1; omega)).trans q0
         have z1 := (hb1.cell (p := ⟨w.heap.size, 1, none⟩) (by show w.heap.size < w.heap.size + 1; omega)).trans q1
         have z3 := (hb1.cell (p := ⟨w.heap.size, 3, none⟩) (by show w.heap.size < w.heap.size + 1; omega)).trans q3
         have hs1 : w.heap.size + 1 ≤ w1.heap.size := by have := hb1.size; rw [esz] at this; exact this
         have k0 := (hb1.cell (p := ⟨bb, 0, none⟩) (by show bb < w.heap.size + 1; omega)).trans d0'
         have R1 := Lib.hid r1
         have R2 := Lib.hid r2
         have HB1 := Lib.hid hb1
         clear r1 r2 hb1))
    go_quiet (fail)
    have hbd : Below w.heap.size w (w1.drewN nq) := below_drewN (HB0.out.trans (HB1.out.mono (by omega))) _
    have HBD := Lib.hid hbd
    clear hbd
    go_wp2_with (first
      | (go_at_call 8
         refine (HP.out _ HBD.out).mono ?_
         rintro e w2 ⟨rfl, hb2⟩
         have y1 := (hb2.cell (p := ⟨w.heap.size, 1, none⟩) (by show w.heap.size < w1.heap.size; omega)).trans z1
         have y3 := (hb2.cell (p := ⟨w.heap.size, 3, none⟩) (by show w.heap.size < w1.heap.size; omega)).trans z3
         have hbd2 := HBD.out.trans (hb2.mono HBD.out.size)
         have HBD2 := Lib.hid hbd2
         have R3 := Lib.hid (RowAt.below (w := w1.drewN nq) R1.out hb2)
         have R4 := Lib.hid (RowAt.below (w := w1.drewN nq) R2.out hb2)
         clear hb2 hbd2)
      | (go_at_call 29
         refine (HP3.out _ HBD2.out).mono ?_
         rintro e w3 ⟨rfl, hb3⟩
         have hbd3 := HBD2.out.trans (hb3.mono HBD2.out.size)
         have hkp := HH.out.below hbd3
         have hs3 := hbd3.size
         have R5 := Lib.hid (R3.out.below hb3)
         have R6 := Lib.hid (R4.out.below hb3)
         have HKP := Lib.hid hkp
         have HLO := Lib.hid (hbd3.mono hBw)
         clear hkp hb3 hbd3))
    go_quiet (fail)
    have hd : Below w3.heap.size w3 (w3.drewN nq) := below_drewN (Below.refl _ _) _
    have hkp2 := HKP.out.below hd
    have htl := HT.out (w3.drewN nq) ⟨_, _, _, _, hkp2⟩ none 0 R5.out R6.out
    have HTL := Lib.hid htl
    have HKP2 := Lib.hid hkp2
    have HLO2 := Lib.hid (HLO.out.trans (hd.mono (Nat.le_trans hBw hs3)))
    clear hd hkp2 htl y1 y3 z1 z3
    go_wp2_with (first
      | (go_at_call 46
         refine HTL.out.mono ?_
         rintro e w4 ⟨rfl, hb4⟩
         have HB4 := Lib.hid hb4
         clear hb4)
      | (go_at_call 20
         refine (holds_any (HKP2.out.below HB4.out)).mono ?_
         rintro e w5 ⟨rfl, hb5⟩
         have HB5 := Lib.hid hb5
         clear hb5))
    go_ret
    have hs4 := HB4.out.size
    exact ⟨rfl, ⟨_, _, _, _, _, (HKP2.out.below HB4.out).below HB5.out⟩, (HLO2.out.trans (HB4.out.mono (Nat.le_trans hBw hs3))).trans (HB5.out.mono (Nat.le_trans (Nat.le_trans hBw hs3) hs4))⟩
theorem base_same (h : Inv s) (h' : Inv s') {k : Nat} (hk : k < s.l.length) (d : Int) (e : s'.l = s.l.set k { s.l[k] with div := d }) : baseOf s'.rs s.l[k] = baseOf s.rs s.l[k] := by
  have hk' : k < s'.l.length := by rw [e, List.length_set]; exact hk
  have h1 := h'.base hk'
  have h2 := h.base hk
  have e2 : s'.l[k] = { s.l[k] with div := d } := by simp [e]
  have e3 : s'.l.take k = s.l.take k := by rw [e, List.take_set_of_le (Nat.le_refl k)]
  rw [e2, e3] at h1
  rw [h2]
  exact h1
theorem held_any (h : Kept w B nb n Ac Ar Au Ah cc cr cu ch bb Al Bu cl bu s) (ap : Apart n gu gh gb Au Ah Bu) (K I F W : Int) :
    Calls Try.prog 21 #[.pointer (some ⟨bb, 0, none⟩), .pointer (some ⟨nb, 0, none⟩), .agg #[.int .i64 K, .int .i64 I, .int .i64 F, .int .i64 W]] w (HeldTo B nb n Au Ah cu ch bb Al Bu cl bu w) := by
  by_cases k0 : K = 0
  · subst k0
    obtain ⟨t, z, s', hl, hs', hp, hc⟩ := act_get h ap I
    rcases hc with ⟨hz, rfl, rfl⟩ | ⟨rfl, k, rfl, hk, e1, e2, e3, e4, e5⟩
    · exact hold0_no h ap I F W z hz hp
    · exact hold0_ok h ap F W k hk t s' hl hs' hp e1 e2 e3 e4 e5
  by_cases k1 : K = 1
  · subst k1
    obtain ⟨t, z, s', hl, hs', hp, hc⟩ := act_put h ap I
    rcases hc with ⟨hz, rfl, rfl⟩ | ⟨rfl, k, rfl, hk, e1, e2, e3, e4, e5⟩
    · exact hold1_no h ap I F W z hz hp
    · exact hold1_ok h ap F W k hk t s' hl hs' hp e1 e2 e3 e4 e5
  by_cases k2 : K = 2
  · subst k2
    by_cases hi : I < 0 ∨ n ≤ I ∨ W < 0 ∨ 1099511627776 < W
    · exact hold2_bad h ap I F W hi
    · obtain ⟨k, rfl⟩ := Int.eq_ofNat_of_zero_le (show 0 ≤ I by omega)
      have hk : k < n := by omega
      have hkl : k < s.l.length := by rw [← h.net.len]; exact hk
      obtain ⟨d, hd⟩ : ∃ d, d = (roundOf (baseOf s.rs s.l[k] * s.l[k].mul) W).1 := ⟨_, rfl⟩
      obtain ⟨t, z, s', hl, hs', hp, hc⟩ := act_set (gu := gu) (gh := gh) h k W hi k rfl hkl d hd
      rcases hc with ⟨hz, rfl, rfl⟩ | ⟨rfl, e1, e3, e5, e4, e6⟩
      · exact hold2_no h ap F W z d _ hz k hk hkl (by omega) (by omega) hd rfl hp
      · exact hold2_ok h ap F W d _ k hk hkl (by omega) (by omega) hd rfl t s' hp hs' e1 e3 e4 e5 e6 (base_same h.inv hs'.inv hkl d e1)
  by_cases k3 : K = 3
  · subst k3
    obtain ⟨t, t2, z, s', hl, hl2, hs', hp, hc⟩ := act_move h ap I F
    rcases hc with ⟨hz, rfl, rfl, rfl⟩ | ⟨rfl, k, f, hkl, rfl, rfl, hk, e1, e3, e4, e5, e6⟩
    · exact hold3_no h ap I F W z hz hp
    · exact hold3_ok h ap W k f hk hkl t t2 s' hl2 hs' hp e1 e3 e4 e5 e6
  exact hold4_any h ap K I F W (by simpa using k0) (by simpa using k1) (by simpa using k2) (by simpa using k3)
end
end Go.Proofs.Ytbahclnpgdejlaa
