/- The statement's book in memory; base, was and holds: the contracts. -/
import Derived.Test.YtbahclnpgdejlaaLooks
import Derived.Test.YtbahclnpgdejlaaMoveLaw
set_option linter.unusedVariables false
namespace Go.Proofs.Ytbahclnpgdejlaa
open Go.RowKit
/-- The statement's own book in memory. -/
structure BookAt (w : World) (B bb n : Nat) (Al Au : Option Addr) (cl cu : Nat) (l : List Clk) (us : List Int) : Prop where
  low : B ≤ bb
  len : n = l.length
  lenu : n = us.length
  box : w.heap[bb]? = some (.cells #[.slice Al n cl, .slice Au n cu] 59 (0, 0))
  vl : Vec w B Al 81 (clkCells l)
  vu : Vec w B Au 3 (i64s us)
section
variable {w w' : World} {B bb n : Nat} {Al Au : Option Addr} {cl cu : Nat} {l : List Clk} {us : List Int}
theorem BookAt.c0 (h : BookAt w B bb n Al Au cl cu l us) : w.cell? ⟨bb, 0, none⟩ = some (.slice Al n cl) := cell_of_row w bb 0 _ _ (0, 0) h.box
theorem BookAt.c1 (h : BookAt w B bb n Al Au cl cu l us) : w.cell? ⟨bb, 1, none⟩ = some (.slice Au n cu) := cell_of_row w bb 1 _ _ (0, 0) h.box
theorem BookAt.lt (h : BookAt w B bb n Al Au cl cu l us) : bb < w.heap.size := lt_of_heap h.box
theorem BookAt.below (h : BookAt w B bb n Al Au cl cu l us) (hb : Below w.heap.size w w') : BookAt w' B bb n Al Au cl cu l us :=
  ⟨h.low, h.len, h.lenu, (hb.block bb h.lt).trans h.box, h.vl.below hb, h.vu.below hb⟩
theorem BookAt.row_u (h : BookAt w B bb n Al Au cl cu l us) (hn : 0 < n) : ∃ gu, Au = some ⟨gu, 0, none⟩ ∧ B ≤ gu ∧ RowAt w gu 3 (i64s us) :=
  h.vu (by intro e; have := congrArg List.length e; simp [i64s] at this; have := h.lenu; rw [‹us = []›] at this; simp at this; omega)
theorem BookAt.row_l (h : BookAt w B bb n Al Au cl cu l us) (hn : 0 < n) : ∃ gl, Al = some ⟨gl, 0, none⟩ ∧ B ≤ gl ∧ RowAt w gl 81 (clkCells l) :=
  h.vl (by intro e; have := congrArg List.length e; rw [clkCells, flat_length _ 7 clk_len] at this; have := h.len; simp at *; omega)
end
theorem bbase_any {w : World} {B nb n : Nat} {Ac Ar Au Ah : Option Addr} {cc cr cu ch bb : Nat} {Al Bu : Option Addr} {cl bu : Nat} {s : St} (h : NetAt w B nb n Ac Ar Au Ah cc cr cu ch s) (hk : BookAt w B bb n Al Bu cl bu s.l s.us) (hg : Good s.l) {k : Nat} (hkl : k < s.l.length) :
    Calls Try.prog 44 #[.pointer (some ⟨bb, 0, none⟩), .pointer (some ⟨nb, 0, none⟩), .int .i64 k] w fun e w' => e = .returned (.int .i64 (baseOf s.rs s.l[k])) ∧ w = w' := by
  have hlen := h.len
  have d0 := hk.c0
  have hki : (k : Int) < (n : Int) := by omega
  obtain ⟨b, off, rfl, hbb, g0, g1, _⟩ := hk.vl.seg.clk hkl
  have o := hg.at_ hkl
  rcases o.src with ⟨h1, _, _⟩ | ⟨h1, h2, _⟩
  · have e : baseOf s.rs s.l[k] = s.l[k].rate := by unfold baseOf; rw [if_pos (by omega)]
    have hF : s.l[k].frm < 0 := by omega
    rw [e]
    generalize s.l[k].frm = F at *
    generalize s.l[k].rate = R at *
    clear h hk o h1 e
    go_enter Try.func44, Try.ntmps44
    go_wp2
    go_ret
    exact ⟨rfl, rfl⟩
  · have e : baseOf s.rs s.l[k] = s.rs.getD s.l[k].frm.toNat 0 := by unfold baseOf; rw [if_neg (by omega)]
    obtain ⟨f, hf⟩ := Int.eq_ofNat_of_zero_le h1
    rw [e, hf, Int.toNat_natCast]
    rw [hf] at g0
    have hr := rate_ok h.c0 h.c1 h.vr.seg (k := f) (by omega) h.lenr
    generalize s.rs.getD f 0 = r at *
    have HR := Lib.hid hr
    clear h hk o h1 h2 e hf hr
    go_enter Try.func44, Try.ntmps44
    go_wp2_with (go_at_call 28; refine HR.out.mono ?_; rintro e w' ⟨rfl, rfl⟩)
    go_ret
    exact ⟨rfl, rfl⟩
theorem make_rates (n : Nat) (hl : n ≤ 2513169434843) (w : World) : (Instr.makeSlice 63 (.int .i64 (n : Int)) (.int .i64 (n : Int))).run Try.prog w =
    .ok (.slice (some ⟨w.heap.size, 0, none⟩) n n) (w.alloc (.cells (madeCells #[.int .i64 0] n) 2)) := by
  obtain ⟨i0, hi, hz0, hz1, hz2⟩ := info_parts Try.info2
  have := run_make (P := Try.prog) w 63 2 i0 (.int .i64 0) Try.underlying63 hi hz0 .i64 .i64 n n (by omega) (Int.le_refl _) (by rw [hz2]; omega) (by omega)
  simp only [Int.toNat_natCast, hz1, Nat.mul_one] at this
  exact this
theorem zeros_row2 (n g : Nat) (w : World) (h : g = w.heap.size) : RowAt (w.alloc (.cells (madeCells #[.int .i64 0] n) 2)) g 2 (i64s (zeros n)) := by
  subst h
  refine ⟨_, heap_alloc_new w _, ?_⟩
  rw [toList_madeCells_one]
  simp [i64s, zeros]
theorem set_front {α : Type} (a : List α) (z v : α) (n k : Nat) (h : k < a.length) (hn : n = a.length) (hv : a[k]? = some v) : (a.take k ++ List.replicate (n - k) z).set k v = a.take (k + 1) ++ List.replicate (n - (k + 1)) z := by
  obtain ⟨m, hm⟩ : ∃ m, n - k = m + 1 := ⟨n - k - 1, by omega⟩
  rw [hm, show n - (k + 1) = m from by omega, List.replicate_succ, List.set_append_right _ _ (by simp; omega), List.take_succ_eq_append_getElem h]
  have : a[k] = v := by rw [List.getElem?_eq_getElem h] at hv; injection hv
  simp [List.length_take, Nat.min_eq_left (Nat.le_of_lt h), this]
set_option maxRecDepth 100000 in
set_option maxHeartbeats 4000000 in
theorem was_any {w : World} {B nb n : Nat} {Ac Ar Au Ah : Option Addr} {cc cr cu ch : Nat} {s : St} (h : NetAt w B nb n Ac Ar Au Ah cc cr cu ch s) (hn5 : n ≤ 512) :
    Calls Try.prog 45 #[.pointer (some ⟨nb, 0, none⟩), .int .i64 n] w fun e w' => e = .returned (.tuple #[.slice (some ⟨w.heap.size, 0, none⟩) n n, .slice (some ⟨w.heap.size + 1, 0, none⟩) n n]) ∧
      RowAt w' w.heap.size 2 (i64s s.rs) ∧ RowAt w' (w.heap.size + 1) 4 (bools (onL s.l s.hs 0)) ∧ Below w.heap.size w w' := by
  have hm1 := make_rates n (by omega)
  have hm2 := make_bools n (by omega)
  have hlen := h.len
  have hlenr := h.lenr
  have hol := onL_len s.l s.hs 0
  have r1 : RowAt ((w.alloc (.cells (madeCells #[.int .i64 0] n) 2)).alloc (.cells (madeCells #[.bool false] n) 4)) w.heap.size 2 (i64s (s.rs.take 0 ++ List.replicate (n - 0) 0)) := (zeros_row2 n _ w rfl).alloc _
  have r2 : RowAt ((w.alloc (.cells (madeCells #[.int .i64 0] n) 2)).alloc (.cells (madeCells #[.bool false] n) 4)) (w.heap.size + 1) 4 (bools ((onL s.l s.hs 0).take 0 ++ List.replicate (n - 0) false)) := falses_row n _ _ (by simp)
  have hb0 : Below w.heap.size w ((w.alloc (.cells (madeCells #[.int .i64 0] n) 2)).alloc (.cells (madeCells #[.bool false] n) 4)) := ((Below.refl _ _).alloc (Nat.le_refl _) _).alloc (by simp) _
  have HH := Lib.hid h
  have HL := Lib.hid hlen
  have HLR := Lib.hid hlenr
  have HOL := Lib.hid hol
  have R1 := Lib.hid r1
  have R2 := Lib.hid r2
  have HB0 := Lib.hid hb0
  clear h hlen hlenr hol r1 r2 hb0
  go_enter Try.func45, Try.ntmps45
  go_wp2
  go_loopw [8] (fun i wr => ∃ k : Nat, k ≤ n ∧ i = .int .i64 k ∧ RowAt wr w.heap.size 2 (i64s (s.rs.take k ++ List.replicate (n - k) 0)) ∧ RowAt wr (w.heap.size + 1) 4 (bools ((onL s.l s.hs 0).take k ++ List.replicate (n - k) false)) ∧ Below w.heap.size w wr) (fun i _ => n - (intOf i).toNat)
  case atStart => exact ⟨0, by omega, rfl, R1.out, R2.out, HB0.out⟩
  case round =>
    obtain ⟨k, hk, rfl, q1, q2, hb⟩ := hrel
    have Q1 := Lib.hid q1
    have Q2 := Lib.hid q2
    have HB := Lib.hid hb
    clear q1 q2 hb
    by_cases hlt : k < n
    · have hki : (k : Int) < (n : Int) := by omega
      have hnet := HH.out.below HB.out
      have hrt := rate_ok hnet.c0 hnet.c1 hnet.vr.seg hlt hnet.lenr
      have hon := fun w3 (hw : Below wr.heap.size wr w3) => on_ok (hnet.below hw) hlt
      have hsz := Q2.out.lt
      obtain ⟨x, hx⟩ : ∃ x, wr.cell? ⟨w.heap.size, k, none⟩ = some x := by
        rw [Q1.out.cell (by simp [i64s_len, ← HLR.out]; omega), List.getElem?_eq_getElem (by simp [i64s_len, ← HLR.out]; omega)]; exact ⟨_, rfl⟩
      obtain ⟨y, hy⟩ : ∃ y, wr.cell? ⟨w.heap.size + 1, k, none⟩ = some y := by
        rw [Q2.out.cell (by simp [bools_len, HOL.out, ← HL.out]; omega), List.getElem?_eq_getElem (by simp [bools_len, HOL.out, ← HL.out]; omega)]; exact ⟨_, rfl⟩
      have f1 := Q1.out.frozen k
      have f2 := Q2.out.frozen k
      have s1 := Q1.out.store k (.int .i64 (s.rs.getD k 0))
      rw [i64s_set, set_front s.rs 0 (s.rs.getD k 0) n k (by rw [← HLR.out]; exact hlt) HLR.out (by simp [List.getD, show k < s.rs.length by rw [← HLR.out]; exact hlt])] at s1
      have s2 := fun v => (Q2.out.keep (Below.heap_setCell wr ⟨w.heap.size, k, none⟩ v _ (by show w.heap.size + 1 ≠ w.heap.size; omega))).store k (.bool (decide (0 < s.hs.getD k 0)))
      have hog : (onL s.l s.hs 0)[k]? = some (decide (0 < s.hs.getD k 0)) := by rw [onL_get _ _ _ _ (by rw [← HL.out]; exact hlt)]; simp [onB]
      simp only [bools_set, set_front (onL s.l s.hs 0) false (decide (0 < s.hs.getD k 0)) n k (by rw [HOL.out, ← HL.out]; exact hlt) (by rw [HOL.out]; exact HL.out) hog] at s2
      have s1' := fun v => (s1.keep (Below.heap_setCell (wr.setCell ⟨w.heap.size, k, none⟩ (.int .i64 (s.rs.getD k 0))) ⟨w.heap.size + 1, k, none⟩ v _ (by show w.heap.size ≠ w.heap.size + 1; omega)))
      have hb2 := fun u v => (HB.out.setCell (p := ⟨w.heap.size, k, none⟩) (Nat.le_refl _) u).setCell (p := ⟨w.heap.size + 1, k, none⟩) (by show w.heap.size ≤ w.heap.size + 1; omega) v
      have hon2 := fun u => on_ok (B := B) (s := s) (h := HH.out.below (HB.out.setCell (p := ⟨w.heap.size, k, none⟩) (Nat.le_refl _) u)) hlt
      generalize s.rs.getD k 0 = r at *
      generalize decide (0 < s.hs.getD k 0) = b at *
      have HRT := Lib.hid hrt
      have HON := Lib.hid hon2
      have S1 := Lib.hid s1'
      have S2 := Lib.hid s2
      have HB2 := Lib.hid hb2
      clear hrt hon hon2 s1 s1' s2 hb2 hog hnet
      go_wp2_with (first
        | (go_at_call 28; refine HRT.out.mono ?_; rintro e w' ⟨rfl, rfl⟩)
        | (go_at_call 13; refine (HON.out _).mono ?_; rintro e w' ⟨rfl, rfl⟩))
      go_roundw
      case rel => exact ⟨k + 1, by omega, by go_num, S1.out _, S2.out _, HB2.out _ _⟩
      case measure => simp [intOf]; omega
    · obtain rfl : k = n := by omega
      go_wp2
      go_ret2
      have e1 : s.rs.take k = s.rs := List.take_of_length_le (by rw [← HLR.out]; exact Nat.le_refl _)
      have e2 : (onL s.l s.hs 0).take k = onL s.l s.hs 0 := List.take_of_length_le (by rw [HOL.out, ← HL.out]; exact Nat.le_refl _)
      have a1 := Q1.out
      have a2 := Q2.out
      rw [e1, Nat.sub_self, List.replicate_zero, List.append_nil] at a1
      rw [e2, Nat.sub_self, List.replicate_zero, List.append_nil] at a2
      exact ⟨rfl, a1, a2, HB.out⟩
end Go.Proofs.Ytbahclnpgdejlaa

set_option linter.unusedVariables false
namespace Go.Proofs.Ytbahclnpgdejlaa
open Go.RowKit
/-- A net and the book of it. -/
structure Kept (w : World) (B nb n : Nat) (Ac Ar Au Ah : Option Addr) (cc cr cu ch bb : Nat) (Al Bu : Option Addr) (cl bu : Nat) (s : St) : Prop where
  net : NetAt w B nb n Ac Ar Au Ah cc cr cu ch s
  book : BookAt w B bb n Al Bu cl bu s.l s.us
  inv : Inv s
  bal : Bal s.l (fun j => s.us.getD j 0) s.hs
  pos : ∀ j, 0 ≤ s.hs.getD j 0
  us0 : ∀ j, 0 ≤ s.us.getD j 0
  us1 : ∀ j, s.us.getD j 0 ≤ 65535
section
variable {w w' : World} {B nb n : Nat} {Ac Ar Au Ah : Option Addr} {cc cr cu ch bb : Nat} {Al Bu : Option Addr} {cl bu : Nat} {s : St}
theorem Kept.below (h : Kept w B nb n Ac Ar Au Ah cc cr cu ch bb Al Bu cl bu s) (hb : Below w.heap.size w w') : Kept w' B nb n Ac Ar Au Ah cc cr cu ch bb Al Bu cl bu s :=
  ⟨h.net.below hb, h.book.below hb, h.inv, h.bal, h.pos, h.us0, h.us1⟩
theorem Kept.n5 (h : Kept w B nb n Ac Ar Au Ah cc cr cu ch bb Al Bu cl bu s) : n ≤ 512 := by rw [h.net.len]; exact (mayB_iff.1 h.inv.may).1
theorem kids_step (l : List Clk) (hs : List Int) (i j : Nat) (F : Int) (b : Bool) (hF : frmAt l j = F) (hb : decide (0 < hs.getD j 0) = b) (o : Bool) :
    (o || decide (0 < kids l hs i (j + 1))) = ((o || decide (0 < kids l hs i j)) || (F == (i : Int) && b)) := by
  have h1 := kids_nonneg l hs i j
  have e : kids l hs i (j + 1) = kids l hs i j + (if frmAt l j = (i : Int) then onI (hs.getD j 0) else 0) := rfl
  rw [e, hF]
  have hk : decide (0 < kids l hs i j + (if F = (i : Int) then onI (hs.getD j 0) else 0)) = (decide (0 < kids l hs i j) || (F == (i : Int) && b)) := by
    by_cases c : F = (i : Int)
    · rw [if_pos c, show (F == (i : Int)) = true from by simp [c], Bool.true_and, ← hb]
      by_cases p : 0 < hs.getD j 0
      · rw [onI_pos p, decide_eq_true p, decide_eq_true (by omega)]; simp
      · rw [onI_neg p, decide_eq_false p, Int.add_zero]; simp
    · rw [if_neg c, show (F == (i : Int)) = false from by simp [c], Int.add_zero]; simp
  rw [hk, Bool.or_assoc]
theorem dec_sum (u q : Int) (h1 : 0 ≤ u) (h2 : 0 ≤ q) : decide (0 < u + q) = (decide (0 < u) || decide (0 < q)) := by
  rw [Bool.eq_iff_iff]
  simp only [Bool.or_eq_true, decide_eq_true_eq]
  omega
set_option maxRecDepth 100000 in
set_option maxHeartbeats 4000000 in
theorem holds_any (h : Kept w B nb n Ac Ar Au Ah cc cr cu ch bb Al Bu cl bu s) :
    Calls Try.prog 20 #[.pointer (some ⟨bb, 0, none⟩), .pointer (some ⟨nb, 0, none⟩)] w fun e w' => e = .returned (.bool true) ∧ Below w.heap.size w w' := by
  have hn5 := h.n5
  have hlen := h.net.len
  have HH := Lib.hid h
  have HL := Lib.hid hlen
  clear h hlen
  go_enter Try.func20, Try.ntmps20
  go_wp2
  go_loopw [5] (fun i wr => ∃ k : Nat, k ≤ n ∧ i = .int .i64 k ∧ Below w.heap.size w wr) (fun i _ => n - (intOf i).toNat)
  case atStart => exact ⟨0, by omega, rfl, Below.refl _ _⟩
  case round =>
    obtain ⟨k, hk, rfl, hb⟩ := hrel
    have HB := Lib.hid hb
    have hkept := HH.out.below hb
    have d0 := hkept.book.c0
    have d1 := hkept.book.c1
    have hbb := hkept.book.lt
    clear hb
    by_cases hlt : k < n
    · have hki : (k : Int) < (n : Int) := by omega
      have hkl : k < s.l.length := by rw [← HL.out]; exact hlt
      obtain ⟨gl, rfl, _, hrl⟩ := hkept.book.row_l (by omega)
      obtain ⟨gu, rfl, _, hru⟩ := hkept.book.row_u (by omega)
      have hgl := hrl.lt
      have hgu := hru.lt
      obtain ⟨b, off, e, _, g0, g1, g2, g3, g4, g5, g6⟩ := hkept.book.vl.seg.clk hkl
      injection e with e
      injection e with e1 e2
      subst e1 e2
      simp only [Nat.zero_add] at g0 g1 g2 g3 g4 g5 g6
      have hcu := hru.cell (k := k) (by rw [i64s_len, ← hkept.book.lenu]; exact hlt)
      rw [i64s_get _ _ (by rw [← hkept.book.lenu]; exact hlt)] at hcu
      have o := hkept.inv.good.at_ hkl
      obtain ⟨vb1, vb2⟩ := hkept.inv.base_bd hkl
      have hrat : s.rs.getD k 0 = baseOf s.rs s.l[k] * s.l[k].mul / s.l[k].div := by
        rw [hkept.inv.base hkl]
        conv => lhs; rw [hkept.inv.rates]
        exact ratesOf_at s.l k hkl
      have hfit := hkept.inv.fit k hkl
      rw [fitsAt_get s.l k hkl, ← hkept.inv.rates] at hfit
      simp only [Bool.and_eq_true, Bool.not_eq_true', decide_eq_false_iff_not] at hfit
      obtain ⟨fl, fh⟩ := hfit
      have hbal := hkept.bal k hkl
      have hun := hkept.us0 k
      have hkn := kids_nonneg s.l s.hs k s.l.length
      have hrate2 := fun W (hW : Below w.heap.size w W) => rate_ok (HH.out.below hW).net.c0 (HH.out.below hW).net.c1 (HH.out.below hW).net.vr.seg hlt (HH.out.below hW).net.lenr
      have hbase := fun W (hW : Below w.heap.size w W) => bbase_any (HH.out.below hW).net (HH.out.below hW).book (HH.out.below hW).inv.good hkl
      have husr := fun W (hW : Below w.heap.size w W) => users_ok (HH.out.below hW).net hlt
      have hon := fun W (hW : Below w.heap.size w W) (j : Nat) (hj : j < n) => on_ok (HH.out.below hW).net hj
      have hfin : decide (0 < s.hs.getD k 0) = (decide (0 < s.us.getD k 0) || decide (0 < kids s.l s.hs k n)) := by
        rw [hbal, HL.out]
        exact dec_sum _ _ hun hkn.1
      have hstart : kids s.l s.hs k (k + 1) = 0 := kids_none hkept.inv.good s.hs k (k + 1) (by omega) (by omega)
      have hfrm : ∀ j, j < n → ∃ F, frmAt s.l j = F ∧ wr.cell? ⟨gl, j * 7, none⟩ = some (.int .i64 F) := fun j hj => by
        have hjl : j < s.l.length := by rw [← HL.out]; exact hj
        have := hrl.cell (k := j * 7) (by rw [clkCells, flat_length _ 7 clk_len]; omega)
        rw [clkCells, show j * 7 = j * 7 + 0 from rfl, flat_get _ 7 clk_len s.l j 0 hjl (by omega), show (Clk.cells s.l[j])[0]? = some (.int .i64 s.l[j].frm) from rfl, Nat.add_zero] at this
        exact ⟨s.l[j].frm, by simp [frmAt, hjl], this⟩
      obtain ⟨r, hr⟩ : ∃ r, r = s.rs.getD k 0 := ⟨_, rfl⟩
      obtain ⟨u, hu⟩ : ∃ u, u = s.us.getD k 0 := ⟨_, rfl⟩
      obtain ⟨v, hv⟩ : ∃ v, v = baseOf s.rs s.l[k] := ⟨_, rfl⟩
      rw [← hr] at hrat fl fh
      simp only [← hr] at hrate2
      rw [← hu] at hcu hun hfin
      simp only [← hu] at husr
      rw [← hv] at hrat vb1 vb2
      simp only [← hv] at hbase
      have hm1 := o.m1
      have hm2 := o.m2
      have hd1 := o.d1
      obtain ⟨⟨F, R, M, D, L, H, st⟩, hc⟩ : ∃ c : Clk, c = s.l[k] := ⟨_, rfl⟩
      rw [← hc] at g0 g1 g2 g3 g4 g5 g6 fl fh hrat hm1 hm2 hd1
      simp only at g0 g1 g2 g3 g4 g5 g6 fl fh hrat hm1 hm2 hd1
      obtain ⟨p1, p2, p3, p4⟩ := prod_bd vb1 vb2 hm1 hm2 hd1
      have e1 : IntKind.i64.wrap (v * M) = v * M := IntWalk.i64_in _ (by omega)
      have e2 : IntKind.i64.wrap ((v * M).tdiv D) = r := by rw [hrat]; exact IntWalk.i64_quo _ _ (by omega)
      have e3 : ¬ D = 0 := by omega
      have f1 : (r != r) = false := by simp
      have f2 : (u != u) = false := by simp
      have q1 := decide_eq_false fl
      have q2 := decide_eq_false fh
      clear fl fh
      have HRT := Lib.hid hrate2
      have HBS := Lib.hid hbase
      have HUS := Lib.hid husr
      have HON := Lib.hid hon
      have HFN := Lib.hid hfin
      have HST := Lib.hid hstart
      have HFR := Lib.hid hfrm
      have hba := fun o => HB.out.alloc HB.out.size o
      have HBA := Lib.hid hba
      clear hrat hr hu hv hc hkept hrl hru o hrate2 hbase husr hon hfin hstart hfrm hba hbal hkn
      go_wp2_with (go_at_call 28; refine (HRT.out _ (HBA.out _)).mono ?_; rintro e w' ⟨rfl, rfl⟩)
      go_quiet ((first
        | (go_at_call 44; exact Calls.quiet_of_same (turn_same (HBS.out _ (below_drewN (HBA.out _) _))))
        | (go_at_call 15; exact Calls.quiet_of_same (turn_same (HUS.out _ (below_drewN (HBA.out _) _))))))
      clear e1 e2 e3 f1 f2 p1 p2 p3 p4 g1 g2 g3 g4 g5 g6 vb1 vb2 hm1 hm2 hd1 HRT HBS HUS
      obtain ⟨O, hO⟩ : ∃ O : Obj, O = .cells #[.int .i64 F, .int .i64 R, .int .i64 M, .int .i64 D, .int .i64 L, .int .i64 H, .bool st] 81 := ⟨_, rfl⟩
      rw [← hO]
      clear hO
      have hbw := below_drewN (HBA.out O) nq
      have HBW := Lib.hid hbw
      clear hbw HBA
      have hk1 : wrap64 ((k : Int) + 1) = (k : Int) + 1 := IntWalk.wrap64_in _ (by omega)
      go_wp2_with fail
      clear q1 q2
      go_loopw [9, 10] (fun ov jv wx => ∃ j : Nat, k + 1 ≤ j ∧ j ≤ n ∧ jv = .int .i64 j ∧ ov = .bool (decide (0 < u) || decide (0 < kids s.l s.hs k j)) ∧ (wr.alloc O).drewN nq = wx) (fun _ jv _ => n - (intOf jv).toNat)
      case atStart => exact ⟨k + 1, Nat.le_refl _, by omega, by go_num, by rw [HST.out]; simp, rfl⟩
      case round =>
        obtain ⟨j, hj1, hj2, rfl, rfl, rfl⟩ := hrel
        by_cases hjn : j < n
        · obtain ⟨G, hG, hcg⟩ := HFR.out j hjn
          have hji : (j : Int) < (n : Int) := by omega
          have hst := kids_step s.l s.hs k j G _ hG rfl (decide (0 < u))
          have hoj := HON.out _ HBW.out j hjn
          obtain ⟨o, ho⟩ : ∃ o, o = (decide (0 < u) || decide (0 < kids s.l s.hs k j)) := ⟨_, rfl⟩
          rw [← ho] at hst ⊢
          generalize decide (0 < s.hs.getD j 0) = b at *
          have HSTP := Lib.hid hst
          have HOJ := Lib.hid hoj
          clear hst hoj ho hG
          rcases o with _ | _
          · by_cases hgk : G = (k : Int)
            · have q1 : (G == (k : Int)) = true := by simpa using hgk
              clear hgk
              go_wp2_with (go_at_call 13; refine HOJ.out.mono ?_; rintro e w' ⟨rfl, rfl⟩)
              go_roundw
              case rel => exact ⟨j + 1, by omega, by omega, by go_num, by rw [HSTP.out, q1]; simp, trivial⟩
              case measure => simp [intOf]; omega
            · have q1 : (G == (k : Int)) = false := by simpa using hgk
              clear hgk
              go_wp2_with fail
              go_roundw
              case rel => exact ⟨j + 1, by omega, by omega, by go_num, by rw [HSTP.out, q1]; simp, trivial⟩
              case measure => simp [intOf]; omega
          · go_wp2_with fail
            go_roundw
            case rel => exact ⟨j + 1, by omega, by omega, by go_num, by rw [HSTP.out]; simp, trivial⟩
            case measure => simp [intOf]; omega
        · obtain rfl : j = n := by omega
          rw [← HFN.out]
          have hok := HON.out _ HBW.out k hlt
          generalize decide (0 < s.hs.getD k 0) = b at *
          have f3 : (b != b) = false := by simp
          have HOK := Lib.hid hok
          clear hok
          go_wp2_with (go_at_call 13; refine HOK.out.mono ?_; rintro e w' ⟨rfl, rfl⟩)
          go_roundw
          case rel => exact ⟨k + 1, by omega, by go_num, HBW.out⟩
          case measure => simp [intOf]; omega
    · obtain rfl : k = n := by omega
      clear hkept
      go_wp2
      go_ret
      exact ⟨rfl, HB.out⟩
end
end Go.Proofs.Ytbahclnpgdejlaa
