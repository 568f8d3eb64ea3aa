/- The program's Move: the contracts. -/
import Derived.Test.YtbahclnpgdejlaaPSet
import Derived.Test.YtbahclnpgdejlaaMoveLaw
import Derived.Lib.OwnKind
set_option linter.unusedVariables false
namespace Go.Proofs.Ytbahclnpgdejlaa
open Go.RowKit
theorem turn_flat (t : List (Int × Bool)) : (turnCells t).length = t.length * 2 := flat_length _ 2 (fun _ => rfl) t
theorem turn_app (t u : List (Int × Bool)) : turnCells (t ++ u) = turnCells t ++ turnCells u := by simp [turnCells]
theorem grown_keep {w w' : World} {base e0 size m : Nat} {v : Value} {xs : List Value} (ho : w.ownsRow base e0 size v m xs) (hg : w.grownBy w' v.ownBlock) (g : Nat) (cur : Array Value) (e : TypeId) (hh : w.heap[g]? = some (.cells cur e (0, 0))) (he : e ≠ e0) : w'.heap[g]? = w.heap[g]? := by
  refine hg.block g (lt_of_heap hh) (fun e2 => ?_)
  obtain ⟨c, fz, hk⟩ := Go.Lib.ownsRow_kind ho g e2.symm
  rw [hk] at hh
  injection hh with hh
  injection hh with _ ht _
  exact he ht.symm
theorem Vec.keepT {w w' : World} {B e0 : Nat} {A : Option Addr} {e : TypeId} {xs : List Value} (h : Vec w B A e xs) (hk : ∀ (g : Nat) (cur : Array Value) (e : TypeId), w.heap[g]? = some (.cells cur e (0, 0)) → e ≠ e0 → w'.heap[g]? = w.heap[g]?) (he : e ≠ e0) : Vec w' B A e xs := fun hx => by
  obtain ⟨g, rfl, hb, hrg⟩ := h hx
  obtain ⟨cur, hh, _⟩ := id hrg
  exact ⟨g, rfl, hb, hrg.keep (hk g cur e hh he)⟩
theorem NetAt.keepT {w w' : World} {B nb n e0 : Nat} {Ac Ar Au Ah : Option Addr} {cc cr cu ch : Nat} {s : St} (h : NetAt w B nb n Ac Ar Au Ah cc cr cu ch s) (hk : ∀ (g : Nat) (cur : Array Value) (e : TypeId), w.heap[g]? = some (.cells cur e (0, 0)) → e ≠ e0 → w'.heap[g]? = w.heap[g]?)
    (h1 : 68 ≠ e0) (h2 : 30 ≠ e0) (h3 : 2 ≠ e0) (h4 : 3 ≠ e0) : NetAt w' B nb n Ac Ar Au Ah cc cr cu ch s :=
  ⟨h.low, h.len, h.lenr, h.lenu, h.lenh, (hk nb _ _ h.box h1).trans h.box, h.vc.keepT hk h2, h.vr.keepT hk h3, h.vu.keepT hk h4, h.vh.keepT hk h4, h.ne⟩
theorem own_keepT {w w' : World} {base e0 size n : Nat} {e : TypeId} {v : Value} {xs : List Value} (h : w.ownsRow base e size v n xs) (hk : ∀ (g : Nat) (cur : Array Value) (e : TypeId), w.heap[g]? = some (.cells cur e (0, 0)) → e ≠ e0 → w'.heap[g]? = w.heap[g]?) (he : e ≠ e0) : w'.ownsRow base e size v n xs := by
  refine ⟨h.1, ?_⟩
  rcases h.2 with h2 | ⟨g, cap, cur, a1, a2, a3, a4⟩
  · exact .inl h2
  · exact .inr ⟨g, cap, cur, a1, a2, (hk g cur e a3 he).trans a3, a4⟩
theorem pmove_no {w : World} {B nb n : Nat} {Ac Ar Au Ah : Option Addr} {cc cr cu ch : Nat} {s : St} (h : NetAt w B nb n Ac Ar Au Ah cc cr cu ch s) (i frm : Int) (hi : i < 0 ∨ n ≤ i ∨ frm < 0 ∨ i ≤ frm ∨ frmAt s.l i < 0) :
    Calls Try.prog 39 #[.pointer (some ⟨nb, 0, none⟩), .int .i64 i, .int .i64 frm] w fun e w' => e = .returned (.tuple #[.slice none 0 0, .slice none 0 0, .int .i64 1]) ∧ w = w' := by
  have c0 := h.c0
  by_cases h1 : i < 0 ∨ n ≤ i
  · clear hi h
    go_enter Try.func39, Try.ntmps39
    go_wp2_with (go_at_call 25; refine (there_no _ _ _ _ _ _ c0 h1).mono ?_; rintro e w' ⟨rfl, rfl⟩)
    go_ret3
    exact ⟨rfl, rfl⟩
  · obtain ⟨k, rfl⟩ := Int.eq_ofNat_of_zero_le (show 0 ≤ i by omega)
    have hkn : k < n := by omega
    have hkl : k < s.l.length := by rw [← h.len]; exact hkn
    have hki : (k : Int) < (n : Int) := by omega
    obtain ⟨b, off, hA, hb, g0, _⟩ := h.vc.seg.clk hkl
    subst hA
    have hF : frmAt s.l k = s.l[k].frm := by simp [frmAt, hkl]
    rw [← hF] at g0
    clear hF h
    generalize frmAt s.l k = F at *
    rcases (show frm < 0 ∨ (0 ≤ frm ∧ (k : Int) ≤ frm) ∨ (0 ≤ frm ∧ frm < k ∧ F < 0) by omega) with h2 | ⟨h2, h3⟩ | ⟨h2, h3, h4⟩
    all_goals
      clear h1 hi
      go_enter Try.func39, Try.ntmps39
      go_wp2_with (go_at_call 25; refine (there_ok _ _ _ _ _ _ c0 (by omega) (by omega)).mono ?_; rintro e w' ⟨rfl, rfl⟩)
      go_ret3
      exact ⟨rfl, rfl⟩
set_option maxRecDepth 100000 in
set_option maxHeartbeats 4000000 in
theorem pmove_any {w : World} {B nb n gh : Nat} {Ac Ar Au : Option Addr} {cc cr cu ch : Nat} {s : St} (h : NetAt w B nb n Ac Ar Au (some ⟨gh, 0, none⟩) cc cr cu ch s) (hi : Inv s) (hBw : B ≤ w.heap.size) {k : Nat} (hk : k < s.l.length) (hF : 0 ≤ frmAt s.l k) (f : Nat) (hf : f < k) (l' : List Clk) (hl' : l' = s.l.set k { s.l[k] with frm := (f : Int) }) (hg' : Good l') :
    ((∃ j, j < n ∧ fitsAt l' j = false) → Calls Try.prog 39 #[.pointer (some ⟨nb, 0, none⟩), .int .i64 k, .int .i64 f] w fun e w' => e = .returned (.tuple #[.slice none 0 0, .slice none 0 0, .int .i64 181]) ∧ Below w.heap.size w w') ∧
    ((∀ j, j < n → fitsAt l' j = true) → ∀ j0, j0 < n → busyAt l' s.rs (ratesOf l') s.hs j0 = true → (∀ j, j < j0 → busyAt l' s.rs (ratesOf l') s.hs j = false) →
      Calls Try.prog 39 #[.pointer (some ⟨nb, 0, none⟩), .int .i64 k, .int .i64 f] w fun e w' => e = .returned (.tuple #[.slice none 0 0, .slice none 0 0, .int .i64 182]) ∧ Below w.heap.size w w') := by
  have hlen := h.len
  have hn5 : n ≤ 512 := by rw [hlen]; exact (mayB_iff.1 hi.may).1
  have hll : n = l'.length := by rw [hl', List.length_set]; exact hlen
  have hcell : (clkCells s.l).set (k * 7 + 0) (.int .i64 f) = clkCells l' := by rw [hl']; exact clk_set_cell hk (by omega) rfl
  rw [Nat.add_zero] at hcell
  have hb := h.lt
  have hcs : (clkCells s.l).length = n * 7 := by rw [clkCells, flat_length _ 7 clk_len, hlen]
  have hkn : k < n := by omega
  have hki : (k : Int) < (n : Int) := by omega
  have hfki : (f : Int) < (k : Int) := by omega
  have hfr0 : (clkCells s.l)[k * 7]? = some (.int .i64 (frmAt s.l k)) := by rw [clkCells, show k * 7 = k * 7 + 0 from rfl, flat_get _ 7 clk_len s.l k 0 hk (by omega)]; simp [frmAt, hk, Clk.cells]
  have c0 := h.c0
  obtain ⟨gc, rfl, _, hrc⟩ := h.vc (by intro e; have := congrArg List.length e; rw [hcs] at this; simp at this; omega)
  have cf := hrc.cell (k := k * 7) (by rw [hcs]; omega)
  rw [hfr0] at cf
  have hseg := h.vc.seg
  have hrate := fun w1 A' c' (hb1 : Below w.heap.size w w1) (hs : Seg w1 w1.heap.size A' (clkCells l')) (hx : ∃ j, j < n ∧ fitsAt l' j = false) => change_rate (c' := c') (h.below hb1) hg' hll hn5 hs hx
  have hbusy := fun w1 A' c' (hb1 : Below w.heap.size w w1) (hv : Vec w1 B A' 30 (clkCells l')) (hfit : ∀ j, j < n → fitsAt l' j = true) (j0 : Nat) (hj0 : j0 < n) (hz : busyAt l' s.rs (ratesOf l') s.hs j0 = true) (hy : ∀ j, j < j0 → busyAt l' s.rs (ratesOf l') s.hs j = false) => change_busy (c' := c') (h.below hb1) hg' hll hn5 (by omega) hv (Nat.le_trans hBw hb1.size) hfit hj0 hz hy
  have HC := Lib.hid hcell
  have HL := Lib.hid hlen
  have HCS := Lib.hid hcs
  have HDV := Lib.hid hfr0
  have HS := Lib.hid hseg
  have HR := Lib.hid hrate
  have HY := Lib.hid hbusy
  clear hcell hlen hcs hl' h hi hseg hrate hbusy hfr0 hrc hll hg'
  generalize hFF : frmAt s.l k = F at *
  clear hFF
  constructor
  · intro hx
    have HXX := Lib.hid hx
    clear hx
    go_enter Try.func39, Try.ntmps39
    go_wp2_with (first
      | (go_at_call 25; refine (there_ok _ _ _ _ _ _ c0 (by omega) (by omega)).mono ?_; rintro e w' ⟨rfl, rfl⟩)
      | (go_at_call 24
         refine (clone_any (some ⟨gc, 0, none⟩) cc s.l n HL.out w w.heap.size (Nat.le_refl _) HS.out (by omega)).mono ?_
         rintro e w2 ⟨A', c', rfl, hown, hb2⟩
         obtain ⟨g, rfl, hg1, hg2, hrow⟩ := RowAt.of_own hown (by omega)
         have hfz := hrow.frozen (k * 7)
         have hcl := hrow.cell (k := k * 7) (by rw [HCS.out]; omega)
         rw [HDV.out] at hcl
         have hst := hrow.store (k * 7) (.int .i64 f)
         rw [HC.out] at hst
         have hb4 := hb2.setCell (p := ⟨g, k * 7, none⟩) hg1 (.int .i64 f)
         have hx := HR.out _ (some ⟨g, 0, none⟩) c' hb4 (hst.seg hst.lt) HXX.out
         have HX := Lib.hid hx
         have HB4 := Lib.hid hb4
         clear hown hrow hst hb4 hx hb2)
      | (go_at_call 48; refine HX.out.mono ?_; rintro e w5 ⟨rfl, hb5⟩; have HB5 := Lib.hid hb5; clear hb5))
    go_ret3
    exact ⟨rfl, below_next HB4.out HB5.out⟩
  · intro hfit j0 hj0 hz hy
    have HFIT := Lib.hid hfit
    have HZ := Lib.hid hz
    have HYY := Lib.hid hy
    clear hfit hz hy
    go_enter Try.func39, Try.ntmps39
    go_wp2_with (first
      | (go_at_call 25; refine (there_ok _ _ _ _ _ _ c0 (by omega) (by omega)).mono ?_; rintro e w' ⟨rfl, rfl⟩)
      | (go_at_call 24
         refine (clone_any (some ⟨gc, 0, none⟩) cc s.l n HL.out w w.heap.size (Nat.le_refl _) HS.out (by omega)).mono ?_
         rintro e w2 ⟨A', c', rfl, hown, hb2⟩
         obtain ⟨g, rfl, hg1, hg2, hrow⟩ := RowAt.of_own hown (by omega)
         have hfz := hrow.frozen (k * 7)
         have hcl := hrow.cell (k := k * 7) (by rw [HCS.out]; omega)
         rw [HDV.out] at hcl
         have hst := hrow.store (k * 7) (.int .i64 f)
         rw [HC.out] at hst
         have hb4 := hb2.setCell (p := ⟨g, k * 7, none⟩) hg1 (.int .i64 f)
         have hx := HY.out _ (some ⟨g, 0, none⟩) c' hb4 (hst.vec (Nat.le_trans hBw hg1)) HFIT.out j0 hj0 HZ.out HYY.out
         have HX := Lib.hid hx
         have HB4 := Lib.hid hb4
         clear hown hrow hst hb4 hx hb2)
      | (go_at_call 48; refine HX.out.mono ?_; rintro e w5 ⟨rfl, hb5⟩; have HB5 := Lib.hid hb5; clear hb5))
    go_ret3
    exact ⟨rfl, below_next HB4.out HB5.out⟩
set_option maxRecDepth 100000 in
set_option maxHeartbeats 4000000 in
theorem pmove_ok {w : World} {B nb n gh : Nat} {Ac Ar Au : Option Addr} {cc cr cu ch : Nat} {s : St} (h : NetAt w B nb n Ac Ar Au (some ⟨gh, 0, none⟩) cc cr cu ch s) (hi : Inv s) (hBw : B ≤ w.heap.size) (hghw : gh < w.heap.size) {k : Nat} (hk : k < s.l.length) (hF : 0 ≤ frmAt s.l k) (f : Nat) (hf : f < k) (l' : List Clk) (hl' : l' = s.l.set k { s.l[k] with frm := (f : Int) }) (hg' : Good l')
    (hfit : ∀ j, j < n → fitsAt l' j = true) (hbusy : ∀ j, j < n → busyAt l' s.rs (ratesOf l') s.hs j = false) :
    (s.hs.getD k 0 = 0 → Calls Try.prog 39 #[.pointer (some ⟨nb, 0, none⟩), .int .i64 k, .int .i64 f] w fun e w' => ∃ A c A' c' gr, e = .returned (.tuple #[.slice A (chg s.rs (ratesOf l') n).length c, .slice none 0 0, .int .i64 0]) ∧
      w'.ownsRow w.heap.size 78 3 (.slice A (chg s.rs (ratesOf l') n).length c) (chg s.rs (ratesOf l') n).length (chgCells (chg s.rs (ratesOf l') n)) ∧
      NetAt w' B nb n A' (some ⟨gr, 0, none⟩) Au (some ⟨gh, 0, none⟩) c' n cu ch { s with l := l', rs := ratesOf l' } ∧ Frame (fun j => j = nb) w w') ∧
    (0 < s.hs.getD k 0 → ∀ hs1 hs2 : List Int, hs1 = (holdF l' 513 f s.hs).1 → hs2 = (dropF l' 513 (frmAt s.l k) hs1).1 → (∀ j : Nat, j < n → 0 ≤ s.hs.getD j 0 ∧ s.hs.getD j 0 ≤ 100000) → (∀ j : Nat, j < n → 0 ≤ hs1.getD j 0 ∧ hs1.getD j 0 ≤ 100000) →
      Calls Try.prog 39 #[.pointer (some ⟨nb, 0, none⟩), .int .i64 k, .int .i64 f] w fun e w' => ∃ A c A2 c2 A' c' gr, e = .returned (.tuple #[.slice A (chg s.rs (ratesOf l') n).length c, .slice A2 ((holdF l' 513 f s.hs).2 ++ (dropF l' 513 (frmAt s.l k) hs1).2).length c2, .int .i64 0]) ∧
      w'.ownsRow w.heap.size 78 3 (.slice A (chg s.rs (ratesOf l') n).length c) (chg s.rs (ratesOf l') n).length (chgCells (chg s.rs (ratesOf l') n)) ∧
      w'.ownsRow w.heap.size 80 2 (.slice A2 ((holdF l' 513 f s.hs).2 ++ (dropF l' 513 (frmAt s.l k) hs1).2).length c2) ((holdF l' 513 f s.hs).2 ++ (dropF l' 513 (frmAt s.l k) hs1).2).length (turnCells ((holdF l' 513 f s.hs).2 ++ (dropF l' 513 (frmAt s.l k) hs1).2)) ∧
      NetAt w' B nb n A' (some ⟨gr, 0, none⟩) Au (some ⟨gh, 0, none⟩) c' n cu ch { s with l := l', rs := ratesOf l', hs := hs2 } ∧ Frame (fun j => j = nb ∨ j = gh) w w') := by
  have hlen := h.len
  have hn5 : n ≤ 512 := by rw [hlen]; exact (mayB_iff.1 hi.may).1
  have hll : n = l'.length := by rw [hl', List.length_set]; exact hlen
  have hcell : (clkCells s.l).set (k * 7 + 0) (.int .i64 f) = clkCells l' := by rw [hl']; exact clk_set_cell hk (by omega) rfl
  rw [Nat.add_zero] at hcell
  have hb := h.lt
  have hlenh := h.lenh
  have hfrm := frm_lt hi.good hk
  have hcs : (clkCells s.l).length = n * 7 := by rw [clkCells, flat_length _ 7 clk_len, hlen]
  have hkn : k < n := by omega
  have hki : (k : Int) < (n : Int) := by omega
  have hfki : (f : Int) < (k : Int) := by omega
  have hfr0 : (clkCells s.l)[k * 7]? = some (.int .i64 (frmAt s.l k)) := by rw [clkCells, show k * 7 = k * 7 + 0 from rfl, flat_get _ 7 clk_len s.l k 0 hk (by omega)]; simp [frmAt, hk, Clk.cells]
  have c0 := h.c0
  obtain ⟨gc, rfl, _, hrc⟩ := h.vc (by intro e; have := congrArg List.length e; rw [hcs] at this; simp at this; omega)
  have cf := hrc.cell (k := k * 7) (by rw [hcs]; omega)
  rw [hfr0] at cf
  have hseg := h.vc.seg
  have hok := fun w1 A' c' (hb1 : Below w.heap.size w w1) (hv : Vec w1 B A' 30 (clkCells l')) => change_ok (c' := c') (h.below hb1) hg' hll hn5 (by omega) hv (Nat.le_trans hBw hb1.size) hfit hbusy
  have HC := Lib.hid hcell
  have HL := Lib.hid hlen
  have HCS := Lib.hid hcs
  have HDV := Lib.hid hfr0
  have HS := Lib.hid hseg
  have HOK := Lib.hid hok
  have HLH := Lib.hid hlenh
  have HGG := Lib.hid hg'
  clear hcell hlen hcs hl' h hi hseg hok hfr0 hrc hll hg' hfit hbusy hlenh
  obtain ⟨p, hp⟩ : ∃ p : Nat, frmAt s.l k = p := ⟨(frmAt s.l k).toNat, by omega⟩
  rw [hp] at HDV cf hfrm ⊢
  have hpk : (p : Int) < (k : Int) := hfrm.2
  clear hp hF hfrm
  constructor
  · intro hz
    have HZ := Lib.hid hz
    clear hz
    go_enter Try.func39, Try.ntmps39
    go_wp2_with (first
      | (go_at_call 25; refine (there_ok _ _ _ _ _ _ c0 (by omega) (by omega)).mono ?_; rintro e w' ⟨rfl, rfl⟩)
      | (go_at_call 24
         refine (clone_any (some ⟨gc, 0, none⟩) cc s.l n HL.out w w.heap.size (Nat.le_refl _) HS.out (by omega)).mono ?_
         rintro e w2 ⟨A', c', rfl, hown, hb2⟩
         obtain ⟨g, rfl, hg1, hg2, hrow⟩ := RowAt.of_own hown (by omega)
         have hfz := hrow.frozen (k * 7)
         have hcl := hrow.cell (k := k * 7) (by rw [HCS.out]; omega)
         rw [HDV.out] at hcl
         have hst := hrow.store (k * 7) (.int .i64 f)
         rw [HC.out] at hst
         have hb4 := hb2.setCell (p := ⟨g, k * 7, none⟩) hg1 (.int .i64 f)
         have hx := HOK.out _ (some ⟨g, 0, none⟩) c' hb4 (hst.vec (Nat.le_trans hBw hg1))
         have HX := Lib.hid hx
         have HB4 := Lib.hid hb4
         clear hown hrow hst hb4 hx hb2)
      | (go_at_call 48
         refine HX.out.mono ?_
         rintro e w5 ⟨A5, c5, gr, rfl, ho5, hn5', hf5⟩
         have d3 := hn5'.c3
         obtain ⟨gh', e', _, hrh⟩ := hn5'.row_h (by omega)
         have e2 : gh = gh' := by injection e' with e'; injection e'
         rw [← e2] at hrh
         have dh := hrh.cell (k := k) (by rw [i64s_len, ← HLH.out]; exact hkn)
         rw [i64s_get _ _ (by rw [← HLH.out]; exact hkn), HZ.out] at dh
         have HO5 := Lib.hid ho5
         have HN5 := Lib.hid hn5'
         have HF5 := Lib.hid hf5
         clear ho5 hn5' hf5 hrh e2 e'))
    go_ret3
    exact ⟨A5, c5, _, _, gr, rfl, own_base HO5.out HB4.out.size, HN5.out, (Frame.of_below HB4.out).next HF5.out (fun _ _ x => x)⟩
  · intro hz hs1 hs2 h1 h2 hbd hbd1
    have HZ := Lib.hid hz
    have H1 := Lib.hid h1
    have H2 := Lib.hid h2
    have HBD := Lib.hid hbd
    have HBD1 := Lib.hid hbd1
    have hl1 := holdF_turns l' 513 f s.hs
    have hl2 := dropF_turns l' 513 p hs1
    obtain ⟨t1, ht1⟩ : ∃ t1, t1 = (holdF l' 513 f s.hs).2 := ⟨_, rfl⟩
    obtain ⟨t2, ht2⟩ : ∃ t2, t2 = (dropF l' 513 p hs1).2 := ⟨_, rfl⟩
    rw [← ht1] at hl1
    rw [← ht2] at hl2
    rw [← ht1, ← ht2]
    have HT1 := Lib.hid ht1
    have HT2 := Lib.hid ht2
    have hzn : (s.hs.getD k 0 == 0) = false := by simp only [beq_eq_false_iff_ne]; omega
    obtain ⟨z, hz2⟩ : ∃ z, z = s.hs.getD k 0 := ⟨_, rfl⟩
    rw [← hz2] at hzn
    have HZZ := Lib.hid hz2
    clear hz h1 h2 hbd hbd1 ht1 ht2 hz2
    obtain ⟨i0, fi, fz0, fz1, fz2⟩ := info_parts Try.info80
    go_enter Try.func39, Try.ntmps39
    go_wp2_with (first
      | (go_at_call 25; refine (there_ok _ _ _ _ _ _ c0 (by omega) (by omega)).mono ?_; rintro e w' ⟨rfl, rfl⟩)
      | (go_at_call 24
         refine (clone_any (some ⟨gc, 0, none⟩) cc s.l n HL.out w w.heap.size (Nat.le_refl _) HS.out (by omega)).mono ?_
         rintro e w2 ⟨A', c', rfl, hown, hb2⟩
         obtain ⟨g, rfl, hg1, hg2, hrow⟩ := RowAt.of_own hown (by omega)
         have hfz := hrow.frozen (k * 7)
         have hcl := hrow.cell (k := k * 7) (by rw [HCS.out]; omega)
         rw [HDV.out] at hcl
         have hst := hrow.store (k * 7) (.int .i64 f)
         rw [HC.out] at hst
         have hb4 := hb2.setCell (p := ⟨g, k * 7, none⟩) hg1 (.int .i64 f)
         have hx := HOK.out _ (some ⟨g, 0, none⟩) c' hb4 (hst.vec (Nat.le_trans hBw hg1))
         have HX := Lib.hid hx
         have HB4 := Lib.hid hb4
         clear hown hrow hst hb4 hx hb2)
      | (go_at_call 48
         refine HX.out.mono ?_
         rintro e w5 ⟨A5, c5, gr, rfl, ho5, hn5', hf5⟩
         have d3 := hn5'.c3
         obtain ⟨gh', e', _, hrh⟩ := hn5'.row_h (by omega)
         have e2 : gh = gh' := by injection e' with e'; injection e'
         rw [← e2] at hrh
         have dh := hrh.cell (k := k) (by rw [i64s_len, ← HLH.out]; exact hkn)
         rw [i64s_get _ _ (by rw [← HLH.out]; exact hkn), ← HZZ.out] at dh
         have hhold := hold_any B nb n gh _ _ _ _ _ _ _ (by omega) hn5 513 f w5 _ hn5' HGG.out (fun j hj => by have := HBD.out j (by omega); simp only; omega) (by omega) (by omega) (by omega) (by omega)
         simp only at hhold
         rw [← H1.out, ← HT1.out] at hhold
         have HHO := Lib.hid hhold
         have HO5 := Lib.hid ho5
         have HF5 := Lib.hid hf5
         clear ho5 hn5' hf5 hrh e2 e' hhold)
      | (go_at_call 30
         refine HHO.out.mono ?_
         rintro e w6 ⟨A6, c6, rfl, ho6, hn6, hf6⟩
         have hdrop := drop_any B nb n gh _ _ _ _ _ _ _ (by omega) hn5 513 p w6 _ hn6 HGG.out (fun j hj => by have := HBD1.out j (by omega); simp only; omega) (by omega) (by omega) (by omega) (by omega)
         simp only at hdrop
         rw [← H2.out, ← HT2.out] at hdrop
         have HDR := Lib.hid hdrop
         have HO6 := Lib.hid ho6
         have HF6 := Lib.hid hf6
         clear ho6 hn6 hf6 hdrop)
      | (go_at_call 31
         refine HDR.out.mono ?_
         rintro e w7 ⟨A7, c7, rfl, ho7, hn7, hf7⟩
         have HO7 := Lib.hid ho7
         have HN7 := Lib.hid hn7
         have HF7 := Lib.hid hf7
         have ho67 := own_frame HO6.out hf7 (fun g hg => by have := (HO6.out.lt g hg).1; have := HF5.out.size; have := HB4.out.size; show ¬ g = gh; omega)
         have HO67 := Lib.hid ho67
         clear ho7 hn7 hf7 ho67)
      | (at_builtin; refine wpList_append_seg _ rfl (.tmp 72) (.tmp 75) 41 rfl w5.heap.size 80 i0 _ 2 16 Try.underlying41 fi fz0 fz1 fz2 rfl (by decide) (.slice A6 t1.length c6) t1.length (turnCells t1) rfl HO67.out w7.heap.size A7 t2.length c7 (turnCells t2) rfl (turn_flat t2) (own_seg HO7.out) (turn_one t2) ?_ ?_ ?_ ?_))
    · unfold maxLen; omega
    · omega
    · have := HF6.out.size; have := HF7.out.size; omega
    intro v8 w8 hown8 hg8 _
    obtain ⟨A8, c8, rfl⟩ := own_shape hown8
    have hk8 := fun g cur e => grown_keep HO67.out hg8 g cur e
    have hnet8 := HN7.out.keepT hk8 (by decide) (by decide) (by decide) (by decide)
    have e5 := HF5.out.size
    have e4 := HB4.out.size
    have hch : w7.ownsRow w.heap.size 78 3 (.slice A5 (chg s.rs (ratesOf l') n).length c5) (chg s.rs (ratesOf l') n).length (chgCells (chg s.rs (ratesOf l') n)) :=
      own_base (own_frame (own_frame HO5.out HF6.out (fun g hg => by have := (HO5.out.lt g hg).1; show ¬ g = gh; omega)) HF7.out (fun g hg => by have := (HO5.out.lt g hg).1; show ¬ g = gh; omega)) e4
    have hch8 := own_keepT hch hk8 (by decide)
    have e6 := HF6.out.size
    have e7 := HF7.out.size
    have hfr8 : Frame (fun j => j = nb ∨ j = gh) w w8 := ((((Frame.of_below HB4.out).next HF5.out (fun _ _ x => Or.inl x)).next HF6.out (fun _ _ x => Or.inr x)).next HF7.out (fun _ _ x => Or.inr x)).grown hg8 (fun g hg hlt => by have := (HO67.out.lt g hg).1; omega)
    rw [← turn_app] at hown8
    have hown9 := own_base hown8 (base' := w.heap.size) (by omega)
    have HN8 := Lib.hid hnet8
    have HC8 := Lib.hid hch8
    have HF8 := Lib.hid hfr8
    have HO8 := Lib.hid hown9
    clear hk8 hnet8 hch hch8 hfr8 hown8 hown9 hg8
    go_wp2_with fail
    go_ret3
    rw [List.length_append]
    exact ⟨A5, c5, A8, c8, _, _, gr, rfl, HC8.out, HO8.out, HN8.out, HF8.out⟩
end Go.Proofs.Ytbahclnpgdejlaa
