import Derived.Test.YtbahclnpgdejlaaChange
import Derived.Test.YtbahclnpgdejlaaRound
set_option linter.unusedVariables false
namespace Go.Proofs.Ytbahclnpgdejlaa
open Go.RowKit
theorem round_bd (all want : Int) (h1 : 0 ≤ all) (h2 : 0 ≤ want) : 1 ≤ (roundOf all want).1 ∧ (roundOf all want).1 ≤ 65535 := by
  have a := least_bd all want h1 h2
  have b := up_gt all want h1 h2
  unfold roundOf
  simp only
  split
  · rename_i h
    have b := b h
    have := least_bd all (all / (leastOf all want - 1)) h1 (by omega)
    split <;> simp <;> omega
  · simp; omega
theorem good_set {l : List Clk} (h : Good l) {k : Nat} (hk : k < l.length) (d : Int) (h1 : 1 ≤ d) (h2 : d ≤ 65535) : Good (l.set k { l[k] with div := d }) := by
  intro j hj
  have hj2 : j < l.length := by simpa using hj
  rw [okAt_get _ j hj]
  have o := h j hj2
  rw [okAt_get _ j hj2] at o
  by_cases e : k = j
  · subst e
    simp only [List.getElem_set_self]
    unfold okB at o ⊢
    have hf : facB d = true := by unfold facB; simp; omega
    rw [hf]
    simp only [Bool.and_eq_true] at o ⊢
    simp only [o.1.1.1.1.1, o.1.1.1.1.2, o.1.1.2, o.1.2, o.2, and_self]
  · simp only [List.getElem_set_ne e]
    exact o
theorem NetAt.below {w w' : World} {B nb n : Nat} {Ac Ar Au Ah : Option Addr} {cc cr cu ch : Nat} {s : St} (h : NetAt w B nb n Ac Ar Au Ah cc cr cu ch s) (hb : Below w.heap.size w w') : NetAt w' B nb n Ac Ar Au Ah cc cr cu ch s :=
  ⟨h.low, h.len, h.lenr, h.lenu, h.lenh, (hb.block nb h.lt).trans h.box, h.vc.below hb, h.vr.below hb, h.vu.below hb, h.vh.below hb, h.ne⟩
set_option maxRecDepth 100000 in
set_option maxHeartbeats 2000000 in
theorem set_ok {w : World} {B nb n : Nat} {Ac Ar Au Ah : Option Addr} {cc cr cu ch : Nat} {s : St} (h : NetAt w B nb n Ac Ar Au Ah cc cr cu ch s) (hi : Inv s) {k : Nat} (hk : k < s.l.length) (want d : Int) (h1 : 0 ≤ want) (h2 : want ≤ 1099511627776)
    (hd : d = (roundOf (baseOf s.rs s.l[k] * s.l[k].mul) want).1) (l' : List Clk) (hl' : l' = s.l.set k { s.l[k] with div := d })
    (hfit : ∀ j, j < n → fitsAt l' j = true) (hbusy : ∀ j, j < n → busyAt l' s.rs (ratesOf l') s.hs j = false) :
    Calls Try.prog 29 #[.pointer (some ⟨nb, 0, none⟩), .int .i64 k, .int .i64 want] w fun e w' => ∃ A c A' c' gr, e = .returned (.tuple #[.slice A (chg s.rs (ratesOf l') n).length c, .int .i64 0]) ∧
      w'.ownsRow w.heap.size 78 3 (.slice A (chg s.rs (ratesOf l') n).length c) (chg s.rs (ratesOf l') n).length (chgCells (chg s.rs (ratesOf l') n)) ∧
      NetAt w' B nb n A' (some ⟨gr, 0, none⟩) Au Ah c' n cu ch { s with l := l', rs := ratesOf l' } ∧ Frame (fun j => j = nb) w w' := by
  have hr := round_ok h hi hk want h1 h2
  rw [← hd] at hr
  obtain ⟨b1, b2⟩ := hi.base_bd hk
  have o := hi.good.at_ hk
  obtain ⟨p1, p2, p3, p4⟩ := prod_bd b1 b2 o.m1 o.m2 (D := 1) (by omega)
  obtain ⟨d1, d2⟩ := round_bd (baseOf s.rs s.l[k] * s.l[k].mul) want (by omega) h1
  rw [← hd] at d1 d2
  have hg' : Good l' := by rw [hl']; exact good_set hi.good hk d d1 d2
  have hlen := h.len
  have hll : n = l'.length := by rw [hl', List.length_set]; exact hlen
  have hn5 : n ≤ 512 := by rw [hlen]; exact (mayB_iff.1 hi.may).1
  have hcell : clkCells l' = (clkCells s.l).set (k * 7 + 3) (.int .i64 d) := by
    rw [hl']
    unfold clkCells
    rw [flat_set _ 7 clk_len s.l k 3 { s.l[k] with div := d } (.int .i64 d) hk (by omega) (by simp [Clk.cells])]
  have hb := h.lt
  have hlow := h.low
  have hcs : (clkCells s.l).length = n * 7 := by rw [clkCells, flat_length _ 7 clk_len, hlen]
  have hkn : k < n := by omega
  have hki : (k : Int) < (n : Int) := by omega
  have HR := Lib.hid hr
  have HF := Lib.hid hfit
  have HB := Lib.hid hbusy
  have HC := Lib.hid hcell
  have HL := Lib.hid hlen
  have HLL := Lib.hid hll
  have HCS := Lib.hid hcs
  clear hr hfit hbusy hcell hlen hll hcs hd hl' p1 p2 p3 p4 b1 b2 o
  go_enter Try.func29, Try.ntmps29
  go_wp2_with (first
    | (go_at_call 8; refine HR.out.mono ?_; rintro e w1 ⟨rfl, hb1⟩; have c0 := cell_of_row w1 nb 0 _ _ (0, 0) ((hb1.block nb hb).trans h.box); simp only [List.getElem?_toArray, List.getElem?_cons_zero] at c0)
    | (go_at_call 24; refine (clone_any Ac cc s.l n HL.out w1 w.heap.size hb1.size (h.vc.seg.below hb1) (by omega)).mono ?_; rintro e w2 ⟨A', c', rfl, hown, hb2⟩; obtain ⟨g, rfl, hg1, hg2, hrow⟩ := RowAt.of_own hown (by omega); have hfz := hrow.frozen (k * 7 + 3); have hcl := hrow.cell (k := k * 7 + 3) (by rw [HCS.out]; omega); rw [clkCells, flat_get _ 7 clk_len s.l k 3 hk (by omega), show (Clk.cells s.l[k])[3]? = some (.int .i64 s.l[k].div) from rfl] at hcl; clear hown)
    | (go_at_call 48; go_loud (
       have hb12 : Below w.heap.size w w2 := hb1.trans (hb2.mono hb1.size)
       have hb1s := hb1.size
       have hnew : NetAt (w2.setCell ⟨g, k * 7 + 3, none⟩ (.int .i64 d)) B nb n Ac Ar Au Ah cc cr cu ch s := h.below (hb12.setCell (p := ⟨g, k * 7 + 3, none⟩) (by show w.heap.size ≤ g; omega) _)
       have hrow' := hrow.store (k * 7 + 3) (.int .i64 d)
       rw [← HC.out] at hrow'
       have hsz : w.heap.size ≤ (w2.setCell ⟨g, k * 7 + 3, none⟩ (.int .i64 d)).heap.size := by simpa using hb12.size
       refine (change_ok hnew hg' HLL.out hn5 (by omega) (hrow'.vec (by omega)) (by omega) HF.out HB.out).mono ?_
       rintro e w3 ⟨A3, c3, gr, rfl, hown3, hnet3, hf3⟩
       have HO := Lib.hid hown3
       have HN := Lib.hid hnet3
       have HFF := Lib.hid hf3
       have HSZ := Lib.hid hsz
       have HBB := Lib.hid (hb12.setCell (p := ⟨g, k * 7 + 3, none⟩) (by show w.heap.size ≤ g; omega) (.int .i64 d))
       clear hown3 hnet3 hf3 hsz hrow' hnew hb12)))
  go_ret2
  exact ⟨A3, c3, _, c', gr, rfl, own_base HO.out HSZ.out, HN.out, (Frame.of_below HBB.out).next HFF.out (fun _ _ x => x)⟩
end Go.Proofs.Ytbahclnpgdejlaa
