/- The document's Set: the contract. -/
import Derived.Test.YtbahclnpgdejlaaRGet
set_option linter.unusedVariables false
namespace Go.Proofs.Ytbahclnpgdejlaa
open Go.RowKit
/-- What Set answers behind the document's change. -/
def RSays (w : World) (B rb n : Nat) (Au : Option Addr) (cu : Nat) (l' : List Clk) (us rs hs : List Int) (e : Ending) (w' : World) : Prop :=
  ((∃ j, j < n ∧ busyAt l' rs (ratesOf l') hs j = true) ∧ e = .returned (.tuple #[.slice none 0 0, .int .i64 182]) ∧ Below w.heap.size w w') ∨
  ((∀ j, j < n → busyAt l' rs (ratesOf l') hs j = false) ∧ ∃ A c A' c', e = .returned (.tuple #[.slice A (chg rs (ratesOf l') n).length c, .int .i64 0]) ∧
    w'.ownsRow w.heap.size 111 3 (.slice A (chg rs (ratesOf l') n).length c) (chg rs (ratesOf l') n).length (chgCells (chg rs (ratesOf l') n)) ∧
    RNet w' B rb n A' Au c' cu l' us ∧ Frame (fun j => j = rb) w w')
theorem rset_no {w : World} {B rb n : Nat} {Al Au : Option Addr} {cl cu : Nat} {l : List Clk} {us : List Int} (h : RNet w B rb n Al Au cl cu l us) (i want : Int) (hi : i < 0 ∨ n ≤ i ∨ want < 0 ∨ 1099511627776 < want) :
    Calls Try.prog 37 #[.pointer (some ⟨rb, 0, none⟩), .int .i64 i, .int .i64 want] w fun e w' => e = .returned (.tuple #[.slice none 0 0, .int .i64 1]) ∧ w = w' := by
  have h1 := rround_no h i want hi
  have H1 := Lib.hid h1
  clear h1 h hi
  go_enter Try.func37, Try.ntmps37
  go_wp2_with (go_at_call 41; refine H1.out.mono ?_; rintro e w' ⟨rfl, rfl⟩)
  go_ret2
  exact ⟨rfl, rfl⟩
theorem clk_set_cell {l : List Clk} {k j : Nat} {c : Clk} {u : Value} (hk : k < l.length) (hj : j < 7) (h : (Clk.cells l[k]).set j u = Clk.cells c) : (clkCells l).set (k * 7 + j) u = clkCells (l.set k c) := by
  unfold clkCells
  exact flat_set _ 7 clk_len l k j c u hk hj h
set_option maxRecDepth 100000 in
set_option maxHeartbeats 4000000 in
theorem rset_via {w : World} {B rb n : Nat} {Al Au : Option Addr} {cl cu : Nat} {l : List Clk} {us rs : List Int} (h : RNet w B rb n Al Au cl cu l us) (hg : Good l) (hn5 : n ≤ 512) (hrs : capRates l = rs)
    {k : Nat} (hk : k < l.length) (hb0 : 0 ≤ baseOf rs l[k]) (hb1 : baseOf rs l[k] ≤ 1099511627776) (want d : Int) (h1 : 0 ≤ want) (h2 : want ≤ 1099511627776)
    (hd : d = (roundOf (baseOf rs l[k] * l[k].mul) want).1) (l' : List Clk) (hl' : l' = l.set k { l[k] with div := d }) (R : Ending → World → Prop)
    (hQ : ∀ w4 g c3, Below w.heap.size w w4 → RowAt w4 g 81 (clkCells l') → w.heap.size ≤ g → Calls Try.prog 51 #[.pointer (some ⟨rb, 0, none⟩), .slice (some ⟨g, 0, none⟩) n c3] w4 fun e w' => ∃ A m c z, e = .returned (.tuple #[.slice A m c, .int .i64 z]) ∧ R e w') :
    Calls Try.prog 37 #[.pointer (some ⟨rb, 0, none⟩), .int .i64 k, .int .i64 want] w R := by
  have hr := rround_ok h hg hn5 hrs hk hb0 hb1 want h1 h2
  rw [← hd] at hr
  have hlen := h.len
  have hcell : (clkCells l).set (k * 7 + 3) (.int .i64 d) = clkCells l' := by rw [hl']; exact clk_set_cell hk (by omega) rfl
  have hrb := h.lt
  have hkn : k < n := by omega
  have hnp : 0 < n := by omega
  have hki : (k : Int) < (n : Int) := by omega
  have hcs : (clkCells l).length = n * 7 := by rw [clkCells, flat_length _ 7 clk_len, hlen]
  have hdiv : (clkCells l)[k * 7 + 3]? = some (.int .i64 l[k].div) := by rw [clkCells, flat_get _ 7 clk_len l k 3 hk (by omega)]; rfl
  have c0 := h.c0
  have hseg := h.vl.seg
  have HR := Lib.hid hr
  have HC := Lib.hid hcell
  have HCS := Lib.hid hcs
  have HDV := Lib.hid hdiv
  have HQ := Lib.hid hQ
  have HS := Lib.hid hseg
  have M1 := Lib.hid (clk_one l)
  clear hr hcell hcs hdiv hQ hd hl' h hg hrs hb0 hb1 hlen hseg
  obtain ⟨i0, fi, fz0, fz1, fz2⟩ := info_parts Try.info81
  obtain ⟨D0, hD0⟩ : ∃ D0, D0 = l[k].div := ⟨_, rfl⟩
  rw [← hD0] at HDV
  clear hD0
  go_enter Try.func37, Try.ntmps37
  go_wp2_with (first
    | (go_at_call 41; refine HR.out.mono ?_; rintro e w1 ⟨rfl, hb1⟩; have k0 := (hb1.cell (p := ⟨rb, 0, none⟩) hrb).trans c0; have hrb1 : rb < w1.heap.size := Nat.lt_of_lt_of_le hrb hb1.size; have HB1 := Lib.hid hb1; clear hb1)
    | (at_builtin; refine wpList_append_seg _ rfl (.tmp 23) (.tmp 27) 37 rfl w.heap.size 81 i0 _ 7 56 Try.underlying37 fi fz0 fz1 fz2 rfl (by decide) _ 0 [] rfl (own_empty _ _ _ _ _ rfl HB1.out.size) w.heap.size Al n cl (clkCells l) rfl HCS.out (((HS.out).below HB1.out).alloc HB1.out.size _) M1.out ?_ ?_ ?_ ?_))
  · unfold maxLen; omega
  · omega
  · have := HB1.out.size; simp; omega
  intro v3 w3 hown3 hg3 _
  (try simp only [Nat.zero_add, List.nil_append] at hown3)
  obtain ⟨A3, c3, rfl⟩ := own_shape hown3
  have hs1 := HB1.out.size
  have hb3 : Below w.heap.size w w3 := (HB1.out.alloc hs1 _).grown hg3 (by simp; omega) (fun g hg => by simp only [Value.ownBlock, Option.some.injEq] at hg; subst hg; exact hs1)
  obtain ⟨g, rfl, hg1, hg2, hrow⟩ := RowAt.of_own hown3 hnp
  have hfz := hrow.frozen (k * 7 + 3)
  have hcl := hrow.cell (k := k * 7 + 3) (by rw [HCS.out]; omega)
  rw [HDV.out] at hcl
  have hst := hrow.store (k * 7 + 3) (.int .i64 d)
  rw [HC.out] at hst
  have hb4 := hb3.setCell (p := ⟨g, k * 7 + 3, none⟩) hg1 (.int .i64 d)
  have hx := HQ.out _ _ c3 hb4 hst hg1
  have HX := Lib.hid hx
  clear hx hown3 hg3 hb3 hst hb4 hrow
  go_wp2_with (go_at_call 51; refine HX.out.mono ?_; rintro e w5 ⟨A5, m5, c5, z5, rfl, hR⟩; have HRR := Lib.hid hR; clear hR)
  exact HRR.out
theorem rset_bad {w : World} {B rb n : Nat} {Al Au : Option Addr} {cl cu : Nat} {l : List Clk} {us rs : List Int} (h : RNet w B rb n Al Au cl cu l us) (hg : Good l) (hn5 : n ≤ 512) (hrs : capRates l = rs)
    {k : Nat} (hk : k < l.length) (hb0 : 0 ≤ baseOf rs l[k]) (hb1 : baseOf rs l[k] ≤ 1099511627776) (want d : Int) (h1 : 0 ≤ want) (h2 : want ≤ 1099511627776)
    (hd : d = (roundOf (baseOf rs l[k] * l[k].mul) want).1) (l' : List Clk) (hl' : l' = l.set k { l[k] with div := d }) (hg' : Good l') (hbad : capOk l' n = false) :
    Calls Try.prog 37 #[.pointer (some ⟨rb, 0, none⟩), .int .i64 k, .int .i64 want] w fun e w' => e = .returned (.tuple #[.slice none 0 0, .int .i64 181]) ∧ Below w.heap.size w w' := by
  refine rset_via h hg hn5 hrs hk hb0 hb1 want d h1 h2 hd l' hl' _ fun w4 g c3 hb4 hrow hg1 => ?_
  refine (rchange_rate (c' := c3) (h.below hb4) hg hg' (by rw [hl', List.length_set]; exact h.len) hn5 (hrow.seg hrow.lt) hbad).mono ?_
  rintro e w' ⟨rfl, hb⟩
  exact ⟨_, _, _, _, rfl, rfl, below_next hb4 hb⟩
theorem rset_good {w : World} {B rb n : Nat} {Al Au : Option Addr} {cl cu : Nat} {l : List Clk} {us rs hs : List Int} (h : RNet w B rb n Al Au cl cu l us) (hg : Good l) (hn5 : n ≤ 512) (hrs : capRates l = rs) (hBw : B ≤ w.heap.size)
    (hb : Bal l (fun j => us.getD j 0) hs) (hu : ∀ j, 0 ≤ us.getD j 0) {k : Nat} (hk : k < l.length) (hb0 : 0 ≤ baseOf rs l[k]) (hb1 : baseOf rs l[k] ≤ 1099511627776) (want d : Int) (h1 : 0 ≤ want) (h2 : want ≤ 1099511627776)
    (hd : d = (roundOf (baseOf rs l[k] * l[k].mul) want).1) (l' : List Clk) (hl' : l' = l.set k { l[k] with div := d }) (hg' : Good l') (hfit : ∀ j, j < n → fitsAt l' j = true) :
    Calls Try.prog 37 #[.pointer (some ⟨rb, 0, none⟩), .int .i64 k, .int .i64 want] w (RSays w B rb n Au cu l' us rs hs) := by
  refine rset_via h hg hn5 hrs hk hb0 hb1 want d h1 h2 hd l' hl' _ fun w4 g c3 hb4 hrow hg1 => ?_
  refine (rchange_any (c' := c3) (h.below hb4) hg hg' (by rw [hl', List.length_set]; exact h.len) hn5 hrs hb hu (hrow.vec (by omega)) hfit).mono ?_
  rintro e w' (⟨hx, rfl, hbx⟩ | ⟨hx, A, c, rfl, ho, hn, hf⟩)
  · exact ⟨_, _, _, _, rfl, .inl ⟨hx, rfl, below_next hb4 hbx⟩⟩
  · exact ⟨_, _, _, _, rfl, .inr ⟨hx, A, c, _, _, rfl, own_base ho hb4.size, hn, (Frame.of_below hb4).next hf (fun _ _ x => x)⟩⟩
end Go.Proofs.Ytbahclnpgdejlaa
