/- The document's Move: the contract. -/
import Derived.Test.YtbahclnpgdejlaaRSet
set_option linter.unusedVariables false
namespace Go.Proofs.Ytbahclnpgdejlaa
open Go.RowKit
theorem rmove_no {w : World} {B rb n : Nat} {Al Au : Option Addr} {cl cu : Nat} {l : List Clk} {us : List Int} (h : RNet w B rb n Al Au cl cu l us) (i frm : Int) (hi : i < 0 ∨ n ≤ i ∨ frm < 0 ∨ i ≤ frm ∨ frmAt l i < 0) :
    Calls Try.prog 40 #[.pointer (some ⟨rb, 0, none⟩), .int .i64 i, .int .i64 frm] w fun e w' => e = .returned (.tuple #[.slice none 0 0, .slice none 0 0, .int .i64 1]) ∧ w = w' := by
  have c0 := h.c0
  by_cases h1 : i < 0 ∨ n ≤ i
  · clear hi h
    go_enter Try.func40, Try.ntmps40
    go_wp2_with (go_at_call 49; refine (rthere_no _ _ _ _ _ _ c0 h1).mono ?_; rintro e w' ⟨rfl, rfl⟩)
    go_ret3
    exact ⟨rfl, rfl⟩
  · obtain ⟨k, rfl⟩ := Int.eq_ofNat_of_zero_le (show 0 ≤ i by omega)
    have hkn : k < n := by omega
    have hkl : k < l.length := by rw [← h.len]; exact hkn
    have hki : (k : Int) < (n : Int) := by omega
    obtain ⟨gl, rfl, _, hrl⟩ := h.row_l (by omega)
    have cf := hrl.cell (k := k * 7) (by rw [clkCells, flat_length _ 7 clk_len]; omega)
    rw [clkCells, show k * 7 = k * 7 + 0 from rfl, flat_get _ 7 clk_len l k 0 hkl (by omega), show (Clk.cells l[k])[0]? = some (.int .i64 l[k].frm) from rfl, Nat.add_zero] at cf
    have hF : frmAt l k = l[k].frm := by simp [frmAt, hkl]
    rw [← hF] at cf
    clear hF hrl h
    generalize frmAt l k = F at *
    rcases (show frm < 0 ∨ (0 ≤ frm ∧ (k : Int) ≤ frm) ∨ (0 ≤ frm ∧ frm < k ∧ F < 0) by omega) with h2 | ⟨h2, h3⟩ | ⟨h2, h3, h4⟩
    all_goals
      clear h1 hi
      go_enter Try.func40, Try.ntmps40
      go_wp2_with (go_at_call 49; refine (rthere_yes _ _ _ _ _ _ c0 (by omega) (by omega)).mono ?_; rintro e w' ⟨rfl, rfl⟩)
      go_ret3
      exact ⟨rfl, rfl⟩
/-- What the document's Move answers behind its change. -/
def MSays (w : World) (B rb n : Nat) (Au : Option Addr) (cu : Nat) (l' : List Clk) (us rs hs : List Int) (T : List (Int × Bool)) (e : Ending) (w' : World) : Prop :=
  ((∃ j, j < n ∧ busyAt l' rs (ratesOf l') hs j = true) ∧ e = .returned (.tuple #[.slice none 0 0, .slice none 0 0, .int .i64 182]) ∧ Below w.heap.size w w') ∨
  ((∀ j, j < n → busyAt l' rs (ratesOf l') hs j = false) ∧ ∃ A c A2 c2 A' c', e = .returned (.tuple #[.slice A (chg rs (ratesOf l') n).length c, .slice A2 T.length c2, .int .i64 0]) ∧
    w'.ownsRow w.heap.size 111 3 (.slice A (chg rs (ratesOf l') n).length c) (chg rs (ratesOf l') n).length (chgCells (chg rs (ratesOf l') n)) ∧
    w'.ownsRow w.heap.size 109 2 (.slice A2 T.length c2) T.length (turnCells T) ∧
    RNet w' B rb n A' Au c' cu l' us ∧ Frame (fun j => j = rb) w w')
theorem rchange_busy {w : World} {B rb n : Nat} {Al Au A' : Option Addr} {cl cu c' : Nat} {l l' : List Clk} {us rs hs : List Int} (h : Calls Try.prog 51 #[.pointer (some ⟨rb, 0, none⟩), .slice A' n c'] w (ChangeSays w B rb n Au A' cu c' l' us rs hs)) (hx : ∃ j, j < n ∧ busyAt l' rs (ratesOf l') hs j = true) :
    Calls Try.prog 51 #[.pointer (some ⟨rb, 0, none⟩), .slice A' n c'] w fun e w' => e = .returned (.tuple #[.slice none 0 0, .int .i64 182]) ∧ Below w.heap.size w w' := by
  refine h.mono ?_
  rintro e w' (⟨_, h1, h2⟩ | ⟨h1, _⟩)
  · exact ⟨h1, h2⟩
  · obtain ⟨j, hj, hb⟩ := hx
    have := h1 j hj
    rw [hb] at this
    cases this
theorem rchange_free {w : World} {B rb n : Nat} {Al Au A' : Option Addr} {cl cu c' : Nat} {l l' : List Clk} {us rs hs : List Int} (h : Calls Try.prog 51 #[.pointer (some ⟨rb, 0, none⟩), .slice A' n c'] w (ChangeSays w B rb n Au A' cu c' l' us rs hs)) (hx : ∀ j, j < n → busyAt l' rs (ratesOf l') hs j = false) :
    Calls Try.prog 51 #[.pointer (some ⟨rb, 0, none⟩), .slice A' n c'] w fun e w' => ∃ A c, e = .returned (.tuple #[.slice A (chg rs (ratesOf l') n).length c, .int .i64 0]) ∧
      w'.ownsRow w.heap.size 111 3 (.slice A (chg rs (ratesOf l') n).length c) (chg rs (ratesOf l') n).length (chgCells (chg rs (ratesOf l') n)) ∧
      RNet w' B rb n A' Au c' cu l' us ∧ Frame (fun j => j = rb) w w' := by
  refine h.mono ?_
  rintro e w' (⟨⟨j, hj, hb⟩, _⟩ | ⟨_, h1⟩)
  · have := hx j hj
    rw [hb] at this
    cases this
  · exact h1
theorem own_below {w w' : World} {base e size n : Nat} {v : Value} {xs : List Value} (h : w.ownsRow base e size v n xs) (hb : Below w.heap.size w w') : w'.ownsRow base e size v n xs := by
  refine ⟨h.1, ?_⟩
  rcases h.2 with h2 | ⟨g, cap, cur, a1, a2, a3, a4⟩
  · exact .inl h2
  · exact .inr ⟨g, cap, cur, a1, a2, (hb.block g (lt_of_heap a3)).trans a3, a4⟩
set_option maxRecDepth 100000 in
set_option maxHeartbeats 4000000 in
theorem rmove_any {w : World} {B rb n : Nat} {Al Au : Option Addr} {cl cu : Nat} {l l' : List Clk} {us rs hs hs' : List Int} (h : RNet w B rb n Al Au cl cu l us) (hg : Good l) (hn5 : n ≤ 512) (hrs : capRates l = rs) (hBw : B ≤ w.heap.size)
    (hb : Bal l (fun j => us.getD j 0) hs) (hu : ∀ j, 0 ≤ us.getD j 0) (k : Nat) (hk : k < l.length) (hF : 0 ≤ frmAt l k) (f : Nat) (hf : f < k) (hl' : l' = l.set k { l[k] with frm := f }) (hg' : Good l') :
    (capOk l' n = false → Calls Try.prog 40 #[.pointer (some ⟨rb, 0, none⟩), .int .i64 k, .int .i64 f] w fun e w' => e = .returned (.tuple #[.slice none 0 0, .slice none 0 0, .int .i64 181]) ∧ Below w.heap.size w w') ∧
    ((∀ j, j < n → fitsAt l' j = true) → Bal l' (fun j => us.getD j 0) hs' → Calls Try.prog 40 #[.pointer (some ⟨rb, 0, none⟩), .int .i64 k, .int .i64 f] w (MSays w B rb n Au cu l' us rs hs (refTurns (onL l hs 0) (onL l' hs' 0) n))) := by
  have hlen := h.len
  have hll : n = l'.length := by rw [hl', List.length_set]; exact hlen
  have hcell : (clkCells l).set (k * 7 + 0) (.int .i64 f) = clkCells l' := by rw [hl']; exact clk_set_cell hk (by omega) rfl
  rw [Nat.add_zero] at hcell
  have hrb := h.lt
  have hkn : k < n := by omega
  have hnp : 0 < n := by omega
  have hki : (k : Int) < (n : Int) := by omega
  have hcs : (clkCells l).length = n * 7 := by rw [clkCells, flat_length _ 7 clk_len, hlen]
  have hfr0 : (clkCells l)[k * 7]? = some (.int .i64 (frmAt l k)) := by rw [clkCells, show k * 7 = k * 7 + 0 from rfl, flat_get _ 7 clk_len l k 0 hk (by omega)]; simp [frmAt, hk, Clk.cells]
  have c0 := h.c0
  obtain ⟨gl, rfl, _, hrl⟩ := h.row_l hnp
  have cf := hrl.cell (k := k * 7) (by rw [hcs]; omega)
  rw [hfr0] at cf
  have hon := fun w1 (hbw : Below w.heap.size w w1) => ron_any (h.below hbw) hg hn5 hb hu
  have hbad := fun w1 A' c' (hb1 : Below w.heap.size w w1) (hs : Seg w1 w1.heap.size A' (clkCells l')) (hb : capOk l' n = false) => rchange_rate (c' := c') (h.below hb1) hg hg' hll hn5 hs hb
  have hgood := fun w1 A' c' (hb1 : Below w.heap.size w w1) (hv : Vec w1 B A' 81 (clkCells l')) (hf : ∀ j, j < n → fitsAt l' j = true) => rchange_any (c' := c') (h.below hb1) hg hg' hll hn5 hrs hb hu hv hf
  have hseg := h.vl.seg
  have hfki : (f : Int) < (k : Int) := by omega
  have HC := Lib.hid hcell
  have HCS := Lib.hid hcs
  have HDV := Lib.hid hfr0
  have HB := Lib.hid hbad
  have HG := Lib.hid hgood
  have HS := Lib.hid hseg
  have HON := Lib.hid hon
  have M1 := Lib.hid (clk_one l)
  have HL := Lib.hid hlen
  have HLL := Lib.hid hll
  have HU := Lib.hid hu
  have HGG := Lib.hid hg'
  clear hcell hcs hfr0 hbad hgood hl' h hg hrs hb hlen hll hseg hon hrl hg' hu
  obtain ⟨i0, fi, fz0, fz1, fz2⟩ := info_parts Try.info81
  generalize hFF : frmAt l k = F at *
  clear hFF
  constructor
  · intro hbad
    have HBAD := Lib.hid hbad
    clear hbad
    go_enter Try.func40, Try.ntmps40
    go_wp2_with (first
      | (go_at_call 49; refine (rthere_yes _ _ _ _ _ _ c0 (by omega) (by omega)).mono ?_; rintro e w' ⟨rfl, rfl⟩)
      | (at_builtin; refine wpList_append_seg _ rfl (.tmp 37) (.tmp 41) 37 rfl w.heap.size 81 i0 _ 7 56 Try.underlying37 fi fz0 fz1 fz2 rfl (by decide) _ 0 [] rfl (own_empty _ _ _ _ _ rfl (Nat.le_refl _)) w.heap.size (some ⟨gl, 0, none⟩) n cl (clkCells l) rfl HCS.out ((HS.out).alloc (Nat.le_refl _) _) M1.out ?_ ?_ ?_ ?_))
    · unfold maxLen; omega
    · omega
    · simp
    intro v3 w3 hown3 hg3 _
    (try simp only [Nat.zero_add, List.nil_append] at hown3)
    obtain ⟨A3, c3, rfl⟩ := own_shape hown3
    have hb3 : Below w.heap.size w w3 := ((Below.refl _ _).alloc (Nat.le_refl _) _).grown hg3 (by simp) (fun g hg => by simp only [Value.ownBlock, Option.some.injEq] at hg; subst hg; exact Nat.le_refl _)
    obtain ⟨g, rfl, hg1, hg2, hrow⟩ := RowAt.of_own hown3 hnp
    have hfz := hrow.frozen (k * 7)
    have hcl := hrow.cell (k := k * 7) (by rw [HCS.out]; omega)
    rw [HDV.out] at hcl
    have hst := hrow.store (k * 7) (.int .i64 f)
    rw [HC.out] at hst
    have hb4 := hb3.setCell (p := ⟨g, k * 7, none⟩) hg1 (.int .i64 f)
    have HST := Lib.hid hst
    have HB4 := Lib.hid hb4
    have hx := HON.out _ HB4.out
    have HX := Lib.hid hx
    clear hx hown3 hg3 hb3 hst hb4 hrow
    go_wp2_with (first
      | (go_at_call 42; (refine HX.out.mono ?_; rintro e w5 ⟨rfl, hrow5, hb5⟩; have HB5 := Lib.hid hb5; have hs5 := HB.out w5 (some ⟨g, 0, none⟩) c3 (below_next HB4.out HB5.out) ((HST.out.below HB5.out).seg (HST.out.below HB5.out).lt) HBAD.out; have HX5 := Lib.hid hs5; clear hb5 hs5 hrow5))
      | (go_at_call 51; (refine HX5.out.mono ?_; rintro e w6 ⟨rfl, hb6⟩; have HB6 := Lib.hid hb6; clear hb6)))
    go_ret3
    exact ⟨rfl, below_next (below_next HB4.out HB5.out) HB6.out⟩
  · intro hfit hbal
    have hog := fun w2 => HG.out w2
    have HFIT := Lib.hid hfit
    have HBAL := Lib.hid hbal
    clear hfit hbal hog
    rcases (show (∃ j, j < n ∧ busyAt l' rs (ratesOf l') hs j = true) ∨ ∀ j, j < n → busyAt l' rs (ratesOf l') hs j = false from by
      by_cases hx : ∃ j, j < n ∧ busyAt l' rs (ratesOf l') hs j = true
      · exact .inl hx
      · exact .inr fun j hj => by
          rcases hb : busyAt l' rs (ratesOf l') hs j with _ | _
          · rfl
          · exact absurd ⟨j, hj, hb⟩ hx) with hx | hx
    · have HXX := Lib.hid hx
      clear hx
      go_enter Try.func40, Try.ntmps40
      go_wp2_with (first
        | (go_at_call 49; refine (rthere_yes _ _ _ _ _ _ c0 (by omega) (by omega)).mono ?_; rintro e w' ⟨rfl, rfl⟩)
        | (at_builtin; refine wpList_append_seg _ rfl (.tmp 37) (.tmp 41) 37 rfl w.heap.size 81 i0 _ 7 56 Try.underlying37 fi fz0 fz1 fz2 rfl (by decide) _ 0 [] rfl (own_empty _ _ _ _ _ rfl (Nat.le_refl _)) w.heap.size (some ⟨gl, 0, none⟩) n cl (clkCells l) rfl HCS.out ((HS.out).alloc (Nat.le_refl _) _) M1.out ?_ ?_ ?_ ?_))
      · unfold maxLen; omega
      · omega
      · simp
      intro v3 w3 hown3 hg3 _
      (try simp only [Nat.zero_add, List.nil_append] at hown3)
      obtain ⟨A3, c3, rfl⟩ := own_shape hown3
      have hb3 : Below w.heap.size w w3 := ((Below.refl _ _).alloc (Nat.le_refl _) _).grown hg3 (by simp) (fun g hg => by simp only [Value.ownBlock, Option.some.injEq] at hg; subst hg; exact Nat.le_refl _)
      obtain ⟨g, rfl, hg1, hg2, hrow⟩ := RowAt.of_own hown3 hnp
      have hfz := hrow.frozen (k * 7)
      have hcl := hrow.cell (k := k * 7) (by rw [HCS.out]; omega)
      rw [HDV.out] at hcl
      have hst := hrow.store (k * 7) (.int .i64 f)
      rw [HC.out] at hst
      have hb4 := hb3.setCell (p := ⟨g, k * 7, none⟩) hg1 (.int .i64 f)
      have HST := Lib.hid hst
      have HB4 := Lib.hid hb4
      have hx := HON.out _ HB4.out
      have HX := Lib.hid hx
      clear hx hown3 hg3 hb3 hst hb4 hrow
      have hsz4 : (w3.setCell ⟨g, k * 7, none⟩ (.int .i64 f)).heap.size = w3.heap.size := by simp
      have hrb4 : rb ≠ w3.heap.size := by have := HB4.out.size; omega
      have HSZ4 := Lib.hid hsz4
      clear hsz4
      have hln := onL_len l hs 0
      have hln' := onL_len l' hs' 0
      have HLN := Lib.hid hln
      have HLN' := Lib.hid hln'
      clear hln hln'
      go_wp2_with (first
        | (go_at_call 42
           refine HX.out.mono ?_
           rintro e w5 ⟨rfl, hrow5, hb5⟩
           have HB5 := Lib.hid hb5
           rw [HSZ4.out] at hrow5
           have HR5 := Lib.hid hrow5
           have hbw5 := below_next HB4.out HB5.out
           have HBW5 := Lib.hid hbw5
           have hs5 := rchange_busy (Al := some ⟨gl, 0, none⟩) (cl := cl) (l := l) (HG.out w5 (some ⟨g, 0, none⟩) c3 hbw5 ((HST.out.below HB5.out).vec (Nat.le_trans hBw hg1)) HFIT.out) HXX.out
           have HX5 := Lib.hid hs5
           clear hb5 hs5 hrow5 hbw5 HX)
        | (go_at_call 51
           refine HX5.out.mono ?_
           rintro e w6 ⟨rfl, hb6⟩
           have HB6 := Lib.hid hb6
           clear hb6))
      go_ret3
      exact .inl ⟨HXX.out, rfl, below_next HBW5.out HB6.out⟩
    · have HXX := Lib.hid hx
      clear hx
      go_enter Try.func40, Try.ntmps40
      go_wp2_with (first
        | (go_at_call 49; refine (rthere_yes _ _ _ _ _ _ c0 (by omega) (by omega)).mono ?_; rintro e w' ⟨rfl, rfl⟩)
        | (at_builtin; refine wpList_append_seg _ rfl (.tmp 37) (.tmp 41) 37 rfl w.heap.size 81 i0 _ 7 56 Try.underlying37 fi fz0 fz1 fz2 rfl (by decide) _ 0 [] rfl (own_empty _ _ _ _ _ rfl (Nat.le_refl _)) w.heap.size (some ⟨gl, 0, none⟩) n cl (clkCells l) rfl HCS.out ((HS.out).alloc (Nat.le_refl _) _) M1.out ?_ ?_ ?_ ?_))
      · unfold maxLen; omega
      · omega
      · simp
      intro v3 w3 hown3 hg3 _
      (try simp only [Nat.zero_add, List.nil_append] at hown3)
      obtain ⟨A3, c3, rfl⟩ := own_shape hown3
      have hb3 : Below w.heap.size w w3 := ((Below.refl _ _).alloc (Nat.le_refl _) _).grown hg3 (by simp) (fun g hg => by simp only [Value.ownBlock, Option.some.injEq] at hg; subst hg; exact Nat.le_refl _)
      obtain ⟨g, rfl, hg1, hg2, hrow⟩ := RowAt.of_own hown3 hnp
      have hfz := hrow.frozen (k * 7)
      have hcl := hrow.cell (k := k * 7) (by rw [HCS.out]; omega)
      rw [HDV.out] at hcl
      have hst := hrow.store (k * 7) (.int .i64 f)
      rw [HC.out] at hst
      have hb4 := hb3.setCell (p := ⟨g, k * 7, none⟩) hg1 (.int .i64 f)
      have HST := Lib.hid hst
      have HB4 := Lib.hid hb4
      have hx := HON.out _ HB4.out
      have HX := Lib.hid hx
      clear hx hown3 hg3 hb3 hst hb4 hrow
      have hsz4 : (w3.setCell ⟨g, k * 7, none⟩ (.int .i64 f)).heap.size = w3.heap.size := by simp
      have hrb4 : rb ≠ w3.heap.size := by have := HB4.out.size; omega
      have HSZ4 := Lib.hid hsz4
      clear hsz4
      have hln := onL_len l hs 0
      have hln' := onL_len l' hs' 0
      have HLN := Lib.hid hln
      have HLN' := Lib.hid hln'
      clear hln hln'
      go_wp2_with (first
        | (go_at_call 42
           refine HX.out.mono ?_
           rintro e w5 ⟨rfl, hrow5, hb5⟩
           have HB5 := Lib.hid hb5
           rw [HSZ4.out] at hrow5
           have HR5 := Lib.hid hrow5
           have hbw5 := below_next HB4.out HB5.out
           have HBW5 := Lib.hid hbw5
           have hs5 := rchange_free (Al := some ⟨gl, 0, none⟩) (cl := cl) (l := l) (HG.out w5 (some ⟨g, 0, none⟩) c3 hbw5 ((HST.out.below HB5.out).vec (Nat.le_trans hBw hg1)) HFIT.out) HXX.out
           have HX5 := Lib.hid hs5
           clear hb5 hs5 hrow5 hbw5 HX)
        | (go_at_call 51
           refine HX5.out.mono ?_
           rintro e w6 ⟨A6, c6, rfl, ho6, hn6, hf6⟩
           have HO6 := Lib.hid ho6
           have HN6 := Lib.hid hn6
           have HF6 := Lib.hid hf6
           have hr6 := HR5.out.frame hf6 (fun e => hrb4 e.symm)
           have HR6 := Lib.hid hr6
           have ho2 := ron_any hn6 HGG.out hn5 HBAL.out HU.out
           have HO2 := Lib.hid ho2
           clear ho6 hn6 hf6 hr6 ho2)
        | (go_at_call 42
           refine HO2.out.mono ?_
           rintro e w7 ⟨rfl, hrow7, hb7⟩
           have HB7 := Lib.hid hb7
           have HR7 := Lib.hid hrow7
           have hr67 := HR6.out.below hb7
           have HR67 := Lib.hid hr67
           clear hb7 hrow7 hr67)
        | (go_at_call 50
           refine (rturns_any _ _ n (onL l hs 0) (onL l' hs' 0) (by rw [HLN.out, HL.out]) (by rw [HLN'.out, HLL.out]) hn5 _ HR67.out HR7.out).mono ?_
           rintro e w8 ⟨A8, c8, rfl, hown8, hb8⟩
           have HO8 := Lib.hid hown8
           have HB8 := Lib.hid hb8
           clear hown8 hb8))
      go_ret3
      have e5 := HBW5.out.size
      have e6 := HF6.out.size
      have e7 := HB7.out.size
      exact .inr ⟨HXX.out, A6, c6, A8, c8, _, _, rfl, own_base (own_below (own_below HO6.out HB7.out) HB8.out) e5, own_base HO8.out (by omega), (HN6.out.below HB7.out).below HB8.out, (((Frame.of_below HBW5.out).next HF6.out (fun _ _ x => x)).below HB7.out).below HB8.out⟩
end Go.Proofs.Ytbahclnpgdejlaa
