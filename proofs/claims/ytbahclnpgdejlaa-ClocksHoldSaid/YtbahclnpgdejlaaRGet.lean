/- The document's Get and Put: the contracts. -/
import Derived.Test.YtbahclnpgdejlaaRNew
set_option linter.unusedVariables false
namespace Go.Proofs.Ytbahclnpgdejlaa
open Go.RowKit
theorem rnew_no (A : Option Addr) (cap : Nat) (l : List Clk) (n : Nat) (hn : n = l.length) (w : World) (B : Nat) (hB : B ≤ w.heap.size) (hs : Seg w B A (clkCells l)) (hl : n ≤ 2513169434843) (hm : mayB l = false) :
    Calls Try.prog 16 #[.slice A n cap] w fun e w' => e = .returned (.tuple #[.pointer none, .int .i64 180]) ∧ Below w.heap.size w w' := by
  have h1 := rmay_any A cap l n hn w B hB hs (by omega)
  rw [hm] at h1
  have H1 := Lib.hid h1
  clear h1 hm hn hs
  go_enter Try.func16, Try.ntmps16
  go_wp2_with (go_at_call 32; refine H1.out.mono ?_; rintro e w1 ⟨rfl, hb1⟩; have HB1 := Lib.hid hb1; clear hb1)
  go_ret2
  exact ⟨rfl, HB1.out⟩
theorem rnew_out (A : Option Addr) (cap : Nat) (l : List Clk) (n : Nat) (hn : n = l.length) (w : World) (B : Nat) (hB : B ≤ w.heap.size) (hs : Seg w B A (clkCells l)) (hl : n ≤ 2513169434843) (hm : mayB l = true) (hf : ∃ j, j < n ∧ fitsAt l j = false) :
    Calls Try.prog 16 #[.slice A n cap] w fun e w' => e = .returned (.tuple #[.pointer none, .int .i64 181]) ∧ Below w.heap.size w w' := by
  have hgood : Good l := (mayB_iff.1 hm).2
  have h1 := rmay_any A cap l n hn w B hB hs (by omega)
  rw [hm] at h1
  have h2 := fun w1 (hb : Below w.heap.size w w1) => rates_any A cap l n hn hgood w1 B (Nat.le_trans hB hb.size) (hs.below (hb.mono hB)) hl
  have hok : capOk l n = false := by
    rcases h : capOk l n with _ | _
    · rfl
    · obtain ⟨j, hj, hx⟩ := hf
      have := (cap_all hgood l.length (Nat.le_refl _)).1 (fun j hj => by simp only [capOk, List.all_eq_true] at h; exact h j (by simpa [hn] using hj)) j (by omega)
      rw [hx] at this
      cases this
  rw [hok] at h2
  have H1 := Lib.hid h1
  have H2 := Lib.hid h2
  clear h1 h2 hok hm hn hs hf hgood
  go_enter Try.func16, Try.ntmps16
  go_wp2_with (first
    | (go_at_call 32; refine H1.out.mono ?_; rintro e w1 ⟨rfl, hb1⟩; have HB1 := Lib.hid hb1; clear hb1)
    | (go_at_call 33; refine (H2.out _ HB1.out).mono ?_; rintro e w2 ⟨A2, c2, rfl, _, hb2⟩; have HB2 := Lib.hid (HB1.out.trans (hb2.mono HB1.out.size)); clear hb2))
  go_ret2
  exact ⟨rfl, HB2.out⟩
/-- A net of the document's whose users alone are others. -/
theorem rnet_user {w w' : World} {B rb n gu : Nat} {Al : Option Addr} {cl cu : Nat} {l : List Clk} {us us' : List Int} (h : RNet w B rb n Al (some ⟨gu, 0, none⟩) cl cu l us) (hn : 0 < n)
    (hf : Frame (fun k => k = gu) w w') (hr : RowAt w' gu 3 (i64s us')) (hl : n = us'.length) : RNet w' B rb n Al (some ⟨gu, 0, none⟩) cl cu l us' := by
  obtain ⟨g, e, hB, hrow⟩ := h.row_u hn
  injection e with e
  injection e with e
  subst e
  have hnb : rb ≠ gu := by
    rintro rfl
    obtain ⟨cur, hc, _⟩ := hrow
    rw [h.box] at hc
    injection hc with hc
    injection hc with _ ht
    exact absurd ht (by decide)
  refine ⟨h.low, h.len, hl, (hf.heap h.lt hnb).trans h.box, fun hx => ?_, hr.vec hB⟩
  obtain ⟨g, ha, hb, hrg⟩ := h.vl hx
  exact ⟨g, ha, hb, hrg.frame hf (hrg.ne_type hrow (by decide))⟩
def usOn (us : List Int) : Nat → Int := fun j => us.getD j 0
theorem rget_no {w : World} {B rb n : Nat} {Al Au : Option Addr} {cl cu : Nat} {l : List Clk} {us : List Int} (h : RNet w B rb n Al Au cl cu l us) (i : Int) (hi : i < 0 ∨ n ≤ i) :
    Calls Try.prog 34 #[.pointer (some ⟨rb, 0, none⟩), .int .i64 i] w fun e w' => e = .returned (.tuple #[.slice none 0 0, .int .i64 1]) ∧ w = w' := by
  have c0 := h.c0
  clear h
  go_enter Try.func34, Try.ntmps34
  go_wp2_with (go_at_call 49; refine (rthere_no _ _ _ _ _ _ c0 hi).mono ?_; rintro e w' ⟨rfl, rfl⟩)
  go_ret2
  exact ⟨rfl, rfl⟩
theorem rput_no {w : World} {B rb n : Nat} {Al Au : Option Addr} {cl cu : Nat} {l : List Clk} {us : List Int} (h : RNet w B rb n Al Au cl cu l us) (i : Int) (hi : i < 0 ∨ n ≤ i) :
    Calls Try.prog 36 #[.pointer (some ⟨rb, 0, none⟩), .int .i64 i] w fun e w' => e = .returned (.tuple #[.slice none 0 0, .int .i64 1]) ∧ w = w' := by
  have c0 := h.c0
  clear h
  go_enter Try.func36, Try.ntmps36
  go_wp2_with (go_at_call 49; refine (rthere_no _ _ _ _ _ _ c0 hi).mono ?_; rintro e w' ⟨rfl, rfl⟩)
  go_ret2
  exact ⟨rfl, rfl⟩
section
variable {w : World} {B rb n gu : Nat} {Al : Option Addr} {cl cu : Nat} {l : List Clk} {us : List Int}
theorem rget_full (h : RNet w B rb n Al (some ⟨gu, 0, none⟩) cl cu l us) {k : Nat} (hk : k < n) (hu : 65535 ≤ us.getD k 0) :
    Calls Try.prog 34 #[.pointer (some ⟨rb, 0, none⟩), .int .i64 k] w fun e w' => e = .returned (.tuple #[.slice none 0 0, .int .i64 3]) ∧ w = w' := by
  obtain ⟨g, e, hB, hrow⟩ := h.row_u (by omega)
  injection e with e
  injection e with e
  subst e
  have c0 := h.c0
  have c1 := h.c1
  have hcl := hrow.cell (k := k) (by rw [i64s_len, ← h.lenu]; exact hk)
  rw [i64s_get _ _ (by rw [← h.lenu]; exact hk)] at hcl
  have hki : (k : Int) < (n : Int) := by omega
  generalize us.getD k 0 = z at *
  clear hrow h
  go_enter Try.func34, Try.ntmps34
  go_wp2_with (go_at_call 49; refine (rthere_yes _ _ _ _ _ _ c0 (by omega) (by omega)).mono ?_; rintro e w' ⟨rfl, rfl⟩)
  go_ret2
  exact ⟨rfl, rfl⟩
theorem rput_none (h : RNet w B rb n Al (some ⟨gu, 0, none⟩) cl cu l us) {k : Nat} (hk : k < n) (hu : us.getD k 0 = 0) :
    Calls Try.prog 36 #[.pointer (some ⟨rb, 0, none⟩), .int .i64 k] w fun e w' => e = .returned (.tuple #[.slice none 0 0, .int .i64 6]) ∧ w = w' := by
  obtain ⟨g, e, hB, hrow⟩ := h.row_u (by omega)
  injection e with e
  injection e with e
  subst e
  have c0 := h.c0
  have c1 := h.c1
  have hcl := hrow.cell (k := k) (by rw [i64s_len, ← h.lenu]; exact hk)
  rw [i64s_get _ _ (by rw [← h.lenu]; exact hk), hu] at hcl
  have hki : (k : Int) < (n : Int) := by omega
  clear hrow h hu
  go_enter Try.func36, Try.ntmps36
  go_wp2_with (go_at_call 49; refine (rthere_yes _ _ _ _ _ _ c0 (by omega) (by omega)).mono ?_; rintro e w' ⟨rfl, rfl⟩)
  go_ret2
  exact ⟨rfl, rfl⟩
set_option maxRecDepth 100000 in
set_option maxHeartbeats 2000000 in
theorem rget_ok (h : RNet w B rb n Al (some ⟨gu, 0, none⟩) cl cu l us) (hg : Good l) (hn5 : n ≤ 512) {k : Nat} (hk : k < n) (hu : us.getD k 0 < 65535) {hs hs' : List Int} (hb : Bal l (fun j => us.getD j 0) hs) (hup : ∀ j, 0 ≤ us.getD j 0)
    (hb' : Bal l (fun j => (us.set k (us.getD k 0 + 1)).getD j 0) hs') :
    Calls Try.prog 34 #[.pointer (some ⟨rb, 0, none⟩), .int .i64 k] w fun e w' => ∃ A c, e = .returned (.tuple #[.slice A (refTurns (onL l hs 0) (onL l hs' 0) n).length c, .int .i64 0]) ∧
      w'.ownsRow w.heap.size 109 2 (.slice A (refTurns (onL l hs 0) (onL l hs' 0) n).length c) (refTurns (onL l hs 0) (onL l hs' 0) n).length (turnCells (refTurns (onL l hs 0) (onL l hs' 0) n)) ∧
      RNet w' B rb n Al (some ⟨gu, 0, none⟩) cl cu l (us.set k (us.getD k 0 + 1)) ∧ Frame (fun j => j = gu) w w' := by
  obtain ⟨g, e, hB, hrow⟩ := h.row_u (by omega)
  injection e with e
  injection e with e
  subst e
  have hlen := h.len
  have hlenu := h.lenu
  have hz := hup k
  have hset : ∀ j, 0 ≤ (us.set k (us.getD k 0 + 1)).getD j 0 := fun j => by
    rw [getD_set _ _ _ _ (by omega)]
    split
    · omega
    · exact hup j
  have hgl := hrow.lt
  have hrl := h.lt
  have c0 := h.c0
  have c1 := h.c1
  have hcl := hrow.cell (k := k) (by rw [i64s_len, ← h.lenu]; exact hk)
  rw [i64s_get _ _ (by rw [← h.lenu]; exact hk)] at hcl
  have hfz := hrow.frozen k
  have hki : (k : Int) < (n : Int) := by omega
  obtain ⟨us', hus'⟩ : ∃ us', us' = us.set k (us.getD k 0 + 1) := ⟨_, rfl⟩
  rw [← hus'] at hb' hset ⊢
  have hon1 := ron_any h hg hn5 hb hup
  have hstep := fun w1 (hbw : Below w.heap.size w w1) => (show RNet (w1.setCell ⟨gu, k, none⟩ (.int .i64 (us.getD k 0 + 1))) B rb n Al (some ⟨gu, 0, none⟩) cl cu l us' from
    rnet_user (h.below hbw) (by omega) ((Frame.refl (fun j => j = gu) _).setCell (p := ⟨gu, k, none⟩) (fun _ => rfl) _) (by
      have := (hrow.below hbw).store k (.int .i64 (us.getD k 0 + 1))
      rw [i64s_set, ← hus'] at this
      exact this) (by rw [hus', List.length_set]; exact hlenu))
  have hon2 := fun w1 (hbw : Below w.heap.size w w1) => ron_any (hstep w1 hbw) hg hn5 hb' hset
  have hln := onL_len l hs 0
  have hln' := onL_len l hs' 0
  have H1 := Lib.hid hon1
  have H2 := Lib.hid hon2
  have HS := Lib.hid hstep
  have HL := Lib.hid hlen
  have HLN := Lib.hid hln
  have HLN' := Lib.hid hln'
  generalize us.getD k 0 = z at *
  clear hon1 hon2 hstep hrow h hb hb' hset hup hg hlen hlenu hus' hln hln'
  have ne1 : rb ≠ w.heap.size := by omega
  go_enter Try.func34, Try.ntmps34
  go_wp2_with (first
    | (go_at_call 49; refine (rthere_yes _ _ _ _ _ _ c0 (by omega) (by omega)).mono ?_; rintro e w' ⟨rfl, rfl⟩)
    | (go_at_call 42; refine H1.out.mono ?_; rintro e w1 ⟨rfl, hrow1, hb1⟩; have k0 := (hb1.cell (p := ⟨rb, 0, none⟩) hrl).trans c0; have k1 := (hb1.cell (p := ⟨rb, 1, none⟩) hrl).trans c1; have k2 := (hb1.cell (p := ⟨gu, k, none⟩) hgl).trans hcl; have k3 := (hb1.frozen (p := ⟨gu, k, none⟩) hgl).trans hfz; have HB1 := Lib.hid hb1; have HR1 := Lib.hid hrow1; clear hb1 hrow1 H1)
    | (go_at_call 42
       refine (H2.out _ HB1.out).mono ?_
       rintro e w2 ⟨rfl, hrow2, hb2⟩
       have hsz : ∀ v, (w1.setCell ⟨gu, k, none⟩ v).heap.size = w1.heap.size := fun v => by simp
       rw [hsz] at hrow2 hb2 ⊢
       have hrow1 : RowAt w2 w.heap.size 4 (bools (onL l hs 0)) := (HR1.out.keep (Below.heap_setCell _ ⟨gu, k, none⟩ _ _ (by show w.heap.size ≠ gu; omega))).keep (hb2.block _ HR1.out.lt)
       have HF := Lib.hid (((Frame.of_below (S := fun j => j = gu) HB1.out).setCell (p := ⟨gu, k, none⟩) (fun _ => rfl) _).below (by rw [hsz]; exact hb2))
       have HRN := Lib.hid ((HS.out w1 HB1.out).below (by rw [hsz]; exact hb2))
       have HRA := Lib.hid hrow1
       have HRB := Lib.hid hrow2
       have hsz2 : w.heap.size ≤ w2.heap.size := by have h3 := hb2.size; rw [hsz] at h3; exact Nat.le_trans HB1.out.size h3
       clear hrow1 hrow2 hb2 hsz)
    | (go_at_call 50; refine (rturns_any _ _ n (onL l hs 0) (onL l hs' 0) (by rw [HLN.out, HL.out]) (by rw [HLN'.out, HL.out]) hn5 _ HRA.out HRB.out).mono ?_; rintro e w3 ⟨A, c, rfl, hown, hb3⟩; have HO := Lib.hid hown; have HB3 := Lib.hid hb3; clear hown hb3))
  go_ret2
  exact ⟨A, c, rfl, own_base HO.out hsz2, HRN.out.below HB3.out, HF.out.below HB3.out⟩
set_option maxRecDepth 100000 in
set_option maxHeartbeats 2000000 in
theorem rput_ok (h : RNet w B rb n Al (some ⟨gu, 0, none⟩) cl cu l us) (hg : Good l) (hn5 : n ≤ 512) {k : Nat} (hk : k < n) (hu : 0 < us.getD k 0) (hu2 : us.getD k 0 ≤ 65535) {hs hs' : List Int} (hb : Bal l (fun j => us.getD j 0) hs) (hup : ∀ j, 0 ≤ us.getD j 0)
    (hb' : Bal l (fun j => (us.set k (us.getD k 0 - 1)).getD j 0) hs') :
    Calls Try.prog 36 #[.pointer (some ⟨rb, 0, none⟩), .int .i64 k] w fun e w' => ∃ A c, e = .returned (.tuple #[.slice A (refTurns (onL l hs 0) (onL l hs' 0) n).length c, .int .i64 0]) ∧
      w'.ownsRow w.heap.size 109 2 (.slice A (refTurns (onL l hs 0) (onL l hs' 0) n).length c) (refTurns (onL l hs 0) (onL l hs' 0) n).length (turnCells (refTurns (onL l hs 0) (onL l hs' 0) n)) ∧
      RNet w' B rb n Al (some ⟨gu, 0, none⟩) cl cu l (us.set k (us.getD k 0 - 1)) ∧ Frame (fun j => j = gu) w w' := by
  obtain ⟨g, e, hB, hrow⟩ := h.row_u (by omega)
  injection e with e
  injection e with e
  subst e
  have hlen := h.len
  have hlenu := h.lenu
  have hz := hup k
  have hzn : (us.getD k 0 == 0) = false := by simp only [beq_eq_false_iff_ne]; omega
  have hset : ∀ j, 0 ≤ (us.set k (us.getD k 0 - 1)).getD j 0 := fun j => by
    rw [getD_set _ _ _ _ (by omega)]
    split
    · omega
    · exact hup j
  have hgl := hrow.lt
  have hrl := h.lt
  have c0 := h.c0
  have c1 := h.c1
  have hcl := hrow.cell (k := k) (by rw [i64s_len, ← h.lenu]; exact hk)
  rw [i64s_get _ _ (by rw [← h.lenu]; exact hk)] at hcl
  have hfz := hrow.frozen k
  have hki : (k : Int) < (n : Int) := by omega
  obtain ⟨us', hus'⟩ : ∃ us', us' = us.set k (us.getD k 0 - 1) := ⟨_, rfl⟩
  rw [← hus'] at hb' hset ⊢
  have hon1 := ron_any h hg hn5 hb hup
  have hstep := fun w1 (hbw : Below w.heap.size w w1) => (show RNet (w1.setCell ⟨gu, k, none⟩ (.int .i64 (us.getD k 0 - 1))) B rb n Al (some ⟨gu, 0, none⟩) cl cu l us' from
    rnet_user (h.below hbw) (by omega) ((Frame.refl (fun j => j = gu) _).setCell (p := ⟨gu, k, none⟩) (fun _ => rfl) _) (by
      have := (hrow.below hbw).store k (.int .i64 (us.getD k 0 - 1))
      rw [i64s_set, ← hus'] at this
      exact this) (by rw [hus', List.length_set]; exact hlenu))
  have hon2 := fun w1 (hbw : Below w.heap.size w w1) => ron_any (hstep w1 hbw) hg hn5 hb' hset
  have hln := onL_len l hs 0
  have hln' := onL_len l hs' 0
  have H1 := Lib.hid hon1
  have H2 := Lib.hid hon2
  have HS := Lib.hid hstep
  have HL := Lib.hid hlen
  have HLN := Lib.hid hln
  have HLN' := Lib.hid hln'
  generalize us.getD k 0 = z at *
  clear hon1 hon2 hstep hrow h hb hb' hset hup hg hlen hlenu hus' hln hln'
  have ne1 : rb ≠ w.heap.size := by omega
  go_enter Try.func36, Try.ntmps36
  go_wp2_with (first
    | (go_at_call 49; refine (rthere_yes _ _ _ _ _ _ c0 (by omega) (by omega)).mono ?_; rintro e w' ⟨rfl, rfl⟩)
    | (go_at_call 42; refine H1.out.mono ?_; rintro e w1 ⟨rfl, hrow1, hb1⟩; have k0 := (hb1.cell (p := ⟨rb, 0, none⟩) hrl).trans c0; have k1 := (hb1.cell (p := ⟨rb, 1, none⟩) hrl).trans c1; have k2 := (hb1.cell (p := ⟨gu, k, none⟩) hgl).trans hcl; have k3 := (hb1.frozen (p := ⟨gu, k, none⟩) hgl).trans hfz; have HB1 := Lib.hid hb1; have HR1 := Lib.hid hrow1; clear hb1 hrow1 H1)
    | (go_at_call 42
       refine (H2.out _ HB1.out).mono ?_
       rintro e w2 ⟨rfl, hrow2, hb2⟩
       have hsz : ∀ v, (w1.setCell ⟨gu, k, none⟩ v).heap.size = w1.heap.size := fun v => by simp
       rw [hsz] at hrow2 hb2 ⊢
       have hrow1 : RowAt w2 w.heap.size 4 (bools (onL l hs 0)) := (HR1.out.keep (Below.heap_setCell _ ⟨gu, k, none⟩ _ _ (by show w.heap.size ≠ gu; omega))).keep (hb2.block _ HR1.out.lt)
       have HF := Lib.hid (((Frame.of_below (S := fun j => j = gu) HB1.out).setCell (p := ⟨gu, k, none⟩) (fun _ => rfl) _).below (by rw [hsz]; exact hb2))
       have HRN := Lib.hid ((HS.out w1 HB1.out).below (by rw [hsz]; exact hb2))
       have HRA := Lib.hid hrow1
       have HRB := Lib.hid hrow2
       have hsz2 : w.heap.size ≤ w2.heap.size := by have h3 := hb2.size; rw [hsz] at h3; exact Nat.le_trans HB1.out.size h3
       clear hrow1 hrow2 hb2 hsz)
    | (go_at_call 50; refine (rturns_any _ _ n (onL l hs 0) (onL l hs' 0) (by rw [HLN.out, HL.out]) (by rw [HLN'.out, HL.out]) hn5 _ HRA.out HRB.out).mono ?_; rintro e w3 ⟨A, c, rfl, hown, hb3⟩; have HO := Lib.hid hown; have HB3 := Lib.hid hb3; clear hown hb3))
  go_ret2
  exact ⟨A, c, rfl, own_base HO.out hsz2, HRN.out.below HB3.out, HF.out.below HB3.out⟩
end
end Go.Proofs.Ytbahclnpgdejlaa
