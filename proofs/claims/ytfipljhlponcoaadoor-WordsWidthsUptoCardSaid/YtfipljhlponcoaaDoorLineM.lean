/- The walk of WordsLines. -/
import Derived.Test.YtfipljhlponcoaaDoorLineG
import Derived.Test.YtfipljhlponcoaaDoorColW
set_option linter.unusedVariables false
namespace Go.Proofs.YtfipljhlponcoaaDoor
open Go.RowKit
def errL (R : Option (List (List Nat))) : Int := if R.isSome then 0 else 4
theorem FRet.any {base : Nat} {R : Option (List (List Nat))} {e : Ending} {w' : World} (h : FRet base R e w') : ∃ A c ts, e = .returned (.tuple #[.slice A ts.length c, .int .i64 (errL R)]) ∧ w'.ownsRow base 9 1 (.slice A ts.length c) ts.length (sV ts) ∧ ts.map nl = R.getD [] := by
  cases R with
  | none => exact ⟨none, 0, [], h, World.ownsRow_nil _ _ _ _, rfl⟩
  | some ls => exact h
theorem rfF_count : ∀ (f : Nat) (l : List Nat), (rfF f l).length ≤ l.length
  | 0, l => by simp [rfF]
  | f + 1, l => by
    unfold rfF
    split
    · simp
    · rename_i h
      have := rfF_count f (l.drop ((rword l).2 + 1))
      have h0 : 0 < l.length := List.length_pos_iff.2 h
      rw [List.length_drop] at this
      simp only [List.length_cons]
      omega
theorem fld_count (l : List Nat) : ((fldN l).getD []).length ≤ l.length := by
  unfold fldN
  split
  · exact rfF_count _ l
  · simp
theorem flat_set {ts : List ByteArray} : ∀ {i : Nat} (h : i < ts.length) (t : ByteArray), ((ts.set i t).map nl).flatten.length + ts[i].size = (ts.map nl).flatten.length + t.size := by
  induction ts with
  | nil => intro i h; simp at h
  | cons a r ih =>
    intro i h t
    cases i with
    | zero => simp [nl_len]; omega
    | succ i =>
      have := ih (i := i) (by simpa using h) t
      simp only [List.set_cons_succ, List.map_cons, List.flatten_cons, List.length_append, List.getElem_cons_succ]
      omega
/-- The list when i of its texts have a space behind. -/
structure LM (ts : List ByteArray) (i : Nat) (ls : List ByteArray) : Prop where
  len : ls.length = ts.length
  one : ∀ t ∈ ls, t.size ≤ 1048576
  all : (ls.map nl).flatten.length + (ts.length - i) = (ts.map nl).flatten.length + ts.length
  rest : ∀ j (h : j < ls.length) (h' : j < ts.length), i ≤ j → ls[j] = ts[j]
theorem LM.step {ts ls : List ByteArray} {i : Nat} (h : LM ts i ls) (hi : i < ts.length) (h1 : ∀ t ∈ ts, t.size ≤ 1048575) : LM ts (i + 1) (ls.set i (ts[i] ++ ⟨#[32]⟩)) := by
  have hl : i < ls.length := by rw [h.len]; exact hi
  have hs : (ts[i] ++ (⟨#[32]⟩ : ByteArray)).size = ts[i].size + 1 := by rw [ByteArray.size_append]; rfl
  refine ⟨by rw [List.length_set, h.len], fun t ht => ?_, ?_, fun j hj hj' hij => ?_⟩
  · rcases List.mem_or_eq_of_mem_set ht with ht | rfl
    · exact h.one t ht
    · have := h1 ts[i] (List.getElem_mem hi)
      omega
  · have := flat_set hl (ts[i] ++ ⟨#[32]⟩)
    have h2 := h.all
    rw [h.rest i hl hi (Nat.le_refl _), hs] at this
    omega
  · rw [List.getElem_set_ne (by omega)]
    exact h.rest j (by rw [List.length_set] at hj; exact hj) hj' (by omega)
theorem own_strAt {w : World} {base n c : Nat} {A : Option Addr} {ls : List ByteArray} (h : w.ownsRow base 9 1 (.slice A n c) n (sV ls)) (hn : n = ls.length) {i : Nat} (hi : i < ls.length) :
    ∃ g, A = some ⟨g, 0, none⟩ ∧ base ≤ g ∧ g < w.heap.size ∧ w.cell? ⟨g, i, none⟩ = some (.string ls[i]) ∧ w.frozen? ⟨g, i, none⟩ = false ∧ ∀ t : ByteArray, (w.setCell ⟨g, i, none⟩ (.string t)).ownsRow base 9 1 (.slice A n c) n (sV (ls.set i t)) := by
  obtain ⟨g, rfl, h1, h2⟩ := own_head h (by omega)
  refine ⟨g, rfl, h1, h2, ?_, h.frozenAt i, fun t => ?_⟩
  · rw [h.cellAt i (by omega)]
    simp [sV, hi]
  · have := (h.stored i (.string t)).1
    have e : sV (ls.set i t) = (sV ls).set i (.string t) := by simp [sV]
    rw [e]
    exact this
set_option maxRecDepth 100000 in
set_option maxHeartbeats 32000000 in
theorem lines_walk (A : Option Addr) (c n : Nat) (ts : List ByteArray) (hn : n = ts.length) (h1 : ∀ t ∈ ts, t.size ≤ 1048575) (h2 : (ts.map nl).flatten.length + ts.length ≤ 1048576) (line : ByteArray) (hl : line.size ≤ 1048575)
    (w : World) (hr : Seg w w.heap.size A (sV ts)) (he1 : ErrCell w 1) (he2 : ErrCell w 2) (hw : 2 < w.heap.size) :
    Calls Tryd.prog 5 #[.slice A n c, .string line] w fun e w' => e = .returned (.bool true) ∧ Below w.heap.size w w' := by
  obtain ⟨i0, fi, fz0, fz1, fz2⟩ := info_parts info9
  have HN := Lib.hid hn
  have H1 := Lib.hid h1
  have H2 := Lib.hid h2
  have HR := Lib.hid hr
  have HE1 := Lib.hid he1
  have HE2 := Lib.hid he2
  have HW := Lib.hid hw
  have hn2 : (n : Int) ≤ 1048576 := by omega
  have M1 := Lib.hid (show 0 + n ≤ maxLen by unfold maxLen; omega)
  have M2 := Lib.hid (show (0 + n) * 16 ≤ 140737488355328 by omega)
  have Z0 := Lib.hid (show LSz ts from ⟨fun t ht => by have := h1 t ht; omega, by omega⟩)
  have OE := Lib.hid (own_empty w w.heap.size 9 1 w.heap.size rfl (Nat.le_refl _))
  have LL := Lib.hid (show ts.length ≤ 1048576 by omega)
  clear hn h1 h2 hr he1 he2 hw
  go_enter Tryd.func5, Tryd.ntmps5
  go_wp2_with (first
    | (at_builtin; refine wpList_append_seg _ rfl (.tmp 14) (.tmp 15) 33 rfl w.heap.size 9 i0 _ 1 16 Tryd.underlying33 fi fz0 fz1 fz2 rfl (by decide) (.slice (some ⟨w.heap.size, 0, none⟩) 0 0) 0 [] rfl OE.out w.heap.size A n c (sV ts) rfl (by rw [sV_len, Nat.mul_one]; exact HN.out.symm) (HR.out.alloc (Nat.le_refl _) _) (sV_one ts) M1.out M2.out (by simp) ?_
       intro v3 w3 hown3 hg3 _
       rw [Nat.zero_add, List.nil_append] at hown3
       have hb3 : Below w.heap.size w w3 := ((Below.refl _ w).alloc (Nat.le_refl _) _).grown hg3 (by simp) (fun g hg => (OE.out.lt g hg).1)
       obtain ⟨A1, c1, rfl⟩ := own_shape hown3
       have O3 := Lib.hid hown3; have B3 := Lib.hid hb3; have hs3 := hb3.size; clear hown3 hg3 hb3)
    | fail)
  refine (pline_any A1 c1 n ts HN.out Z0.out w3 w3.heap.size (Nat.le_refl _) (own_seg O3.out)).mono ?_
  rintro e w4 ⟨t4, rfl, ht4, hb4⟩
  have O4 := Lib.hid (own_bel O3.out hb4)
  have B4 := Lib.hid (B3.out.trans (hb4.mono hs3))
  have T4 := Lib.hid ht4
  have hs4 := B4.out.size
  clear ht4 hb4
  go_wp2_with fail
  refine (rline_any A c n ts HN.out Z0.out w4 w.heap.size hs4 (HR.out.below B4.out)).mono ?_
  rintro e w5 ⟨t5, rfl, ht5, hb5⟩
  have O5 := Lib.hid (own_bel O4.out hb5)
  have B5 := Lib.hid (B4.out.trans (hb5.mono hs4))
  have hcmp : (t4.toList == t5.toList) = true := beq_iff_eq.2 (by rw [show t4 = t5 from nl_inj (by rw [T4.out, ht5])])
  have hs5 := B5.out.size
  clear ht5 hb5
  go_wp2_with fail
  have SM := same_any A1 c1 n ts HN.out A c n ts HN.out (by have := LL.out; omega) w5 w5.heap.size w.heap.size (own_seg O5.out) (HR.out.below B5.out)
  rw [same_eq rfl] at SM
  refine SM.mono ?_
  clear SM
  rintro e w6 ⟨rfl, q6, rfl⟩
  have O6 := Lib.hid (show (w5.drewN q6).ownsRow w.heap.size 9 1 (.slice A1 n c1) n (sV ts) from O5.out)
  have B6 := Lib.hid (below_drewN B5.out q6)
  generalize w5.drewN q6 = w6 at O6 B6 ⊢
  have hs6 := B6.out.size
  clear hcmp
  go_wp2_with fail
  have LM0 := Lib.hid (show LM ts 0 ts from ⟨rfl, fun t ht => by have := H1.out t ht; omega, by omega, fun _ _ _ _ => rfl⟩)
  obtain ⟨wq, hwq⟩ : ∃ wq : World, wq = w6 := ⟨_, rfl⟩
  rw [← hwq] at O6 B6 ⊢
  go_loopw [6] (fun iv wx => ∃ (i : Nat) (ls : List ByteArray), iv = .int .i64 i ∧ i ≤ n ∧ LM ts i ls ∧ wx.ownsRow w.heap.size 9 1 (.slice A1 n c1) n (sV ls) ∧ Below w.heap.size w wx) (fun iv _ => n - (intOf iv).toNat)
  case atStart => exact ⟨0, ts, rfl, by omega, LM0.out, O6.out, B6.out⟩
  case round =>
    obtain ⟨i, ls, rfl, hi, hlm, hown, hb⟩ := hrel
    have HB := Lib.hid hb
    have HO := Lib.hid hown
    have HL := Lib.hid hlm
    have hsz := hb.size
    by_cases hlt : i < n
    · have hki : (i : Int) < (n : Int) := by omega
      have hit : i < ts.length := by rw [← HN.out]; exact hlt
      have hil : i < ls.length := by rw [HL.out.len]; exact hit
      obtain ⟨g, rfl, hg1, hg2, x0, f0, hst⟩ := own_strAt hown (by rw [HL.out.len]; exact HN.out) hil
      have htz := HL.out.one ls[i] (List.getElem_mem hil)
      have hstep := HL.out.step hit H1.out
      rw [← HL.out.rest i hil hit (Nat.le_refl _)] at hstep
      obtain ⟨t, ht⟩ : ∃ t, t = ls[i] := ⟨_, rfl⟩
      rw [← ht] at x0 htz hstep
      have QP := Lib.hid fun W => pquote_any t W htz
      have QR := Lib.hid fun W => rquote_any t W htz
      have HST := Lib.hid hst
      have HSP := Lib.hid hstep
      have hlsn : ls.length = n := by rw [HL.out.len, HN.out]
      clear hown hb hlm hst hstep ht
      go_wp2_with fail
      go_region_held3 (fun W => W.cell? ⟨g, i, none⟩ = some (.string t)) (first | assumption) (first
        | (go_at_call 22; refine (QP.out _).mono ?_; rintro e v1 ⟨u1, rfl, hu1, hb1⟩
           have y1 : v1.cell? ⟨g, i, none⟩ = some (.string t) := (by first | exact (hb1.cell (p := ⟨g, i, none⟩) (Nat.lt_of_lt_of_le hg2 K2.out.size)).trans y2 | exact (hb1.cell (p := ⟨g, i, none⟩) hg2).trans x0)
           have K1 := Lib.hid (show Below wr.heap.size wr v1 from by first | exact K2.out.trans (hb1.mono K2.out.size) | exact (Below.refl _ wr).drew.trans hb1)
           have U1 := Lib.hid hu1
           try have hcmp : (u1.toList == u2.toList) = true := beq_iff_eq.2 (by rw [show u1 = u2 from nl_inj (by rw [U1.out, U2.out])])
           clear hb1 hu1)
        | (go_at_call 23; refine (QR.out _).mono ?_; rintro e v2 ⟨u2, rfl, hu2, hb2⟩
           have y2 : v2.cell? ⟨g, i, none⟩ = some (.string t) := (by first | exact (hb2.cell (p := ⟨g, i, none⟩) (Nat.lt_of_lt_of_le hg2 K1.out.size)).trans y1 | exact (hb2.cell (p := ⟨g, i, none⟩) hg2).trans x0)
           have K2 := Lib.hid (show Below wr.heap.size wr v2 from by first | exact K1.out.trans (hb2.mono K1.out.size) | exact (Below.refl _ wr).drew.trans hb2)
           have U2 := Lib.hid hu2
           try have hcmp : (u1.toList == u2.toList) = true := beq_iff_eq.2 (by rw [show u1 = u2 from nl_inj (by rw [U1.out, U2.out])])
           clear hb2 hu2)
        | fail)
      all_goals first
        | (have O7 := own_bel HO.out K1.out
           obtain ⟨g', hg', _, _, z0, zf, zst⟩ := own_strAt O7 hlsn.symm hil
           injection hg' with hg'
           injection hg' with hg'
           subst hg'
           have ZS := Lib.hid (zst (t ++ ⟨#[32]⟩))
           have KB := Lib.hid (HB.out.trans (K1.out.mono hsz))
           have ZF := zf
           clear z0 zst zf O7
           go_wp2_with fail
           exact ⟨⟨i + 1, ls.set i (t ++ ⟨#[32]⟩), by go_num, hlt, HSP.out, ZS.out, KB.out.setCell (by exact hg1) _⟩, by simp [intOf]; omega⟩)
        | (have O7 := own_bel HO.out K2.out
           obtain ⟨g', hg', _, _, z0, zf, zst⟩ := own_strAt O7 hlsn.symm hil
           injection hg' with hg'
           injection hg' with hg'
           subst hg'
           have ZS := Lib.hid (zst (t ++ ⟨#[32]⟩))
           have KB := Lib.hid (HB.out.trans (K2.out.mono hsz))
           have ZF := zf
           clear z0 zst zf O7
           go_wp2_with fail
           exact ⟨⟨i + 1, ls.set i (t ++ ⟨#[32]⟩), by go_num, hlt, HSP.out, ZS.out, KB.out.setCell (by exact hg1) _⟩, by simp [intOf]; omega⟩)
    · have hki : ¬ (i : Int) < (n : Int) := by omega
      obtain rfl : i = n := by omega
      have Z1 := Lib.hid (show LSz ls from ⟨HL.out.one, by have := HL.out.all; have := H2.out; have := HL.out.len; omega⟩)
      have HN1 := Lib.hid (show i = ls.length from by rw [HL.out.len]; exact HN.out)
      clear hown hb hlm LM0 B6 O6 O5 B5 O4 B4 O3 B3
      go_wp2_with fail
      refine (pline_any A1 c1 i ls HN1.out Z1.out wr wr.heap.size (Nat.le_refl _) (own_seg HO.out)).mono ?_
      rintro e w7 ⟨t7, rfl, ht7, hb7⟩
      have O7 := Lib.hid (own_bel HO.out hb7)
      have B7 := Lib.hid (HB.out.trans (hb7.mono hsz))
      have T7 := Lib.hid ht7
      have hs7 := B7.out.size
      have OE7 := Lib.hid (own_empty w7 w7.heap.size 9 1 w7.heap.size rfl (Nat.le_refl _))
      clear ht7 hb7
      go_wp2_with (first
        | (at_builtin; refine wpList_append_seg _ rfl (.tmp 55) (.tmp 56) 33 rfl w7.heap.size 9 i0 _ 1 16 Tryd.underlying33 fi fz0 fz1 fz2 rfl (by decide) (.slice (some ⟨w7.heap.size, 0, none⟩) 0 0) 0 [] rfl OE7.out w7.heap.size A1 i c1 (sV ls) rfl (by rw [sV_len, Nat.mul_one]; exact HN1.out.symm) ((own_seg O7.out).alloc (Nat.le_refl _) _) (sV_one ls) M1.out M2.out (by simp) ?_
           intro v8 w8 hown8 hg8 _
           rw [Nat.zero_add, List.nil_append] at hown8
           have hb8 : Below w7.heap.size w7 w8 := ((Below.refl _ w7).alloc (Nat.le_refl _) _).grown hg8 (by simp) (fun g hg => (OE7.out.lt g hg).1)
           obtain ⟨A8, c8, rfl⟩ := own_shape hown8
           have O8 := Lib.hid hown8; have B8 := Lib.hid (B7.out.trans (hb8.mono hs7)); have hs8 := B8.out.size; clear hown8 hg8 hb8)
        | fail)
      refine (rline_any A8 c8 i ls HN1.out Z1.out w8 w8.heap.size (Nat.le_refl _) (own_seg O8.out)).mono ?_
      rintro e w9 ⟨t9, rfl, ht9, hb9⟩
      have B9 := Lib.hid (B8.out.trans (hb9.mono hs8))
      have hcmp : (t7.toList == t9.toList) = true := beq_iff_eq.2 (by rw [show t7 = t9 from nl_inj (by rw [T7.out, ht9])])
      have hs9 := B9.out.size
      clear ht9 hb9 O8 B8 O7 B7 OE7 hs7 hs8
      go_wp2_with fail
      clear hcmp
      have FN := fld_count (nl line)
      rw [nl_len] at FN
      have RF := rfields_any line w9 (by omega)
      have PFd := Lib.hid fun (W : World) (hW : Below w.heap.size w W) => pfields_any line W (by omega) (HE1.out.below hW (by have := HW.out; omega)) (HE2.out.below hW HW.out) (Nat.lt_of_lt_of_le HW.out hW.size)
      generalize fldN (nl line) = R at RF PFd FN
      obtain ⟨E, hE⟩ : ∃ E, errL R = E := ⟨_, rfl⟩
      have HE := Lib.hid hE
      have HFN := Lib.hid FN
      have ne1 : (E != E) = false := by simp
      have ne2 : (E == E) = true := by simp
      clear hE FN
      refine RF.mono ?_
      clear RF
      rintro e v1 ⟨hc1, hb1⟩
      obtain ⟨Aw, cw, tw, rfl, how, hdw⟩ := FRet.any hc1
      rw [HE.out]
      have W1 := Lib.hid (own_seg how)
      have DW := Lib.hid hdw
      have V1 := Lib.hid (B9.out.trans (hb1.mono hs9))
      have hv1 := V1.out.size
      clear hc1 hb1 how hdw
      go_wp2_with fail
      refine (PFd.out v1 V1.out).mono ?_
      rintro e v2 ⟨hc2, hb2⟩
      obtain ⟨Aa, ca, ta, rfl, hoa, hda⟩ := FRet.any hc2
      rw [HE.out]
      have W2 := Lib.hid (W1.out.below hb2)
      have OA2 := Lib.hid hoa
      have DA := Lib.hid hda
      have V2 := Lib.hid (V1.out.trans (hb2.mono hv1))
      have hv2 := V2.out.size
      have hv12 := hb2.size
      clear hc2 hb2 hoa hda
      go_wp2_with fail
      refine (PFd.out v2 V2.out).mono ?_
      rintro e v3 ⟨hc3, hb3⟩
      obtain ⟨Ab, cb, tb, rfl, hob, hdb⟩ := FRet.any hc3
      rw [HE.out]
      have W3 := Lib.hid (W2.out.below (hb3.mono hv12))
      have OA3 := Lib.hid (own_bel OA2.out hb3)
      have OB3 := Lib.hid hob
      have GA := Lib.hid fun g (hg : (Value.slice Aa ta.length ca).ownBlock = some g) => (OA2.out.lt g hg)
      have DB := Lib.hid hdb
      have V3 := Lib.hid (V2.out.trans (hb3.mono hv2))
      have hv3 := V3.out.size
      clear hc3 hb3 hob hdb
      have LA := Lib.hid (show ta.length ≤ 1048576 from by have h1 := congrArg List.length DA.out; rw [List.length_map] at h1; have := HFN.out; omega)
      have LB := Lib.hid (show tb.length ≤ 1048576 from by have h1 := congrArg List.length DB.out; rw [List.length_map] at h1; have := HFN.out; omega)
      go_wp2_with fail
      refine (same_yes (A := Aa) (ts := ta) (A' := Aw) (ts' := tw) (by rw [DA.out, DW.out]) LA.out (own_seg OA3.out) W3.out).mono ?_
      rintro e v4 ⟨rfl, q4, rfl⟩
      have W4 := Lib.hid (W3.out.drewN q4)
      have OA4 := Lib.hid (show (v3.drewN q4).ownsRow v1.heap.size 9 1 (.slice Aa ta.length ca) ta.length (sV ta) from OA3.out)
      have OB4 := Lib.hid (show (v3.drewN q4).ownsRow v2.heap.size 9 1 (.slice Ab tb.length cb) tb.length (sV tb) from OB3.out)
      have V4 := Lib.hid (below_drewN V3.out q4)
      generalize v3.drewN q4 = v4 at W4 OA4 OB4 V4 ⊢
      obtain ⟨m, hm⟩ : ∃ m, ta.length = m := ⟨_, rfl⟩
      have HM := Lib.hid hm
      have hm2 : (m : Int) ≤ 1048576 := by have := LA.out; omega
      rw [hm] at OA4 GA ⊢
      clear hm
      go_wp2_with fail
      obtain ⟨wp, hwp⟩ : ∃ wp : World, wp = wr := ⟨_, rfl⟩
      go_loopw [13] (fun jv wx => ∃ (j : Nat) (ls : List ByteArray), jv = .int .i64 j ∧ j ≤ m ∧ ls.length = m ∧ wx.ownsRow v1.heap.size 9 1 (.slice Aa m ca) m (sV ls) ∧ Seg wx v1.heap.size Aw (sV tw) ∧ wx.ownsRow v2.heap.size 9 1 (.slice Ab tb.length cb) tb.length (sV tb) ∧ Below w.heap.size w wx) (fun jv _ => m - (intOf jv).toNat)
      case atStart => exact ⟨0, ta, rfl, by omega, HM.out, OA4.out, W4.out, OB4.out, V4.out⟩
      case round =>
        obtain ⟨j, ls2, rfl, hj, hlen, hown, hsw, hob, hb⟩ := hrel
        have HOA := Lib.hid hown
        have HSW := Lib.hid hsw
        have HOB := Lib.hid hob
        have HBB := Lib.hid hb
        have HLN := Lib.hid hlen
        by_cases hjm : j < m
        · have hji : (j : Int) < (m : Int) := by omega
          obtain ⟨g, rfl, hg1, hg2, x0, f0, hst⟩ := own_strAt hown hlen.symm (by omega : j < ls2.length)
          have HST := Lib.hid (hst ⟨#[126]⟩)
          have hgb := GA.out g rfl
          have hgw : w.heap.size ≤ g := by omega
          have HG := Lib.hid hgb
          generalize ls2[j]'(by omega) = t0 at x0
          clear hown hsw hob hb hlen hst hgb
          go_wp2_with fail
          refine ⟨⟨j + 1, ls2.set j ⟨#[126]⟩, by go_num, hjm, by rw [List.length_set]; exact HLN.out, HST.out, HSW.out.setCell (by exact HG.out.1) _, ?_, HBB.out.setCell (by exact hgw) _⟩, by simp [intOf]; omega⟩
          exact own_keep2 HOB.out fun g' hg' _ => Below.heap_setCell _ _ _ _ (by
            intro e
            have a1 := (HOB.out.lt g' hg').1
            have a2 := HG.out.2
            have e2 : g' = g := e
            omega)
        · have hji : ¬ (j : Int) < (m : Int) := by omega
          clear hown hsw hob hb hlen
          go_wp2_with fail
          refine (same_yes (A := Ab) (ts := tb) (A' := Aw) (ts' := tw) (by rw [DB.out, DW.out]) LB.out (own_seg HOB.out) HSW.out).mono ?_
          rintro e v5 ⟨rfl, q5, rfl⟩
          go_wp2_with fail
          go_ret
          exact ⟨rfl, below_drewN HBB.out q5⟩
end Go.Proofs.YtfipljhlponcoaaDoor
