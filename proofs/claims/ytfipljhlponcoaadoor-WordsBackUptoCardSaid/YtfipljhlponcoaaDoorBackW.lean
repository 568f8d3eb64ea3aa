/- The walk of WordsBack. -/
import Derived.Test.YtfipljhlponcoaaDoorBackLaw
import Derived.Test.YtfipljhlponcoaaDoorWorks
set_option linter.unusedVariables false
namespace Go.Proofs.YtfipljhlponcoaaDoor
open Go.RowKit
theorem show_bool {s t u v : ByteArray} (hu : nl u = (shows 92 (nl s)).flatten) (hv : nl v = (shows 92 (nl t)).flatten) : (u.toList == v.toList) = (s.toList == t.toList) := by
  rw [Bool.eq_iff_iff, beq_iff_eq, beq_iff_eq]
  constructor
  · intro h
    rw [ByteArray.toList_eq, ByteArray.toList_eq] at h
    have h2 : nl u = nl v := by unfold nl; rw [h]
    rw [hu, hv] at h2
    rw [show s = t from nl_inj (show_inj (nl_lt s) (nl_lt t) h2)]
  · intro h
    rw [ByteArray.toList_eq, ByteArray.toList_eq] at h
    have h2 : nl s = nl t := by unfold nl; rw [h]
    rw [show u = v from nl_inj (by rw [hu, hv, h2])]
theorem quote_bool {s t u v : ByteArray} (hu : nl u = qtN (nl s)) (hv : nl v = qtN (nl t)) : (u.toList == v.toList) = (s.toList == t.toList) := by
  rw [Bool.eq_iff_iff, beq_iff_eq, beq_iff_eq]
  constructor
  · intro h
    rw [ByteArray.toList_eq, ByteArray.toList_eq] at h
    have h2 : nl u = nl v := by unfold nl; rw [h]
    rw [hu, hv] at h2
    rw [show s = t from nl_inj (qt_inj (nl_lt s) (nl_lt t) h2)]
  · intro h
    rw [ByteArray.toList_eq, ByteArray.toList_eq] at h
    have h2 : nl s = nl t := by unfold nl; rw [h]
    rw [show u = v from nl_inj (by rw [hu, hv, h2])]
set_option maxRecDepth 100000 in
set_option maxHeartbeats 32000000 in
theorem back_walk (A : Option Addr) (c n : Nat) (ts : List ByteArray) (hn : n = ts.length) (h1 : ∀ t ∈ ts, t.size ≤ 1048575) (h2 : (ts.map nl).flatten.length + ts.length ≤ 1048576) (line s t : ByteArray) (hl : line.size ≤ 1048575) (hs : s.size ≤ 1048575) (ht : t.size ≤ 1048575)
    (w : World) (hr : Seg w w.heap.size A (sV ts)) (hy : Lay w) :
    Calls Tryd.prog 6 #[.slice A n c, .string line, .string s, .string t] w fun e w' => e = .returned (.bool true) ∧ Below w.heap.size w w' := by
  obtain ⟨i0, fi, fz0, fz1, fz2⟩ := info_parts info9
  have HN := Lib.hid hn
  have H1 := Lib.hid h1
  have H2 := Lib.hid h2
  have HR := Lib.hid hr
  have HY := Lib.hid hy
  have hn2 : (n : Int) ≤ 1048576 := by omega
  have M1 := Lib.hid (show 0 + n ≤ maxLen by unfold maxLen; omega)
  have M2 := Lib.hid (show (0 + n) * 16 ≤ 140737488355328 by omega)
  have Z0 := Lib.hid (show LSz ts from ⟨fun t ht => by have := h1 t ht; omega, by omega⟩)
  have LL := Lib.hid (show ts.length ≤ 1048576 by omega)
  have WK := works_any w hy
  clear hn h1 h2 hr hy
  go_enter Tryd.func6, Tryd.ntmps6
  go_wp2_with fail
  refine WK.mono ?_
  clear WK
  rintro e w1 ⟨rfl, hb1⟩
  have B1 := Lib.hid hb1
  have Y1 := Lib.hid (HY.out.below hb1)
  have R1 := Lib.hid (HR.out.below hb1)
  have hs1 := hb1.size
  have OE := Lib.hid (own_empty w1 w1.heap.size 9 1 w1.heap.size rfl (Nat.le_refl _))
  clear hb1
  go_wp2_with (first
    | (at_builtin; refine wpList_append_seg _ rfl (.tmp 17) (.tmp 18) 33 rfl w1.heap.size 9 i0 _ 1 16 Tryd.underlying33 fi fz0 fz1 fz2 rfl (by decide) (.slice (some ⟨w1.heap.size, 0, none⟩) 0 0) 0 [] rfl OE.out w.heap.size A n c (sV ts) rfl (by rw [sV_len, Nat.mul_one]; exact HN.out.symm) (R1.out.alloc hs1 _) (sV_one ts) M1.out M2.out (by simp) ?_
       intro v3 w3 hown3 hg3 _
       rw [Nat.zero_add, List.nil_append] at hown3
       have hb3 : Below w1.heap.size w1 w3 := ((Below.refl _ w1).alloc (Nat.le_refl _) _).grown hg3 (by simp) (fun g hg => (OE.out.lt g hg).1)
       obtain ⟨A3, c3, rfl⟩ := own_shape hown3
       have O3 := Lib.hid hown3; have Y3 := Lib.hid (Y1.out.below hb3); have B3 := Lib.hid (B1.out.trans (hb3.mono hs1)); have hs3 := B3.out.size; clear hown3 hg3 hb3)
    | fail)
  refine (pline_any A3 c3 n ts HN.out Z0.out w3 w3.heap.size (Nat.le_refl _) (own_seg O3.out)).mono ?_
  rintro e w4 ⟨t4, rfl, ht4, hb4⟩
  have B4 := Lib.hid (B3.out.trans (hb4.mono hs3))
  have Y4 := Lib.hid (Y3.out.below hb4)
  have hs4 := B4.out.size
  have FL := pfields_gen t4 w4 (by
    have := Z0.out.take ts.length
    rw [List.take_length, ← ht4, nl_len] at this
    exact this) (fun us hu _ _ => by
    rw [ht4, (fields_line hx2_is _ (map_lt ts)).2] at hu
    injection hu with hu
    rw [← map_inj hu]
    exact Z0.out) Y4.out.e1 Y4.out.e2 (by have := Y4.out.h5; omega)
  rw [ht4, fld_line] at FL
  clear ht4 hb4 O3 B3 OE
  go_wp2_with fail
  refine FL.mono ?_
  clear FL
  rintro e w5 ⟨hf, hb5⟩
  obtain ⟨A5, c5, t5, rfl, ho5, hd5⟩ := hf
  obtain rfl : t5 = ts := map_inj hd5
  have O5 := Lib.hid (own_seg ho5)
  have B5 := Lib.hid (B4.out.trans (hb5.mono hs4))
  have Y5 := Lib.hid (Y4.out.below hb5)
  have hs5 := B5.out.size
  clear ho5 hd5 hb5
  go_wp2_with fail
  have SM := same_any A5 c5 t5.length t5 rfl A c n t5 HN.out (by have := LL.out; omega) w5 w5.heap.size w.heap.size O5.out (HR.out.below B5.out)
  rw [same_eq rfl] at SM
  refine SM.mono ?_
  clear SM
  rintro e w6 ⟨rfl, q6, rfl⟩
  have B6 := Lib.hid (below_drewN B5.out q6)
  have Y6 := Lib.hid (show Lay (w5.drewN q6) from Y5.out.below (below_drewN (Below.refl _ w5) q6))
  generalize w5.drewN q6 = w6 at B6 Y6 ⊢
  have hs6 := B6.out.size
  clear B5 Y5 hs5 B4 Y4 hs4 Y3 hs3 B1 Y1 R1 hs1
  go_wp2_with fail
  have PF2 := pfields_any line w6 (by omega) Y6.out.e1 Y6.out.e2 (by have := Y6.out.h5; omega)
  refine PF2.mono ?_
  clear PF2
  rintro e w7 ⟨hf, hb7⟩
  have B7 := Lib.hid (B6.out.trans (hb7.mono hs6))
  have Y7 := Lib.hid (Y6.out.below hb7)
  have hs7 := B7.out.size
  clear hb7
  clear B6 Y6 hs6
  cases hR : fldN (nl line) with
  | none =>
    rw [hR] at hf
    obtain rfl : e = _ := hf
    clear hR
    go_wp2_with fail
    have SH1 := show_any s w7 (by omega)
    refine SH1.mono ?_
    clear SH1
    rintro e v1 ⟨u1, rfl, hu1, hb1⟩
    have V1 := Lib.hid (B7.out.trans (hb1.mono hs7))
    have U1 := Lib.hid hu1
    have hv1 := V1.out.size
    clear hb1 hu1
    go_wp2_with fail
    have SH2 := show_any t v1 (by omega)
    refine SH2.mono ?_
    clear SH2
    rintro e v2 ⟨u2, rfl, hu2, hb2⟩
    have V2 := Lib.hid (V1.out.trans (hb2.mono hv1))
    have hv2 := V2.out.size
    have hE := show_bool U1.out hu2
    obtain ⟨b, hb⟩ : ∃ b, (s.toList == t.toList) = b := ⟨_, rfl⟩
    rw [hb] at hE
    have HB := Lib.hid hb
    have bb1 : (b != b) = false := by simp
    have bb2 : (b == b) = true := by simp
    clear hb2 hu2
    go_wp2_with fail
    clear hE
    have QH1 := pquote_any s v2 (by omega)
    refine QH1.mono ?_
    clear QH1
    rintro e v3 ⟨u3, rfl, hu3, hb3⟩
    have V3 := Lib.hid (V2.out.trans (hb3.mono hv2))
    have U3 := Lib.hid hu3
    have hv3 := V3.out.size
    clear hb3 hu3
    go_wp2_with fail
    have QH2 := pquote_any t v3 (by omega)
    refine QH2.mono ?_
    clear QH2
    rintro e v4 ⟨u4, rfl, hu4, hb4⟩
    have V4 := Lib.hid (V3.out.trans (hb4.mono hv3))
    have hv4 := V4.out.size
    have hE := quote_bool U3.out hu4
    rw [HB.out] at hE
    clear hb4 hu4
    go_wp2_with fail
    clear hE hb bb1 bb2 HB
    have SH3 := show_any s v4 (by omega)
    refine SH3.mono ?_
    clear SH3
    rintro e v5 ⟨u5, rfl, hu5, hb5⟩
    have V5 := Lib.hid (V4.out.trans (hb5.mono hv4))
    have U5 := Lib.hid hu5
    have hv5 := V5.out.size
    have hz5 : u5.size ≤ 4194304 := by
      have := shows_bd 92 (nl s) (nl_lt s)
      rw [← hu5, nl_len, nl_len] at this
      omega
    clear hb5 hu5
    go_wp2_with fail
    have hbi := V5.out.alloc hv5 (.stringIter u5 0)
    have HBI := Lib.hid hbi
    clear hbi
    go_loopw [12] (fun _ wx => ∃ j : Nat, j ≤ (shows 92 (nl s)).length ∧ wx.heap[v5.heap.size]? = some (.stringIter u5 ((shows 92 (nl s)).take j).flatten.length) ∧ Below w.heap.size w wx) (fun _ wx => u5.size - wx.iterPos v5.heap.size)
    case atStart => exact ⟨0, Nat.zero_le _, World.iter_heap v5 u5 0, HBI.out⟩
    case round =>
      obtain ⟨j, hj, hit, hb⟩ := hrel
      by_cases hlt : j < (shows 92 (nl s)).length
      · obtain ⟨r, hfr, hp, hd1, hd2, h239⟩ := fine_at U5.out hlt
        have hnx : ∀ ty, (Instr.next (.pointer (some ⟨v5.heap.size, 0, none⟩)) true ty).run Tryd.prog wr = _ := fun ty => Lib.run_next_any_at wr v5.heap.size u5 ((shows 92 (nl s)).take j).flatten.length ty hit hp
        have hdl : 1 ≤ (Utf8.decode u5 ((shows 92 (nl s)).take j).flatten.length).2 := by
          have h3 := dec_cut u5 _ hp
          have h4 := cut_len (drop_lt (nl_lt u5) ((shows 92 (nl s)).take j).flatten.length) (dropn_ne hp)
          omega
        have hip : wr.iterPos v5.heap.size = ((shows 92 (nl s)).take j).flatten.length := by unfold World.iterPos; rw [hit]
        rw [hd1, hd2] at hnx
        have hit2 := Lib.iterAt_heap wr v5.heap.size u5 ((shows 92 (nl s)).take j).flatten.length ((shows 92 (nl s)).take (j + 1)).flatten.length hit
        have hb2 := Lib.below_iterAt hb (k := v5.heap.size) hv5 u5 ((shows 92 (nl s)).take (j + 1)).flatten.length
        obtain ⟨q, hq⟩ : ∃ q, ((shows 92 (nl s)).take (j + 1)).flatten.length = q := ⟨_, rfl⟩
        have HQ := Lib.hid hq
        rw [hq] at hnx hit2 hb2 hd2
        obtain ⟨p, hpp⟩ : ∃ p, ((shows 92 (nl s)).take j).flatten.length = p := ⟨_, rfl⟩
        rw [hpp] at hnx hp h239 hip hdl
        rw [hpp] at hd2
        generalize (Utf8.decode u5 p).2 = dl at hd2 hdl
        have hpq : p < q := by omega
        obtain ⟨W, hW⟩ : ∃ W, wr.iterAt v5.heap.size u5 q = W := ⟨_, rfl⟩
        rw [hW] at hnx hit2 hb2
        have IT := Lib.hid hit2
        have HB2 := Lib.hid hb2
        have HIP := Lib.hid hip
        have hsW := hb2.size
        have hvW : v5.heap.size < W.heap.size := (Array.getElem?_eq_some_iff.1 hit2).1
        have f1 : decide ((r : Int) < 32) = false := by have := hfr.2.1; simp; omega
        have hmea : ∀ W' : World, W'.heap[v5.heap.size]? = some (.stringIter u5 q) → u5.size - W'.iterPos v5.heap.size < u5.size - wr.iterPos v5.heap.size := fun W' h => by
          rw [HIP.out]
          have : W'.iterPos v5.heap.size = q := by unfold World.iterPos; rw [h]
          rw [this]
          omega
        have HME := Lib.hid hmea
        clear hit hb hd1 hd2 hip hit2 hb2 hpp hW hmea hdl
        rcases hfr.2.2 with h127 | h159
        · have f2 : decide (127 ≤ (r : Int)) = false := by simp; omega
          have f4 : ((r : Int) == 65533) = false := by simp; omega
          clear h239 hfr h127
          go_wp2_with fail
          exact ⟨⟨j + 1, hlt, by rw [HQ.out]; exact IT.out, HB2.out⟩, HME.out _ IT.out⟩
        · have f2 : decide (127 ≤ (r : Int)) = true := by simp; omega
          have f3 : decide ((r : Int) ≤ 159) = false := by simp; omega
          by_cases h65 : r = 65533
          · have g := h239 h65 hp
            subst h65
            have SH6 := Lib.hid (show_any s W (by omega))
            clear h239 hfr h159
            have hpi : (p : Int) < (u5.size : Int) := by omega
            go_wp2_with (first
              | (go_at_call 27; refine SH6.out.mono ?_; rintro e v6 ⟨u6, rfl, hu6, hb6⟩
                 obtain rfl : u6 = u5 := nl_inj (by rw [hu6, U5.out])
                 have B6 := Lib.hid (HB2.out.trans (hb6.mono hsW)); have K6 := Lib.hid ((hb6.block _ hvW).trans IT.out); clear hb6 hu6)
              | fail)
            exact ⟨⟨j + 1, hlt, by rw [HQ.out]; exact K6.out, B6.out⟩, HME.out _ K6.out⟩
          · have f4 : ((r : Int) == 65533) = false := by simp; omega
            clear h239 hfr h159 h65
            go_wp2_with fail
            exact ⟨⟨j + 1, hlt, by rw [HQ.out]; exact IT.out, HB2.out⟩, HME.out _ IT.out⟩
      · obtain rfl : j = (shows 92 (nl s)).length := by omega
        rw [List.take_length, ← U5.out, nl_len] at hit
        have hnx : ∀ ty, (Instr.next (.pointer (some ⟨v5.heap.size, 0, none⟩)) true ty).run Tryd.prog wr = _ := fun ty => Lib.run_next_end_at wr v5.heap.size u5 u5.size ty hit (by omega)
        have HBE := Lib.hid hb
        clear hit hb
        go_wp2_with fail
        go_ret
        exact ⟨rfl, HBE.out⟩
  | some ls =>
    rw [hR] at hf
    obtain ⟨A8, c8, t8, rfl, ho8, hd8⟩ := hf
    subst hd8
    have Z8 := sz_line (by omega) hR
    have L8 := Lib.hid (fld_some hR)
    have PL := pline_any A8 c8 t8.length t8 rfl Z8 w7 w7.heap.size (Nat.le_refl _) (own_seg ho8)
    obtain ⟨m8, hm8⟩ : ∃ m8, t8.length = m8 := ⟨_, rfl⟩
    have hm9 : m8 ≤ 4194304 := by have := Z8.all; omega
    rw [hm8] at PL ⊢
    clear hR ho8 Z8 hm8
    go_wp2_with fail
    refine PL.mono ?_
    clear PL
    rintro e w8 ⟨u8, rfl, hu8, hb8⟩
    have B7' := Lib.hid (B7.out.trans (hb8.mono hs7))
    have hcmp : (u8.toList == line.toList) = true := beq_iff_eq.2 (by rw [show u8 = line from nl_inj (by rw [hu8, L8.out])])
    clear B7 hs7 hu8 hb8
    have B7 := B7'
    have hs7 := B7.out.size
    clear B7'
    go_wp2_with fail
    clear hcmp
    have SH1 := show_any s w8 (by omega)
    refine SH1.mono ?_
    clear SH1
    rintro e v1 ⟨u1, rfl, hu1, hb1⟩
    have V1 := Lib.hid (B7.out.trans (hb1.mono hs7))
    have U1 := Lib.hid hu1
    have hv1 := V1.out.size
    clear hb1 hu1
    go_wp2_with fail
    have SH2 := show_any t v1 (by omega)
    refine SH2.mono ?_
    clear SH2
    rintro e v2 ⟨u2, rfl, hu2, hb2⟩
    have V2 := Lib.hid (V1.out.trans (hb2.mono hv1))
    have hv2 := V2.out.size
    have hE := show_bool U1.out hu2
    obtain ⟨b, hb⟩ : ∃ b, (s.toList == t.toList) = b := ⟨_, rfl⟩
    rw [hb] at hE
    have HB := Lib.hid hb
    have bb1 : (b != b) = false := by simp
    have bb2 : (b == b) = true := by simp
    clear hb2 hu2
    go_wp2_with fail
    clear hE
    have QH1 := pquote_any s v2 (by omega)
    refine QH1.mono ?_
    clear QH1
    rintro e v3 ⟨u3, rfl, hu3, hb3⟩
    have V3 := Lib.hid (V2.out.trans (hb3.mono hv2))
    have U3 := Lib.hid hu3
    have hv3 := V3.out.size
    clear hb3 hu3
    go_wp2_with fail
    have QH2 := pquote_any t v3 (by omega)
    refine QH2.mono ?_
    clear QH2
    rintro e v4 ⟨u4, rfl, hu4, hb4⟩
    have V4 := Lib.hid (V3.out.trans (hb4.mono hv3))
    have hv4 := V4.out.size
    have hE := quote_bool U3.out hu4
    rw [HB.out] at hE
    clear hb4 hu4
    go_wp2_with fail
    clear hE hb bb1 bb2 HB
    have SH3 := show_any s v4 (by omega)
    refine SH3.mono ?_
    clear SH3
    rintro e v5 ⟨u5, rfl, hu5, hb5⟩
    have V5 := Lib.hid (V4.out.trans (hb5.mono hv4))
    have U5 := Lib.hid hu5
    have hv5 := V5.out.size
    have hz5 : u5.size ≤ 4194304 := by
      have := shows_bd 92 (nl s) (nl_lt s)
      rw [← hu5, nl_len, nl_len] at this
      omega
    clear hb5 hu5
    go_wp2_with fail
    have hbi := V5.out.alloc hv5 (.stringIter u5 0)
    have HBI := Lib.hid hbi
    clear hbi
    go_loopw [12] (fun _ wx => ∃ j : Nat, j ≤ (shows 92 (nl s)).length ∧ wx.heap[v5.heap.size]? = some (.stringIter u5 ((shows 92 (nl s)).take j).flatten.length) ∧ Below w.heap.size w wx) (fun _ wx => u5.size - wx.iterPos v5.heap.size)
    case atStart => exact ⟨0, Nat.zero_le _, World.iter_heap v5 u5 0, HBI.out⟩
    case round =>
      obtain ⟨j, hj, hit, hb⟩ := hrel
      by_cases hlt : j < (shows 92 (nl s)).length
      · obtain ⟨r, hfr, hp, hd1, hd2, h239⟩ := fine_at U5.out hlt
        have hnx : ∀ ty, (Instr.next (.pointer (some ⟨v5.heap.size, 0, none⟩)) true ty).run Tryd.prog wr = _ := fun ty => Lib.run_next_any_at wr v5.heap.size u5 ((shows 92 (nl s)).take j).flatten.length ty hit hp
        have hdl : 1 ≤ (Utf8.decode u5 ((shows 92 (nl s)).take j).flatten.length).2 := by
          have h3 := dec_cut u5 _ hp
          have h4 := cut_len (drop_lt (nl_lt u5) ((shows 92 (nl s)).take j).flatten.length) (dropn_ne hp)
          omega
        have hip : wr.iterPos v5.heap.size = ((shows 92 (nl s)).take j).flatten.length := by unfold World.iterPos; rw [hit]
        rw [hd1, hd2] at hnx
        have hit2 := Lib.iterAt_heap wr v5.heap.size u5 ((shows 92 (nl s)).take j).flatten.length ((shows 92 (nl s)).take (j + 1)).flatten.length hit
        have hb2 := Lib.below_iterAt hb (k := v5.heap.size) hv5 u5 ((shows 92 (nl s)).take (j + 1)).flatten.length
        obtain ⟨q, hq⟩ : ∃ q, ((shows 92 (nl s)).take (j + 1)).flatten.length = q := ⟨_, rfl⟩
        have HQ := Lib.hid hq
        rw [hq] at hnx hit2 hb2 hd2
        obtain ⟨p, hpp⟩ : ∃ p, ((shows 92 (nl s)).take j).flatten.length = p := ⟨_, rfl⟩
        rw [hpp] at hnx hp h239 hip hdl
        rw [hpp] at hd2
        generalize (Utf8.decode u5 p).2 = dl at hd2 hdl
        have hpq : p < q := by omega
        obtain ⟨W, hW⟩ : ∃ W, wr.iterAt v5.heap.size u5 q = W := ⟨_, rfl⟩
        rw [hW] at hnx hit2 hb2
        have IT := Lib.hid hit2
        have HB2 := Lib.hid hb2
        have HIP := Lib.hid hip
        have hsW := hb2.size
        have hvW : v5.heap.size < W.heap.size := (Array.getElem?_eq_some_iff.1 hit2).1
        have f1 : decide ((r : Int) < 32) = false := by have := hfr.2.1; simp; omega
        have hmea : ∀ W' : World, W'.heap[v5.heap.size]? = some (.stringIter u5 q) → u5.size - W'.iterPos v5.heap.size < u5.size - wr.iterPos v5.heap.size := fun W' h => by
          rw [HIP.out]
          have : W'.iterPos v5.heap.size = q := by unfold World.iterPos; rw [h]
          rw [this]
          omega
        have HME := Lib.hid hmea
        clear hit hb hd1 hd2 hip hit2 hb2 hpp hW hmea hdl
        rcases hfr.2.2 with h127 | h159
        · have f2 : decide (127 ≤ (r : Int)) = false := by simp; omega
          have f4 : ((r : Int) == 65533) = false := by simp; omega
          clear h239 hfr h127
          go_wp2_with fail
          exact ⟨⟨j + 1, hlt, by rw [HQ.out]; exact IT.out, HB2.out⟩, HME.out _ IT.out⟩
        · have f2 : decide (127 ≤ (r : Int)) = true := by simp; omega
          have f3 : decide ((r : Int) ≤ 159) = false := by simp; omega
          by_cases h65 : r = 65533
          · have g := h239 h65 hp
            subst h65
            have SH6 := Lib.hid (show_any s W (by omega))
            clear h239 hfr h159
            have hpi : (p : Int) < (u5.size : Int) := by omega
            go_wp2_with (first
              | (go_at_call 27; refine SH6.out.mono ?_; rintro e v6 ⟨u6, rfl, hu6, hb6⟩
                 obtain rfl : u6 = u5 := nl_inj (by rw [hu6, U5.out])
                 have B6 := Lib.hid (HB2.out.trans (hb6.mono hsW)); have K6 := Lib.hid ((hb6.block _ hvW).trans IT.out); clear hb6 hu6)
              | fail)
            exact ⟨⟨j + 1, hlt, by rw [HQ.out]; exact K6.out, B6.out⟩, HME.out _ K6.out⟩
          · have f4 : ((r : Int) == 65533) = false := by simp; omega
            clear h239 hfr h159 h65
            go_wp2_with fail
            exact ⟨⟨j + 1, hlt, by rw [HQ.out]; exact IT.out, HB2.out⟩, HME.out _ IT.out⟩
      · obtain rfl : j = (shows 92 (nl s)).length := by omega
        rw [List.take_length, ← U5.out, nl_len] at hit
        have hnx : ∀ ty, (Instr.next (.pointer (some ⟨v5.heap.size, 0, none⟩)) true ty).run Tryd.prog wr = _ := fun ty => Lib.run_next_end_at wr v5.heap.size u5 u5.size ty hit (by omega)
        have HBE := Lib.hid hb
        clear hit hb
        go_wp2_with fail
        go_ret
        exact ⟨rfl, HBE.out⟩
end Go.Proofs.YtfipljhlponcoaaDoor
