/- DomainsNeeded: the walk. -/
import Derived.Test.YtghcemfffhjmjaaNeedL
import Derived.Deep.RegionHeld3
import Derived.Deep.DeepCutAuto
import Derived.Deep.CutRange
set_option linter.unusedVariables false
namespace Go.Proofs.Ytghcemfffhjmjaa
open Go.RowKit
theorem und_dms (l : List Dmi) {i : Nat} (h : i < l.length) : und (dms l) i = l[i].u.map Int.toNat := by
  unfold und dms
  rw [List.getElem?_map, List.getElem?_eq_getElem h]
  rfl
theorem top_dms (l : List Dmi) {i : Nat} (h : i < (dms l).length) : (dms l)[i].t = (l[i]'(by rw [← dms_len]; exact h)).t := by simp [dms, toDm]
theorem own_gt {w : World} {base n size : Nat} {e : TypeId} {A : Option Addr} {c : Nat} {xs : List Value} (h : w.ownsRow base e size (.slice A n c) n xs) (hn : 0 < n) : ∀ b off, A = some ⟨b, off, none⟩ → base ≤ b := fun b off e => by
  obtain ⟨g, e', hb, _⟩ := own_head h hn
  rw [e'] at e
  injection e with e
  injection e with e
  omega
set_option maxRecDepth 100000 in
set_option maxHeartbeats 4000000 in
theorem needed_any (Al : Option Addr) (capl : Nat) (l : List Dmi) (n : Nat) (hn : n = l.length) (As : Option Addr) (caps : Nat) (S : List Stp) (m : Nat) (hm : m = S.length) (w : World)
    (hd : Domi w w.heap.size Al l) (hs : Seg w w.heap.size As (stCells S)) (hwf : ∀ y ∈ S, y.wf) (hl : n ≤ 4398046510976) (hlu : ∀ y ∈ l, y.u.length ≤ 17592186043904) (hlt : ∀ y ∈ l, y.t ≤ 255) :
    Calls Try.prog 5 #[.slice Al n capl, .slice As m caps] w fun e w' => e = .returned (.bool true) ∧ Below w.heap.size w w' := by
  have hmk : ∀ w2, Below w.heap.size w w2 → Calls Try.prog 10 #[.slice Al n capl] w2 fun e w3 => ∃ A3 c3 lo, e = .returned (.slice A3 n c3) ∧ Below w.heap.size w w3 ∧ w2.heap.size ≤ w3.heap.size ∧ Below w2.heap.size w2 w3 ∧ n = lo.length ∧ (∀ y ∈ lo, y.t ≤ 255) ∧ Domi w3 w3.heap.size A3 lo ∧ lo.map Dmi.core = l.map Dmi.core := fun w2 hb => by
    refine (out_any Al capl l n hn hl hlu w2 ((hd.below hb).more hb.size)).mono ?_
    rintro e w3 ⟨A3, c3, lo, rfl, hb3, hout⟩
    exact ⟨A3, c3, lo, rfl, hb.trans (hb3.mono hb.size), hb3.size, hb3, by rw [core_len hout.same]; exact hn, core_all (p := fun _ t => t ≤ 255) hout.same hlt, hout.domi, hout.same⟩
  have HMK := Lib.hid hmk
  have HS := Lib.hid hs
  have HM := Lib.hid hm
  have HWF := Lib.hid hwf
  have HD := Lib.hid hd
  have HN := Lib.hid hn
  clear hmk hs hwf hd hlu
  by_cases hmay : mayD l
  · have hnw : ∀ w3 A3 c3 lo, n = lo.length → (∀ y ∈ lo, y.t ≤ 255) → Domi w3 w3.heap.size A3 lo → lo.map Dmi.core = l.map Dmi.core → Calls Try.prog 9 #[.slice A3 n c3] w3 fun e w4 => e = .returned (.tuple #[.pointer (some ⟨w3.heap.size + 1, 0, none⟩), .int .i64 0]) ∧ Below w3.heap.size w3 w4 ∧ Nb w4 (w3.heap.size + 1) w3.heap.size w4.heap.size 0 (dms l) (fun _ _ => 0) := fun w3 A3 c3 lo h1 h2 h3 h4 => by
      refine (new_net A3 c3 lo n h1 h2 w3 h3).mono ?_
      rintro e w4 ⟨hb, (⟨hno, _⟩ | ⟨_, rfl, hnet⟩)⟩
      · exact absurd (core_may h4 hmay) hno
      · rw [dms_same h4] at hnet
        exact ⟨rfl, hb, hnet.toNb⟩
    have hok : Okd (dms l) := mayD_okd hmay hlt
    have hn256 : n ≤ 256 := by rw [hn]; exact hmay.1
    have hmk37 := make_u8s n hn256
    obtain ⟨Z, hZ⟩ : ∃ Z, Z = madeCells #[.int .u8 0] n := ⟨_, rfl⟩
    rw [← hZ] at hmk37
    have hzz : Z.toList = lvs (fun _ => 0) n := by rw [hZ]; exact lvs_none n
    obtain ⟨ds, hds⟩ : ∃ ds, ds = dms l := ⟨_, rfl⟩
    rw [← hds] at hnw hok
    have hdl : ds.length = n := by rw [hds, dms_len]; exact hn.symm
    have HNW := Lib.hid hnw
    have HOK := Lib.hid hok
    have HZZ := Lib.hid hzz
    have HDS := Lib.hid hds
    have HDL := Lib.hid hdl
    have HMAY := Lib.hid hmay
    have HLT := Lib.hid hlt
    clear hnw hok hzz hds hdl hZ hmay hlt hn hm
    go_enter Try.func5, Try.ntmps5
    go_wp2_with (first
      | (go_at_call 9; refine (HNW.out w3 A3 c3 lo3 HF3.out.1 HF3.out.2.1 HF3.out.2.2.1 HF3.out.2.2.2).mono ?_; rintro e w4 ⟨rfl, hb4, hnb4⟩
         have hb4' := HB3.out.trans (hb4.mono HB3.out.size)
         have HB4 := Lib.hid hb4'
         have HNB4 := Lib.hid hnb4
         clear hb4 hb4' hnb4)
      | (go_at_call 10; refine (HMK.out w2 HB2.out).mono ?_; rintro e w3 ⟨A3, c3, lo3, rfl, hb3, hsz3, hk3, hf3⟩
         have HB3 := Lib.hid hb3
         have HF3 := Lib.hid hf3
         clear hb3 hk3 hf3)
      | (go_at_call 8; refine (awake_any w).mono ?_; rintro e w2 ⟨rfl, hb2⟩; have HB2 := Lib.hid hb2; clear hb2)
      | fail)
    have hr7 : RowAt (w4.alloc (.cells Z 5)) w4.heap.size 5 (lvs (lev ds fun _ _ => 0) n) := ⟨_, heap_alloc_new _ _, by rw [HZZ.out, lev_none]; exact List.take_of_length_le (Nat.le_refl _)⟩
    have hb7 : Below w.heap.size w (w4.alloc (.cells Z 5)) := HB4.out.alloc HB4.out.size _
    have hn7 := HNB4.out.below (w' := w4.alloc (.cells Z 5)) ((Below.refl _ _).alloc (Nat.le_refl _) _)
    have hmb1 : w.heap.size ≤ w3.heap.size := HB3.out.size
    have hgb := HNB4.out.lt
    have hg0 : w.heap.size < w4.heap.size := by omega
    clear HMK HNW HF3 HB3 HB4 HNB4 HB2 hsz3 hmk37 HZZ
    generalize w4.alloc (.cells Z 5) = w7 at *
    generalize w4.heap.size = g at *
    generalize w3.heap.size = mb at *
    have HR7 := Lib.hid hr7
    have HB7 := Lib.hid hb7
    have HN7 := Lib.hid hn7
    clear hr7 hb7 hn7
    go_loopw [8] (fun iv wr => ∃ (k : Nat) (W : Int → Int → Nat), k ≤ 100 ∧ k ≤ m ∧ iv = .int .i64 k ∧ Nb wr (mb + 1) mb g k ds W ∧ RowAt wr g 5 (lvs (lev ds W) n) ∧ From S k W ∧ Below w.heap.size w wr) (fun iv _ => 100 - (intOf iv).toNat)
    case atStart => exact ⟨0, _, by omega, by omega, rfl, HN7.out, HR7.out, from_none S, HB7.out⟩
    case round =>
      obtain ⟨k, W, hk100, hkm, rfl, hn1, hr1, hfr, hb⟩ := hrel
      clear HN7 HR7 HB7
      have HN1 := Lib.hid hn1
      have HR1 := Lib.hid hr1
      have HFR := Lib.hid hfr
      have HB := Lib.hid hb
      clear hn1 hr1 hfr hb
      obtain ⟨cb, hcb⟩ : ∃ cb : Bool, cb = decide (k < m ∧ k < 100) := ⟨_, rfl⟩
      have HCB := Lib.hid hcb
      clear hcb
      go_upto_region 8 with fail
      go_cut [51] from 44 to 178 (fun c wx => c = .bool cb ∧ wr = wx)
      case first =>
        by_cases hk1 : (k : Int) < (m : Int)
        · by_cases hk2 : (k : Int) < 100
          · go_wp2_with fail
            go_meet
            exact ⟨by rw [HCB.out, decide_eq_true]; omega, rfl⟩
          · go_wp2_with fail
            go_meet
            exact ⟨by rw [HCB.out, decide_eq_false]; omega, rfl⟩
        · go_wp2_with fail
          go_meet
          exact ⟨by rw [HCB.out, decide_eq_false]; omega, rfl⟩
      case rest =>
      obtain ⟨rfl, rfl⟩ := hcut
      by_cases hgo : k < m ∧ k < 100
      · obtain rfl : cb = true := by rw [HCB.out]; exact decide_eq_true hgo
        obtain ⟨hkm2, hk2⟩ := hgo
        have hk1 : (k : Int) < (m : Int) := by omega
        have hks : k < S.length := by rw [← HM.out]; exact hkm2
        obtain ⟨b, off, rfl, hbb, z0, z1, z2, z3⟩ := (HS.out.below HB.out).st hks
        have hlv := (HWF.out _ (List.getElem_mem hks)).lv
        have hfv := HFR.out.vote hks ds S[k].lv
        have hfl := HFR.out.leave S[k].u
        obtain ⟨y, hy⟩ : ∃ y, y = S[k] := ⟨_, rfl⟩
        rw [← hy] at z0 z1 z2 z3 hlv hfv hfl
        clear hy
        have HFV := Lib.hid hfv
        have HFL := Lib.hid hfl
        clear hfv hfl
        go_upto_region 11 with fail
        have hal : Below wr.heap.size wr (wr.alloc (.cells #[.int .i64 y.k, .int .i64 y.u, .int .i64 y.d, .int .u8 (y.lv : Int)] 25)) := (Below.refl _ _).alloc (Nat.le_refl _) _
        have hn9 := HN1.out.below hal
        have hr9 := HR1.out.keep (hal.block g HR1.out.lt)
        have hb9 := HB.out.trans (hal.mono HB.out.size)
        have hrow : RowAt (wr.alloc (.cells #[.int .i64 y.k, .int .i64 y.u, .int .i64 y.d, .int .u8 (y.lv : Int)] 25)) wr.heap.size 25 [.int .i64 y.k, .int .i64 y.u, .int .i64 y.d, .int .u8 (y.lv : Int)] := ⟨_, heap_alloc_new _ _, rfl⟩
        have hgr : g ≤ wr.heap.size := HN1.out.lt.2.2
        clear hal z0 z1 z2 z3
        generalize wr.alloc (.cells #[.int .i64 y.k, .int .i64 y.u, .int .i64 y.d, .int .u8 (y.lv : Int)] 25) = w9 at *
        generalize wr.heap.size = gx at *
        have x0 := hrow.cell (k := 0) (by simp)
        have x1 := hrow.cell (k := 1) (by simp)
        have x2 := hrow.cell (k := 2) (by simp)
        have x3 := hrow.cell (k := 3) (by simp)
        simp only [List.getElem?_cons_succ, List.getElem?_cons_zero] at x0 x1 x2 x3
        have hgl := hrow.lt
        have hok := HOK.out
        have hv := vote_nb hn9 (by unfold maxLen; omega) y.u y.d y.lv hlv
        have hv2 := leave_nb hn9 y.u
        have hft := vote_fits hok (W := W) y.u y.d y.lv
        have hft2 := leave_fits hok hn9.net.top y.u
        have hcl := voteC_len2 ds W y.u y.d y.lv
        have hcl2 : (leaveC ds W y.u).length ≤ ds.length + ds.length := chgs_len _ _ _
        rw [HDL.out] at hcl hcl2
        have HV := Lib.hid hv
        have HV2 := Lib.hid hv2
        have HFT := Lib.hid hft
        have HFT2 := Lib.hid hft2
        have HR9 := Lib.hid hr9
        have HB9 := Lib.hid hb9
        have hgn : g < w9.heap.size := by omega
        clear hn9 hr9 hb9 hrow hok hv hv2 hft hft2 HN1 HR1 HB HFR
        go_upto_if 60 with fail
        go_cut [10] from 44 to 178 (fun v wx => ∃ (A : Option Addr) (c : Nat) (chs : List (Nat × Nat × Nat)) (W' : Int → Int → Nat), v = .slice A chs.length c ∧ Seg wx wx.heap.size A (chCells chs) ∧ (0 < chs.length → ∀ b off, A = some ⟨b, off, none⟩ → g < b) ∧ Nb wx (mb + 1) mb g (k + 1) ds W' ∧ From S (k + 1) W' ∧ Fits ds (lev ds W) chs ∧ (∀ i, i < ds.length → fin (lev ds W) chs i = lev ds W' i) ∧ chs.length ≤ 512 ∧ RowAt wx g 5 (lvs (lev ds W) n) ∧ Below w.heap.size w wx)
        case first =>
          by_cases hy2 : y.k = 2
          · go_wp2_with (go_at_call 14; refine HV2.out.mono ?_; rintro e w10 ⟨A10, c10, rfl, hown10, hn10, hf10⟩
                         have hr10 := HR9.out.keep (hf10.block g hgn (by omega))
                         have hb10 := HB9.out.trans (hf10.toBelow HB9.out.size (fun j hj hs => by omega))
                         have HOWN10 := Lib.hid hown10
                         have HN10 := Lib.hid hn10
                         have HR10 := Lib.hid hr10
                         have HB10 := Lib.hid hb10
                         clear hown10 hn10 hf10 hr10 hb10)
            go_meet
            exact ⟨A10, c10, _, _, rfl, own_seg HOWN10.out, fun h b off e => Nat.lt_of_lt_of_le hgn (own_gt HOWN10.out h b off e), HN10.out.more (by omega), HFL.out, HFT2.out.1, HFT2.out.2, by omega, HR10.out, HB10.out⟩
          · go_wp2_with (go_at_call 11; refine HV.out.mono ?_; rintro e w10 ⟨A10, c10, rfl, hown10, hn10, hf10⟩
                         have hr10 := HR9.out.keep (hf10.block g hgn (by omega))
                         have hb10 := HB9.out.trans (hf10.toBelow HB9.out.size (fun j hj hs => by omega))
                         have HOWN10 := Lib.hid hown10
                         have HN10 := Lib.hid hn10
                         have HR10 := Lib.hid hr10
                         have HB10 := Lib.hid hb10
                         clear hown10 hn10 hf10 hr10 hb10)
            go_meet
            exact ⟨A10, c10, _, _, rfl, own_seg HOWN10.out, fun h b off e => Nat.lt_of_lt_of_le hgn (own_gt HOWN10.out h b off e), HN10.out, HFV.out, HFT.out.1, HFT.out.2, by omega, HR10.out, HB10.out⟩
        case rest =>
        obtain ⟨A, c, chs, W', rfl, hseg, hgt, hn10, hfr10, hfits, hfin, hlen, hr10, hb10⟩ := hcut
        obtain ⟨w10, rfl⟩ : ∃ w', w' = wc := ⟨wc, rfl⟩
        obtain ⟨nc, hnc⟩ : ∃ nc, nc = chs.length := ⟨_, rfl⟩
        rw [← hnc] at hlen hgt ⊢
        obtain ⟨f, hf⟩ : ∃ f, f = lev ds W := ⟨_, rfl⟩
        rw [← hf] at hfits hfin hr10
        have HSEG := Lib.hid hseg
        have HGT := Lib.hid hgt
        have HN10 := Lib.hid hn10
        have HFR10 := Lib.hid hfr10
        have HFITS := Lib.hid hfits
        have HFIN := Lib.hid hfin
        have HR10 := Lib.hid hr10
        have HB10 := Lib.hid hb10
        have HNC := Lib.hid hnc
        have hg10 := hn10.lt.2.2
        clear hseg hgt hn10 hfr10 hfits hfin hr10 hb10 hnc hf HV HV2 HFT HFT2 HR9 HB9 HFV HFL hcl hcl2 hlv x0 x1 x2 x3
        go_wp2_with fail
        go_loopw [11] (fun iv wr => ∃ q : Nat, q ≤ nc ∧ iv = .int .i64 q ∧ RowAt wr g 5 (lvs (fin f (chs.take q)) n) ∧ Frame (fun j => j = g) w10 wr) (fun iv _ => nc - (intOf iv).toNat)
        case atStart => exact ⟨0, by omega, rfl, HR10.out, Frame.refl _ _⟩
        case round =>
          obtain ⟨q, hqn, rfl, hr, hfr⟩ := hrel
          have HR := Lib.hid hr
          have HFRM := Lib.hid hfr
          have hbw := HB10.out.trans (hfr.toBelow HB10.out.size (fun j hj hs => by omega))
          have HB := Lib.hid hbw
          clear hr hfr hbw
          by_cases hqc : q < nc
          · have hqi : (q : Int) < (nc : Int) := by omega
            have hic : q < chs.length := by rw [← HNC.out]; exact hqc
            obtain ⟨b, off, rfl, hbb, z0, z1, z2⟩ := seg_ch HSEG.out hic
            have hgb2 := HGT.out (by omega) b off rfl
            have hkb : wr.heap[b]? = w10.heap[b]? := HFRM.out.block b hbb (by omega)
            replace z0 := (World.cell?_of_block (a := ⟨b, off + q * 3, none⟩) hkb).trans z0
            replace z1 := (World.cell?_of_block (a := ⟨b, off + q * 3 + 1, none⟩) hkb).trans z1
            replace z2 := (World.cell?_of_block (a := ⟨b, off + q * 3 + 2, none⟩) hkb).trans z2
            obtain ⟨y1, y2, y3, y4, y5, y6⟩ := fits_at ds chs f q hic HFITS.out
            obtain ⟨cd, hcd⟩ : ∃ x, x = chs[q].1 := ⟨_, rfl⟩
            obtain ⟨fr, hfr⟩ : ∃ x, x = chs[q].2.1 := ⟨_, rfl⟩
            obtain ⟨tt, htt⟩ : ∃ x, x = chs[q].2.2 := ⟨_, rfl⟩
            rw [← hcd] at z0 y1 y2 y4 y6
            rw [← hfr] at z1 y2 y3
            rw [← htt] at z2 y3 y4 y6
            have hcn : cd < n := by rw [← HDL.out]; exact y1
            have hcl : cd < l.length := by rw [← HN.out]; exact hcn
            obtain ⟨b2, off2, rfl, hbb2, t0, t1, _⟩ := (HD.out.below HB.out).at_ hcl
            obtain ⟨tp, htp⟩ : ∃ x, x = l[cd].t := ⟨_, rfl⟩
            rw [← htp] at t1
            have htt2 : tt ≤ tp := by
              have := y4 y1
              have hds := HDS.out
              subst hds
              rw [top_dms l y1] at this
              omega
            have s0 := HR.out.cell (k := cd) (by rw [lvs_len]; exact hcn)
            rw [lvs_get _ hcn, ← y2] at s0
            have sf := HR.out.frozen cd
            have hset := lvs_set (fin f (chs.take q)) hcn tt
            rw [← y6] at hset
            have HSET := Lib.hid hset
            have HY5 := Lib.hid y5
            have hbr : b < wr.heap.size := Nat.lt_of_lt_of_le hbb HFRM.out.size
            have hwg : g < wr.heap.size := HR.out.lt
            have hb2r : b2 < wr.heap.size := Nat.lt_of_lt_of_le hbb2 HB.out.size
            clear hcd hfr htt htp y1 y2 y4 y5 y6 hset hkb t0
            have hcd2 : decide (n ≤ cd) = false := decide_eq_false (by omega)
            have hcd3 : decide ((n : Int) ≤ (cd : Int)) = false := decide_eq_false (by omega)
            have hcd4 : decide ((cd : Int) < 0) = false := decide_eq_false (by omega)
            have hft1 : decide (fr = tt) = false := decide_eq_false y3
            have hft2 : decide ((fr : Int) = (tt : Int)) = false := decide_eq_false (by omega)
            have hft3 : ((fr : Int) == (tt : Int)) = false := by rw [beq_eq_false_iff_ne]; omega
            have htt3 : decide ((tp : Int) < (tt : Int)) = false := decide_eq_false (by omega)
            have htt4 : decide (tp < tt) = false := decide_eq_false (by omega)
            have hcdi : (cd : Int) < (n : Int) := by omega
            go_upto_region 19 with fail
            have hal : Below wr.heap.size wr (wr.alloc (.cells #[.int .i64 (cd : Int), .int .u8 (fr : Int), .int .u8 (tt : Int)] 40)) := (Below.refl _ _).alloc (Nat.le_refl _) _
            have hrow : RowAt (wr.alloc (.cells #[.int .i64 (cd : Int), .int .u8 (fr : Int), .int .u8 (tt : Int)] 40)) wr.heap.size 40 [.int .i64 (cd : Int), .int .u8 (fr : Int), .int .u8 (tt : Int)] := ⟨_, heap_alloc_new _ _, rfl⟩
            have hr11 := HR.out.keep (hal.block g hwg)
            have hf11 : Frame (fun j => j = g) w10 (wr.alloc (.cells #[.int .i64 (cd : Int), .int .u8 (fr : Int), .int .u8 (tt : Int)] 40)) := HFRM.out.below hal
            have s1 := hal.cell (p := ⟨g, cd, none⟩) hwg |>.trans s0
            have t2 := hal.cell (p := ⟨b2, off2 + cd * 2 + 1, none⟩) hb2r |>.trans t1
            have sf1 := hr11.frozen cd
            clear hal z0 z1 z2 s0 t1 sf
            generalize wr.alloc (.cells #[.int .i64 (cd : Int), .int .u8 (fr : Int), .int .u8 (tt : Int)] 40) = w11 at *
            generalize wr.heap.size = gc at *
            have x0 := hrow.cell (k := 0) (by simp)
            have x1 := hrow.cell (k := 1) (by simp)
            have x2 := hrow.cell (k := 2) (by simp)
            simp only [List.getElem?_cons_succ, List.getElem?_cons_zero] at x0 x1 x2
            have HR11 := Lib.hid hr11
            have HF11 := Lib.hid hf11
            clear hr11 hf11 hrow HR HFRM HB
            go_quiet (fail)
            go_wp2_with fail
            have hr12 : RowAt ((w11.drewN nq).setCell ⟨g, cd, none⟩ (.int .u8 (tt : Int))) g 5 (lvs (fin f (chs.take (q + 1))) n) := by
              rw [← HSET.out]
              exact (HR11.out.keep (w' := w11.drewN nq) rfl).store cd _
            have hf12 : Frame (fun j => j = g) w10 ((w11.drewN nq).setCell ⟨g, cd, none⟩ (.int .u8 (tt : Int))) := (HF11.out.drewN nq).setCell (fun _ => rfl) _
            generalize (w11.drewN nq).setCell ⟨g, cd, none⟩ (.int .u8 (tt : Int)) = w12 at *
            obtain ⟨fq, hfq⟩ : ∃ fq, fq = fin f (chs.take (q + 1)) := ⟨_, rfl⟩
            rw [← hfq] at hr12
            have hy5 := HY5.out
            rw [← hfq] at hy5
            have HFQ := Lib.hid hfq
            have HT5 := Lib.hid hy5
            have hb12 := HB10.out.trans (hf12.toBelow HB10.out.size (fun j hj hs => by omega))
            have HR12 := Lib.hid hr12
            have HF12 := Lib.hid hf12
            have HB12 := Lib.hid hb12
            have hgw : g < w12.heap.size := hr12.lt
            have hww : w.heap.size ≤ w12.heap.size := hb12.size
            clear hr12 hf12 hfq hy5 hb12 HR11 HF11 HSET HY5 x0 x1 x2 s1 t2 sf1 hcd2 hcd3 hcd4 hft1 hft2 hft3 htt3 htt4 hcdi htt2 y3
            go_loopw [13] (fun iv wr => ∃ d : Nat, d ≤ n ∧ iv = .int .i64 d ∧ Below w12.heap.size w12 wr) (fun iv _ => n - (intOf iv).toNat)
            case atStart => exact ⟨0, by omega, rfl, Below.refl _ _⟩
            case round =>
              obtain ⟨d, hd, rfl, hb13⟩ := hrel
              have HB13 := Lib.hid hb13
              clear hb13
              by_cases hdn : d < n
              · have hdi : (d : Int) < (n : Int) := by omega
                have hdl : d < l.length := by rw [← HN.out]; exact hdn
                obtain ⟨u, hu⟩ : ∃ u, u = l[d].u := ⟨_, rfl⟩
                obtain ⟨Au, hAu⟩ : ∃ u, u = l[d].A := ⟨_, rfl⟩
                obtain ⟨cu, hcu⟩ : ∃ u, u = l[d].c := ⟨_, rfl⟩
                have HU := Lib.hid hu
                have HDN := Lib.hid hdl
                have hwr : w12.heap.size ≤ wr.heap.size := HB13.out.size
                have hgood := HMAY.out.2 d hdl
                rw [← hu] at hgood
                have HGOOD := Lib.hid hgood
                have HAU := Lib.hid hAu
                have HCU := Lib.hid hcu
                obtain ⟨mu, hmu⟩ : ∃ mu, mu = u.length := ⟨_, rfl⟩
                have HMU := Lib.hid hmu
                have hmu8 : mu ≤ 8 := by rw [hmu]; exact hgood.1
                clear hu hAu hcu hgood hmu
                go_wp2_with fail
                go_loopw [14] (fun iv wr => ∃ j : Nat, j ≤ mu ∧ iv = .int .i64 j ∧ Below w12.heap.size w12 wr) (fun iv _ => mu - (intOf iv).toNat)
                case atStart => exact ⟨0, by omega, rfl, HB13.out⟩
                case round =>
                  obtain ⟨j, hj, rfl, hb14⟩ := hrel
                  clear HB13
                  have HB14 := Lib.hid hb14
                  clear hb14
                  obtain ⟨b3, off3, e3, hbb3, t0, t1, hun⟩ := (HD.out.below (HB12.out.trans (HB14.out.mono hww))).at_ HDN.out
                  injection e3 with e3
                  injection e3 with e3 e4
                  subst e3 e4
                  rw [← HU.out, ← HAU.out, ← HCU.out, ← HMU.out] at t0
                  rw [← HU.out, ← HAU.out] at hun
                  have HUN := Lib.hid hun
                  clear hun t1
                  have hb2w : b2 < wr.heap.size := by have := HB14.out.size; omega
                  by_cases hjm : j < mu
                  · have hji : (j : Int) < (mu : Int) := by omega
                    have hju : j < u.length := by rw [← HMU.out]; exact hjm
                    obtain ⟨b4, off4, rfl, hbb4, y0⟩ := HUN.out.ints hju
                    obtain ⟨g1, g2, _⟩ := HGOOD.out.2 j hju
                    have hdl2 := HDN.out
                    have hund : u[j].toNat ∈ und ds d := by
                      rw [HDS.out, und_dms l hdl2, ← HU.out]
                      exact List.mem_map_of_mem (List.getElem_mem hju)
                    have hcl := HT5.out d _ hund
                    obtain ⟨v, hv⟩ : ∃ v : Nat, u[j] = (v : Int) := ⟨u[j].toNat, (Int.toNat_of_nonneg g1).symm⟩
                    rw [hv] at y0 g2 hcl
                    rw [Int.toNat_natCast] at hcl
                    have hvn : v < n := by omega
                    have hvi : (v : Int) < (n : Int) := by omega
                    have hrr := HR12.out.keep (HB14.out.block g hgw)
                    have c1 := (hrr.cell (k := d) (by rw [lvs_len]; exact hdn)).trans (lvs_get _ hdn)
                    have c2 := (hrr.cell (k := v) (by rw [lvs_len]; exact hvn)).trans (lvs_get _ hvn)
                    generalize fq d = p1 at c1 hcl
                    generalize fq v = p2 at c2 hcl
                    have hp1 : decide ((p2 : Int) < (p1 : Int)) = false := decide_eq_false (by omega)
                    have hp2 : decide (p2 < p1) = false := decide_eq_false (by omega)
                    clear hrr hund hv g1 hdl2
                    go_wp2_with fail
                    go_quiet (fail)
                    go_wp2_with fail
                    exact ⟨⟨j + 1, by omega, by go_num, below_drewN HB14.out _⟩, by simp [intOf]; omega⟩
                  · obtain rfl : j = mu := by omega
                    go_wp2_with fail
                    exact ⟨⟨d + 1, by omega, by go_num, HB14.out⟩, by simp [intOf]; omega⟩
              · obtain rfl : d = n := by omega
                go_wp2_with fail
                refine ⟨⟨q + 1, by omega, by go_num, ?_, HF12.out.below HB13.out⟩, by simp [intOf]; omega⟩
                rw [← HFQ.out]
                exact HR12.out.keep (HB13.out.block g hgw)
          · obtain rfl : q = nc := by omega
            have hr11 := HR.out
            rw [HNC.out, List.take_length, lvs_congr (g := lev ds W') (fun i hi => HFIN.out i (by rw [HDL.out]; exact hi))] at hr11
            have hn11 := HN10.out.other HFRM.out (fun j hj => by omega)
            obtain ⟨w11, rfl⟩ : ∃ w', w' = wr := ⟨wr, rfl⟩
            have hln := fun w6 (hb : Below w11.heap.size w11 w6) (d : Nat) (hd : d < n) => level_nat (hn11.below hb).net (d := d) (by rw [HDL.out]; exact hd)
            have HLN := Lib.hid hln
            have HR11 := Lib.hid hr11
            have HN11 := Lib.hid hn11
            have hgw : g < w11.heap.size := hr11.lt
            clear hln hr11 hn11 HR HFRM HFIN HFITS HSEG HGT
            go_wp2_with fail
            go_loopw [15] (fun iv wr => ∃ d : Nat, d ≤ n ∧ iv = .int .i64 d ∧ Below w11.heap.size w11 wr) (fun iv _ => n - (intOf iv).toNat)
            case atStart => exact ⟨0, by omega, rfl, Below.refl _ _⟩
            case round =>
              obtain ⟨d, hd, rfl, hb12⟩ := hrel
              have HB12 := Lib.hid hb12
              clear hb12
              by_cases hdn : d < n
              · have hdi : (d : Int) < (n : Int) := by omega
                have hrr := HR11.out.keep (HB12.out.block g hgw)
                have c1 := (hrr.cell (k := d) (by rw [lvs_len]; exact hdn)).trans (lvs_get _ hdn)
                have hl := fun w6 hb => HLN.out w6 hb d hdn
                generalize lev ds W' d = p1 at c1 hl
                have HL := Lib.hid hl
                clear hl hrr
                go_wp2_with fail
                go_quiet ((go_at_call 13; exact Calls.quiet_of_same (turn_same (HL.out _ (below_drewN HB12.out _)))))
                go_wp2_with fail
                exact ⟨⟨d + 1, by omega, by go_num, below_drewN HB12.out _⟩, by simp [intOf]; omega⟩
              · obtain rfl : d = n := by omega
                go_wp2_with fail
                exact ⟨⟨k + 1, W', by omega, by omega, by go_num, HN11.out.below HB12.out, HR11.out.keep (HB12.out.block g hgw), HFR10.out, HB.out.trans (HB12.out.mono HB.out.size)⟩, by simp [intOf]; omega⟩
      · obtain rfl : cb = false := by rw [HCB.out]; exact decide_eq_false hgo
        obtain ⟨w8, rfl⟩ : ∃ w', w' = wr := ⟨wr, rfl⟩
        have hcases : (k = m ∧ k ≤ 100) ∨ (k = 100 ∧ k ≤ m) := by omega
        have HCS := Lib.hid hcases
        have hw8 : w.heap.size ≤ w8.heap.size := HB.out.size
        have hkS : k ≤ S.length := by rw [← HM.out]; exact hkm
        clear hgo hcases HR1 HCB
        go_wp2_with fail
        go_loopw [16] (fun iv wr => ∃ d : Nat, d ≤ n ∧ iv = .int .i64 d ∧ Below w8.heap.size w8 wr) (fun iv _ => n - (intOf iv).toNat)
        case atStart => exact ⟨0, by omega, rfl, Below.refl _ _⟩
        case round =>
          obtain ⟨d, hd, rfl, hb9⟩ := hrel
          have HB9 := Lib.hid hb9
          clear hb9
          by_cases hdn : d < n
          · have hdi : (d : Int) < (n : Int) := by omega
            have hab := above_any Al capl l n HN.out HMAY.out (by rw [← HDS.out]; exact HOK.out) d hdn wr w.heap.size (Nat.le_trans hw8 HB9.out.size) (HD.out.below (HB.out.trans (HB9.out.mono hw8)))
            rw [← HDS.out] at hab
            have HAB := Lib.hid hab
            clear hab
            go_wp2_with (go_at_call 17; refine HAB.out.mono ?_; rintro e w9 ⟨rfl, hr9, hb9⟩
                         have hb9' := HB9.out.trans (hb9.mono HB9.out.size)
                         have HR9 := Lib.hid hr9
                         have HB99 := Lib.hid hb9'
                         clear hr9 hb9 hb9')
            have hn9 := HN1.out.below HB99.out
            have HN9 := Lib.hid hn9
            clear hn9 HAB
            generalize wr.heap.size = ga at *
            have hfit := HN9.out.net.fit
            have HFIT := Lib.hid hfit
            clear hfit
            go_loopw [18, 19] (fun sv iv wr => ∃ (j want : Nat), j ≤ n ∧ iv = .int .i64 j ∧ sv = .int .u8 (want : Int) ∧ Most ds W d j want ∧ wr = w9) (fun _ iv _ => n - (intOf iv).toNat)
            case atStart => exact ⟨0, 0, by omega, rfl, rfl, most_none _ _ _, rfl⟩
            case round =>
              obtain ⟨j, want, hj, rfl, rfl, hmo, rfl⟩ := hrel
              have HMO := Lib.hid hmo
              clear hmo
              by_cases hjn : j < n
              · have hji : (j : Int) < (n : Int) := by omega
                have c1 := (HR9.out.cell (k := j) (by rw [bools_len]; exact hjn)).trans (bools_get _ hjn)
                by_cases hrk : reachB ds d j = true
                · rw [hrk] at c1
                  have hmo2 : ∀ want', Seen S W j k want want' → Most ds W d (j + 1) want' := fun want' h => HMO.out.step (reachB_iff.1 hrk) h HFR.out
                  have hse := seen_none S W j want HMO.out.le
                  have HMO2 := Lib.hid hmo2
                  have HSE := Lib.hid hse
                  clear hrk hmo2 hse HMO
                  go_wp2_with fail
                  go_loopw [18, 20] (fun sv iv wx => ∃ (i want' : Nat), i ≤ k ∧ iv = .int .i64 i ∧ sv = .int .u8 (want' : Int) ∧ Seen S W j i want want' ∧ wx = wr) (fun _ iv _ => k - (intOf iv).toNat)
                  case atStart => exact ⟨0, _, by omega, rfl, rfl, HSE.out, rfl⟩
                  case round =>
                    obtain ⟨i, want', hi, rfl, rfl, hse, rfl⟩ := hrel
                    clear HSE
                    have HSE := Lib.hid hse
                    clear hse
                    obtain ⟨cb, hcb⟩ : ∃ cb : Bool, cb = decide (i < k) := ⟨_, rfl⟩
                    have HCB := Lib.hid hcb
                    clear hcb
                    go_upto_region 44 with fail
                    go_cut [207] from 194 to 219 (fun c wx => c = .bool cb ∧ wr = wx)
                    case first =>
                      by_cases hk1 : (i : Int) < (m : Int)
                      · by_cases hk2 : (i : Int) < 100
                        · go_wp2_with fail
                          go_meet
                          exact ⟨by rw [HCB.out, decide_eq_true]; have := HCS.out; omega, rfl⟩
                        · go_wp2_with fail
                          go_meet
                          exact ⟨by rw [HCB.out, decide_eq_false]; have := HCS.out; omega, rfl⟩
                      · go_wp2_with fail
                        go_meet
                        exact ⟨by rw [HCB.out, decide_eq_false]; have := HCS.out; omega, rfl⟩
                    case rest =>
                    obtain ⟨rfl, rfl⟩ := hcut
                    by_cases hik : i < k
                    · obtain rfl : cb = true := by rw [HCB.out]; exact decide_eq_true hik
                      have hiS : i < S.length := by omega
                      have him : (i : Int) < (m : Int) := by have := HM.out; omega
                      obtain ⟨b, off, rfl, hbb, z0, z1, z2, z3⟩ := (HS.out.below (HB.out.trans (HB99.out.mono hw8))).st hiS
                      have hwf := HWF.out _ (List.getElem_mem hiS)
                      have hst := HSE.out.step HFIT.out hiS
                      obtain ⟨y, hy⟩ : ∃ y, y = S[i] := ⟨_, rfl⟩
                      rw [← hy] at z1 hwf hst
                      have hwn := wants_net HN9.out.net y.u (j : Int) hwf.u (by simp [Lit.wf, IntKind.min, IntKind.max, IntKind.signed, IntKind.bits]; omega)
                      obtain ⟨v, hv⟩ : ∃ v, v = W y.u j := ⟨_, rfl⟩
                      rw [← hv] at hst hwn
                      have HST := Lib.hid hst
                      have HWN := Lib.hid hwn
                      have hbr : b < wr.heap.size := by have := HB99.out.size; omega
                      clear hst hwn hy hv z0 z2 z3 hwf
                      go_wp2_with (first
                        | (go_at_call 12; refine HWN.out.mono ?_; rintro e w10 ⟨rfl, rfl⟩)
                        | fail)
                      refine ⟨⟨i + 1, max want' v, by omega, by go_num, ?_, HST.out, by first | rfl | trivial⟩, by simp [intOf]; omega⟩
                      have hmx : (if want' < v then (v : Int) else (want' : Int)) = ((max want' v : Nat) : Int) := by split <;> omega
                      rw [hmx]
                    · obtain rfl : cb = false := by rw [HCB.out]; exact decide_eq_false hik
                      obtain rfl : i = k := by omega
                      go_wp2_with fail
                      exact ⟨⟨j + 1, want', by omega, by go_num, rfl, HMO2.out _ HSE.out, by first | rfl | trivial⟩, by simp [intOf]; omega⟩
                · have hrf : reachB ds d j = false := by simpa using hrk
                  rw [hrf] at c1
                  have hmo2 := HMO.out.skip (fun h => hrk (reachB_iff.2 h))
                  have HMO2 := Lib.hid hmo2
                  clear hrk hrf hmo2 HMO
                  go_wp2_with fail
                  go_loopw [18, 20] (fun sv iv wx => iv = .int .i64 0 ∧ sv = .int .u8 (want : Int) ∧ wx = wr) (fun _ iv _ => 0)
                  case atStart => exact ⟨rfl, rfl, rfl⟩
                  case round =>
                    obtain ⟨rfl, rfl, rfl⟩ := hrel
                    go_wp2_with fail
                    exact ⟨⟨j + 1, want, by omega, by go_num, rfl, HMO2.out, by first | rfl | trivial⟩, by simp [intOf]; omega⟩
              · obtain rfl : j = n := by omega
                have hlev : lev ds W d = want := Most.lev HOK.out (by rw [HDL.out]; exact hdn) (by rw [HDL.out]; exact HMO.out)
                have hl := level_nat HN9.out.net (d := d) (by rw [HDL.out]; exact hdn)
                rw [hlev] at hl
                have HL := Lib.hid hl
                clear hl
                by_cases hw0 : want = 0
                · subst hw0
                  have hwy := why_zero HN9.out.net (d := (d : Int)) (by unfold levelAt; rw [if_pos ⟨by omega, by rw [HDL.out]; exact hdi⟩, Int.toNat_natCast]; exact hlev)
                  have HWY := Lib.hid hwy
                  clear hwy hlev HMO
                  go_wp2_with (first
                    | (go_at_call 18; refine HWY.out.mono ?_; rintro e w10 ⟨rfl, rfl⟩)
                    | (go_at_call 13; refine HL.out.mono ?_; rintro e w10 ⟨rfl, rfl⟩)
                    | fail)
                  exact ⟨⟨d + 1, by omega, by go_num, HB99.out⟩, by simp [intOf]; omega⟩
                · have hwy := why_net HN9.out.net (d := d) (by rw [HDL.out]; exact hdn) (by omega)
                  have hgar : ga < wr.heap.size := HR9.out.lt
                  have HWY := Lib.hid hwy
                  have hw1 : ¬ (want : Int) = 0 := by omega
                  have hw2 : 0 < (want : Int) := by omega
                  have hw3 : 0 < want := by omega
                  have HLEV := Lib.hid hlev
                  clear hwy hlev HMO
                  go_wp2_with (first
                    | (go_at_call 12; refine HWN.out.mono ?_; rintro e w11 ⟨rfl, rfl⟩)
                    | (go_at_call 18; refine HWY.out.mono ?_; rintro e w10 ⟨u, a, rfl, hwr, hb10⟩
                       obtain ⟨hu, hwu⟩ := why_fst hwr
                       have hre := why_reach hwr
                       have han : a < j := by rw [← HDL.out]; exact hre.lt (by rw [HDL.out]; exact hdn)
                       have hai : (a : Int) < (j : Int) := by omega
                       have c1 := ((HR9.out.keep (hb10.block ga hgar)).cell (k := a) (by rw [bools_len]; exact han)).trans (bools_get _ han)
                       rw [reachB_iff.2 hre] at c1
                       have hwn := wants_net (HN9.out.below hb10).net (u : Int) (a : Int) (by simp [Lit.wf, IntKind.min, IntKind.max, IntKind.signed, IntKind.bits]; omega) (by simp [Lit.wf, IntKind.min, IntKind.max, IntKind.signed, IntKind.bits]; omega)
                       rw [hwu, HLEV.out] at hwn
                       have hb110 := HB99.out.trans (hb10.mono HB99.out.size)
                       have HWN := Lib.hid hwn
                       have HB10 := Lib.hid hb110
                       clear hwr hu hwu hre hwn hb10 hb110)
                    | (go_at_call 13; refine HL.out.mono ?_; rintro e w10 ⟨rfl, rfl⟩)
                    | fail)
                  exact ⟨⟨d + 1, by omega, by go_num, HB10.out⟩, by simp [intOf]; omega⟩
          · obtain rfl : d = n := by omega
            go_wp2_with fail
            go_ret
            exact ⟨by rfl, HB.out.trans (HB9.out.mono HB.out.size)⟩
  · have hnw : ∀ w3 A3 c3 lo, n = lo.length → (∀ y ∈ lo, y.t ≤ 255) → Domi w3 w3.heap.size A3 lo → lo.map Dmi.core = l.map Dmi.core → Calls Try.prog 9 #[.slice A3 n c3] w3 fun e w4 => e = .returned (.tuple #[.pointer none, .int .i64 200]) ∧ Below w3.heap.size w3 w4 := fun w3 A3 c3 lo h1 h2 h3 h4 => by
      refine (new_net A3 c3 lo n h1 h2 w3 h3).mono ?_
      rintro e w4 ⟨hb, (⟨_, rfl⟩ | ⟨hmay2, _, _⟩)⟩
      · exact ⟨rfl, hb⟩
      · exact absurd (core_may h4.symm hmay2) hmay
    have hmy : ∀ w4, Below w.heap.size w w4 → Calls Try.prog 16 #[.slice Al n capl] w4 fun e w5 => e = .returned (.bool false) ∧ Below w4.heap.size w4 w5 := fun w4 hb => by
      refine (may_any Al capl l n HN.out w4 w.heap.size hb.size (HD.out.below hb)).mono ?_
      rintro e w5 ⟨b, rfl, hbm, hb5⟩
      cases b with
      | false => exact ⟨rfl, hb5⟩
      | true => exact absurd (hbm.1 rfl) hmay
    have HNW := Lib.hid hnw
    have HMY := Lib.hid hmy
    clear hnw hmy hn hm hlt
    go_enter Try.func5, Try.ntmps5
    go_wp2_with (first
      | (go_at_call 16; refine (HMY.out w4 HB4.out).mono ?_; rintro e w5 ⟨rfl, hb5⟩
         have hb5' := HB4.out.trans (hb5.mono HB4.out.size)
         have HB5 := Lib.hid hb5'
         clear hb5 hb5')
      | (go_at_call 9; refine (HNW.out w3 A3 c3 lo3 HF3.out.1 HF3.out.2.1 HF3.out.2.2.1 HF3.out.2.2.2).mono ?_; rintro e w4 ⟨rfl, hb4⟩
         have hb4' := HB3.out.trans (hb4.mono HB3.out.size)
         have HB4 := Lib.hid hb4'
         clear hb4 hb4')
      | (go_at_call 10; refine (HMK.out w2 HB2.out).mono ?_; rintro e w3 ⟨A3, c3, lo3, rfl, hb3, hsz3, hk3, hf3⟩
         have HB3 := Lib.hid hb3
         have HF3 := Lib.hid hf3
         clear hb3 hk3 hf3)
      | (go_at_call 8; refine (awake_any w).mono ?_; rintro e w2 ⟨rfl, hb2⟩; have HB2 := Lib.hid hb2; clear hb2)
      | fail)
    go_ret
    exact ⟨by rfl, HB5.out⟩
end Go.Proofs.Ytghcemfffhjmjaa
