/- DomainsOrder: the walk. -/
import Derived.Test.YtghcemfffhjmjaaPair
import Derived.Deep.RegionHeld3
import Derived.Deep.DeepCutAuto
import Derived.Deep.CutRange
set_option linter.unusedVariables false
namespace Go.Proofs.Ytghcemfffhjmjaa
open Go.RowKit
theorem seg_first {w : World} {B : Nat} {a : Option Addr} {S : List Stp} (h : Seg w B a (stCells S)) (k : Nat) : Seg w B a (stCells (S.take k)) := by
  have e : stCells S = stCells (S.take k) ++ stCells (S.drop k) := by
    unfold stCells
    rw [← List.flatMap_append, List.take_append_drop]
  rw [e] at h
  exact seg_left h
set_option maxRecDepth 100000 in
set_option maxHeartbeats 4000000 in
theorem order_any (Al : Option Addr) (capl : Nat) (l : List Dmi) (n : Nat) (hn : n = l.length) (As : Option Addr) (caps : Nat) (S0 : List Stp) (m0 : Nat) (hm : m0 = S0.length) (hmc : m0 ≤ caps) (w : World)
    (hd : Domi w w.heap.size Al l) (hs : Seg w w.heap.size As (stCells S0)) (hwf : ∀ y ∈ S0, y.wf) (hl : n ≤ 4398046510976) (hlu : ∀ y ∈ l, y.u.length ≤ 17592186043904) (hlt : ∀ y ∈ l, y.t ≤ 255) :
    Calls Try.prog 4 #[.slice Al n capl, .slice As m0 caps] w fun e w' => e = .returned (.bool true) ∧ Below w.heap.size w w' := by
  have hmk : ∀ w2, Below w.heap.size w w2 → Calls Try.prog 10 #[.slice Al n capl] w2 fun e w3 => ∃ A3 c3 lo, e = .returned (.slice A3 n c3) ∧ Below w.heap.size w w3 ∧ w2.heap.size ≤ w3.heap.size ∧ Below w2.heap.size w2 w3 ∧ n = lo.length ∧ (∀ y ∈ lo, y.t ≤ 255) ∧ Domi w3 w3.heap.size A3 lo ∧ lo.map Dmi.core = l.map Dmi.core := fun w2 hb => by
    refine (out_any Al capl l n hn hl hlu w2 ((hd.below hb).more hb.size)).mono ?_
    rintro e w3 ⟨A3, c3, lo, rfl, hb3, hout⟩
    exact ⟨A3, c3, lo, rfl, hb.trans (hb3.mono hb.size), hb3.size, hb3, by rw [core_len hout.same]; exact hn, core_all (p := fun _ t => t ≤ 255) hout.same hlt, hout.domi, hout.same⟩
  have HMK := Lib.hid hmk
  have HS := Lib.hid hs
  have HM := Lib.hid hm
  have HWF := Lib.hid hwf
  have HDL := Lib.hid (show (dms l).length = n by rw [dms_len]; exact hn.symm)
  clear hmk hn hm hd hs hwf hlu hlt
  by_cases hmay : mayD l
  · have hnw : ∀ w3 A3 c3 lo, n = lo.length → (∀ y ∈ lo, y.t ≤ 255) → Domi w3 w3.heap.size A3 lo → lo.map Dmi.core = l.map Dmi.core → Calls Try.prog 9 #[.slice A3 n c3] w3 fun e w4 => e = .returned (.tuple #[.pointer (some ⟨w3.heap.size + 1, 0, none⟩), .int .i64 0]) ∧ Below w3.heap.size w3 w4 ∧ Nb w4 (w3.heap.size + 1) w3.heap.size w4.heap.size 0 (dms l) (fun _ _ => 0) := fun w3 A3 c3 lo h1 h2 h3 h4 => by
      refine (new_net A3 c3 lo n h1 h2 w3 h3).mono ?_
      rintro e w4 ⟨hb, (⟨hno, _⟩ | ⟨_, rfl, hnet⟩)⟩
      · exact absurd (core_may h4 hmay) hno
      · rw [dms_same h4] at hnet
        exact ⟨rfl, hb, hnet.toNb⟩
    have HNW := Lib.hid hnw
    clear hnw
    generalize dms l = ds at HDL HNW
    obtain ⟨m, hm⟩ : ∃ m, m = min m0 60 := ⟨_, rfl⟩
    obtain ⟨S, hS⟩ : ∃ S, S = S0.take 60 := ⟨_, rfl⟩
    have hmS : m = S.length := by rw [hm, hS, List.length_take, HM.out]; omega
    have hsS : Seg w w.heap.size As (stCells S) := by rw [hS]; exact seg_first HS.out 60
    have hwS : ∀ y ∈ S, y.wf := fun y hy => HWF.out y (by rw [hS] at hy; exact List.mem_of_mem_take hy)
    have hm60 : m ≤ 60 := by omega
    have HMM := Lib.hid hm
    have HMS := Lib.hid hmS
    have HSS := Lib.hid hsS
    have HWS := Lib.hid hwS
    clear hm hS hmS hsS hwS HS HM HWF
    go_enter Try.func4, Try.ntmps4
    go_upto_region 5 with (first
      | (go_at_call 9; refine (HNW.out w5 A5 c5 lo5 HF5.out.1 HF5.out.2.1 HF5.out.2.2.1 HF5.out.2.2.2).mono ?_; rintro e w6 ⟨rfl, hb6, hnb6⟩
         have hb6' := HB5.out.trans (hb6.mono HB5.out.size)
         have hnb4 := (HNB4.out.below HK5.out).below hb6
         have HB6 := Lib.hid hb6'
         have HNB6 := Lib.hid hnb6
         have HNB46 := Lib.hid hnb4
         clear hb6 hb6' hnb6 hnb4)
      | (go_at_call 10; refine (HMK.out w4 HB4.out).mono ?_; rintro e w5 ⟨A5, c5, lo5, rfl, hb5, hsz5, hk5, hf5⟩
         have HB5 := Lib.hid hb5
         have HK5 := Lib.hid hk5
         have HF5 := Lib.hid hf5
         clear hb5 hk5 hf5)
      | (go_at_call 9; refine (HNW.out w3 A3 c3 lo3 HF3.out.1 HF3.out.2.1 HF3.out.2.2.1 HF3.out.2.2.2).mono ?_; rintro e w4 ⟨rfl, hb4, hnb4⟩
         have hb4' := HB3.out.trans (hb4.mono HB3.out.size)
         have HB4 := Lib.hid hb4'
         have HNB4 := Lib.hid hnb4
         clear hb4 hb4' hnb4)
      | (go_at_call 10; refine (HMK.out w2 HB2.out).mono ?_; rintro e w3 ⟨A3, c3, lo3, rfl, hb3, hsz3, hk3, hf3⟩
         have HB3 := Lib.hid hb3
         have HF3 := Lib.hid hf3
         clear hb3 hk3 hf3)
      | (go_at_call 8; refine (awake_any w).mono ?_; rintro e w2 ⟨rfl, hb2⟩; have HB2 := Lib.hid hb2; clear hb2)
      | fail)
    have hmb1 : w.heap.size ≤ w3.heap.size := HB3.out.size
    have hlt1 := HNB4.out.lt
    have hmb2 : w4.heap.size ≤ w5.heap.size := hsz5
    clear HMK HNW HF3 HF5 HB3 HB4 HB5 HK5 HNB4 HB2 hsz3 hsz5
    generalize w3.heap.size = mb1 at *
    generalize w4.heap.size = B1 at *
    generalize w5.heap.size = mb2 at *
    obtain ⟨w6, rfl⟩ : ∃ w6', w6' = w6 := ⟨w6, rfl⟩
    go_upto_if 46 with fail
    go_cut [1] (fun v wx => v = .slice As m caps ∧ w6 = wx)
    case first =>
      by_cases h60 : 60 < m0
      · have h60i : (60 : Int) < (m0 : Int) := by omega
        have hci : (60 : Int) ≤ (caps : Int) := by omega
        obtain rfl : m = 60 := by have := HMM.out; omega
        go_wp2_with fail
        go_meet
        exact ⟨by first | rfl | (cases As <;> rfl), rfl⟩
      · have h60i : ¬ (60 : Int) < (m0 : Int) := by omega
        obtain rfl : m = m0 := by have := HMM.out; omega
        go_wp2_with fail
        go_meet
        exact ⟨rfl, rfl⟩
    case rest =>
    obtain ⟨rfl, rfl⟩ := hcut
    go_wp2_with fail
    go_loopw [9] (fun iv wr => ∃ (k : Nat) (W : Int → Int → Nat), k ≤ m ∧ iv = .int .i64 k ∧ Nb wr (mb1 + 1) mb1 B1 k ds W ∧ Nb wr (mb2 + 1) mb2 w6.heap.size 0 ds (fun _ _ => 0) ∧ From S k W ∧ Below w.heap.size w wr) (fun iv _ => m - (intOf iv).toNat)
    case atStart => exact ⟨0, _, by omega, rfl, HNB46.out, HNB6.out, from_none S, HB6.out⟩
    case round =>
      obtain ⟨k, W, hkm, rfl, hn1, hn2, hfr, hb⟩ := hrel
      clear HNB46 HNB6 HB6
      have HN1 := Lib.hid hn1
      have HN2 := Lib.hid hn2
      have HFR := Lib.hid hfr
      have HB := Lib.hid hb
      clear hn1 hn2 hfr hb
      by_cases hkn : k < m
      · have hk1 : (k : Int) < (m : Int) := by omega
        have hks : k < S.length := by rw [← HMS.out]; exact hkn
        obtain ⟨b, off, rfl, hbb, z0, z1, z2, z3⟩ := (HSS.out.below HB.out).st hks
        have hlv := (HWS.out _ (List.getElem_mem hks)).lv
        have hfv := HFR.out.vote hks ds S[k].lv
        obtain ⟨y, hy⟩ : ∃ y, y = S[k] := ⟨_, rfl⟩
        rw [← hy] at z0 z1 z2 z3 hlv hfv
        clear hy
        have HFV := Lib.hid hfv
        have hv := vote_nb (HN1.out.below (w' := wr.drew) (Below.refl _ _).drew) (by unfold maxLen; omega) y.u y.d y.lv hlv
        have HV := Lib.hid hv
        have hbr : b < wr.drew.heap.size := by show b < wr.heap.size; have := HB.out.size; omega
        clear hv hfv
        go_wp2_with fail
        go_region_held3 (fun W => W.cell? ⟨b, off + k * 4 + 1, none⟩ = some (.int .i64 y.u) ∧ W.cell? ⟨b, off + k * 4 + 2, none⟩ = some (.int .i64 y.d) ∧ W.cell? ⟨b, off + k * 4 + 3, none⟩ = some (.int .u8 (y.lv : Int))) (first | exact ⟨z1, z2, z3⟩ | exact ⟨q1, q2, q3⟩) (first
          | (go_at_call 11; refine HV.out.mono ?_; rintro e w7 ⟨A7, c7, rfl, _, hnet7, hf7⟩
             have hk7 : w7.heap[b]? = wr.heap[b]? := hf7.block b hbr (by omega)
             have q1 := (World.cell?_of_block (a := ⟨b, off + k * 4 + 1, none⟩) hk7).trans z1
             have q2 := (World.cell?_of_block (a := ⟨b, off + k * 4 + 2, none⟩) hk7).trans z2
             have q3 := (World.cell?_of_block (a := ⟨b, off + k * 4 + 3, none⟩) hk7).trans z3
             have hb7 : Below w.heap.size w w7 := HB.out.drew.trans (hf7.toBelow (show w.heap.size ≤ wr.drew.heap.size from HB.out.size) (fun j hj hs => by omega))
             have hn27 := (HN2.out.below (w' := wr.drew) (Below.refl _ _).drew).other hf7 (fun j hj => by omega)
             have HB7 := Lib.hid hb7
             have HN7 := Lib.hid hnet7
             have HN27 := Lib.hid hn27
             clear hb7 hnet7 hf7 hn27)
          | fail)
        go_wp2_with fail
        exact ⟨⟨k + 1, _, by omega, by go_num, HN7.out, HN27.out, HFV.out, HB7.out⟩, by simp [intOf]; omega⟩
      · obtain rfl : k = m := by omega
        obtain ⟨w8, rfl⟩ : ∃ w8, w8 = wr := ⟨wr, rfl⟩
        have hok := HN1.out.net.okd
        have htop := HN1.out.net.top
        have hfit := HN1.out.net.fit
        have hhalf := half_none S W
        rw [← HMS.out] at hhalf
        have HOK := Lib.hid hok
        have HTOP := Lib.hid htop
        have HFIT := Lib.hid hfit
        have HHALF := Lib.hid hhalf
        clear hok htop hfit hhalf
        go_wp2_with fail
        go_loopw [10] (fun iv wr => ∃ (j : Nat) (M : Int → Int → Nat), j ≤ k ∧ iv = .int .i64 ((k : Int) - 1 - j) ∧ Nb wr (mb1 + 1) mb1 B1 (k + 2 * j) ds W ∧ Nb wr (mb2 + 1) mb2 w6.heap.size j ds M ∧ Half S (k - j) W M ∧ Below w.heap.size w wr) (fun iv _ => (intOf iv + 1).toNat)
        case atStart => exact ⟨0, _, by omega, by go_num, HN1.out, HN2.out, HHALF.out, HB.out⟩
        case round =>
          obtain ⟨j, M, hj, rfl, hn1, hn2, hh, hb⟩ := hrel
          clear HN1 HN2 HB HHALF
          have HN1 := Lib.hid hn1
          have HN2 := Lib.hid hn2
          have HH := Lib.hid hh
          have HB := Lib.hid hb
          clear hn1 hn2 hh hb
          by_cases hjk : j < k
          · obtain ⟨i, hi⟩ : ∃ i, i = k - 1 - j := ⟨_, rfl⟩
            have hii : (k : Int) - 1 - j = (i : Int) := by omega
            have hik : (i : Int) < (k : Int) := by omega
            have hi0 : (0 : Int) ≤ (i : Int) := by omega
            have his : i < S.length := by rw [← HMS.out]; omega
            have hh2 := HH.out
            rw [show k - j = i + 1 by omega] at hh2
            have hstep := Half.step (n := 0) hh2 his HOK.out HTOP.out HFIT.out HN2.out.net.fit
            have hless := vote_less HOK.out HTOP.out hh2.sub S[i].u S[i].d
            have hag := vote_again HTOP.out S[i].u S[i].d
            have hwy := HWS.out _ (List.getElem_mem his)
            obtain ⟨b, off, rfl, hbb, z0, z1, z2, z3⟩ := (HSS.out.below HB.out).st his
            rw [hii]
            obtain ⟨y, hy⟩ : ∃ y, y = S[i] := ⟨_, rfl⟩
            rw [← hy] at z0 z1 z2 z3 hstep hless hag hwy
            have hn1' := HN1.out.below (w' := wr.alloc (.cells #[.int .i64 y.k, .int .i64 y.u, .int .i64 y.d, .int .u8 (y.lv : Int)] 25)) ((Below.refl _ _).alloc (Nat.le_refl _) _)
            have hn2' := HN2.out.below (w' := wr.alloc (.cells #[.int .i64 y.k, .int .i64 y.u, .int .i64 y.d, .int .u8 (y.lv : Int)] 25)) ((Below.refl _ _).alloc (Nat.le_refl _) _)
            have hb' : Below w.heap.size w (wr.alloc (.cells #[.int .i64 y.k, .int .i64 y.u, .int .i64 y.d, .int .u8 (y.lv : Int)] 25)) := HB.out.alloc HB.out.size _
            have hrow : RowAt (wr.alloc (.cells #[.int .i64 y.k, .int .i64 y.u, .int .i64 y.d, .int .u8 (y.lv : Int)] 25)) wr.heap.size 25 [.int .i64 y.k, .int .i64 y.u, .int .i64 y.d, .int .u8 (y.lv : Int)] := ⟨_, heap_alloc_new _ _, rfl⟩
            have hgb := HN2.out.lt
            have hgb1 := HN1.out.lt
            have HI := Lib.hid hi
            clear hy hh2 hi
            obtain ⟨p, hp⟩ : ∃ p, p = W y.u y.d := ⟨_, rfl⟩
            have hp255 : p ≤ 255 := by rw [hp]; exact HFIT.out.le _ _
            rw [← hp] at hstep hless hag
            have HSTEP := Lib.hid hstep
            have HLESS := Lib.hid hless
            have HAG := Lib.hid hag
            have HP := Lib.hid hp
            have HWY := Lib.hid hwy
            clear hp hstep hless hag hwy
            go_upto_region 17 with fail
            generalize wr.alloc (.cells #[.int .i64 y.k, .int .i64 y.u, .int .i64 y.d, .int .u8 (y.lv : Int)] 25) = w9 at hn1' hn2' hb' hrow ⊢
            generalize wr.heap.size = g at hrow hgb hgb1 ⊢
            have x1 := hrow.cell (k := 1) (by simp)
            have x2 := hrow.cell (k := 2) (by simp)
            simp only [List.getElem?_cons_succ, List.getElem?_cons_zero] at x1 x2
            have HN1' := Lib.hid hn1'
            have HN2' := Lib.hid hn2'
            have HB' := Lib.hid hb'
            have HROW := Lib.hid hrow
            clear hn1' hn2' hb' hrow z0 z1 z2 z3
            have hwn := wants_net HN1'.out.net y.u y.d HWY.out.u HWY.out.d
            rw [← HP.out] at hwn
            have HWN := Lib.hid hwn
            have hv := vote_nb HN2'.out (by unfold maxLen; omega) y.u y.d p hp255
            obtain ⟨eg, heg⟩ : ∃ eg, eg = voteE ds W y.u y.d p := ⟨_, rfl⟩
            rw [HLESS.out, ← heg] at hv
            have HEG := Lib.hid heg
            clear heg
            have HV := Lib.hid hv
            clear hwn hv
            go_wp2_with (first
              | (go_at_call 11; refine HV3.out.mono ?_; rintro e w12 ⟨A12, c12, rfl, _, hn12, hf12⟩
                 have hn212 := HN211.out.other hf12 (fun j hj => by omega)
                 have hb12 := HB11.out.trans (hf12.toBelow HB11.out.size (fun j hj hs => by omega))
                 have HN12 := Lib.hid hn12
                 have HN212 := Lib.hid hn212
                 have HB12 := Lib.hid hb12
                 clear hn12 hn212 hb12 hf12)
              | (go_at_call 11; refine HV2.out.mono ?_; rintro e w11 ⟨A11, c11, rfl, _, hn11, hf11⟩
                 have hn211 := HN10.out.other hf11 (fun j hj => by omega)
                 have hr11 := HR10.out.keep (hf11.block g HR10.out.lt (by omega))
                 have hb11 := HB10.out.trans (hf11.toBelow HB10.out.size (fun j hj hs => by omega))
                 have u1 := hr11.cell (k := 1) (by simp)
                 have u2 := hr11.cell (k := 2) (by simp)
                 simp only [List.getElem?_cons_succ, List.getElem?_cons_zero] at u1 u2
                 have hv3 := vote_nb hn11 (by unfold maxLen; omega) y.u y.d p hp255
                 rw [HAG.out.1, HAG.out.2.1] at hv3
                 have HV3 := Lib.hid hv3
                 have HN211 := Lib.hid hn211
                 have HB11 := Lib.hid hb11
                 clear hn11 hn211 hr11 hb11 hf11 hv3)
              | (go_at_call 11; refine HV.out.mono ?_; rintro e w10 ⟨A10, c10, rfl, _, hn10, hf10⟩
                 have hn110 := HN1'.out.other hf10 (fun j hj => by omega)
                 have hr10 := HROW.out.keep (hf10.block g HROW.out.lt (by omega))
                 have hb10 := HB'.out.trans (hf10.toBelow HB'.out.size (fun j hj hs => by omega))
                 have t1 := hr10.cell (k := 1) (by simp)
                 have t2 := hr10.cell (k := 2) (by simp)
                 simp only [List.getElem?_cons_succ, List.getElem?_cons_zero] at t1 t2
                 have hv2 := vote_nb hn110 (by unfold maxLen; omega) y.u y.d p hp255
                 rw [HAG.out.1, ← HEG.out] at hv2
                 have HV2 := Lib.hid hv2
                 have HN10 := Lib.hid hn10
                 have HR10 := Lib.hid hr10
                 have HB10 := Lib.hid hb10
                 clear hn10 hn110 hr10 hb10 hf10 hv2)
              | (go_at_call 12; refine HWN.out.mono ?_; rintro e w13 ⟨rfl, rfl⟩)
              | fail)
            refine ⟨⟨j + 1, _, by omega, ?_, HN12.out.more (by omega), HN212.out, ?_, HB12.out⟩, by simp [intOf]⟩
            · rw [show (i : Int) - 1 = (k : Int) - 1 - ((j + 1 : Nat) : Int) by have := HI.out; omega]
            · rw [show k - (j + 1) = i by have := HI.out; omega]; exact HSTEP.out
          · obtain rfl : j = k := by omega
            have hfr := HFR.out
            rw [HMS.out] at hfr
            obtain rfl : M = W := by
              have := HH.out
              rw [Nat.sub_self] at this
              exact this.all hfr
            have HFR2 := Lib.hid hfr
            clear hfr
            have e1 : decide ((0 : Int) ≤ (j : Int) - 1 - j) = false := by simp; omega
            obtain ⟨w14, rfl⟩ : ∃ w14, w14 = wr := ⟨wr, rfl⟩
            have hl1 := fun (d : Nat) (hd : d < n) => level_nat HN1.out.net (d := d) (by rw [HDL.out]; exact hd)
            have hl2 := fun (d : Nat) (hd : d < n) => level_nat HN2.out.net (d := d) (by rw [HDL.out]; exact hd)
            have HL1 := Lib.hid hl1
            have HL2 := Lib.hid hl2
            clear hl1 hl2
            go_wp2_with fail
            go_loopw [19] (fun iv wr => ∃ d : Nat, d ≤ n ∧ iv = .int .i64 d ∧ wr = w14) (fun iv _ => n - (intOf iv).toNat)
            case atStart => exact ⟨0, by omega, rfl, rfl⟩
            case round =>
              obtain ⟨d, hd, rfl, rfl⟩ := hrel
              by_cases hdn : d < n
              · have hdi : (d : Int) < (n : Int) := by omega
                have h1 := HL1.out d hdn
                have h2 := HL2.out d hdn
                generalize lev ds M d = q at h1 h2
                have H1 := Lib.hid h1
                have H2 := Lib.hid h2
                clear h1 h2
                go_wp2_with (first
                  | (go_at_call 13; refine HX.out.mono ?_; rintro e w15 ⟨rfl, rfl⟩)
                  | (go_at_call 13; refine H1.out.mono ?_; rintro e w15 ⟨rfl, rfl⟩; have HX := H2)
                  | fail)
                exact ⟨⟨d + 1, by omega, by go_num, by first | rfl | trivial⟩, by simp [intOf]; omega⟩
              · obtain rfl : d = n := by omega
                go_wp2_with fail
                go_loopw [20] (fun iv wr => ∃ (i : Nat) (W' : Int → Int → Nat), i ≤ j ∧ iv = .int .i64 i ∧ Nb wr (mb1 + 1) mb1 B1 (j + 2 * j) ds W' ∧ Gone S i M W' ∧ Below w.heap.size w wr) (fun iv _ => j - (intOf iv).toNat)
                case atStart => exact ⟨0, _, by omega, rfl, HN1.out, gone_none S M, HB.out⟩
                case round =>
                  obtain ⟨i, W', hi, rfl, hn, hg, hb⟩ := hrel
                  clear HN1 HN2 HB HL1 HL2
                  have HN := Lib.hid hn
                  have HG := Lib.hid hg
                  have HB := Lib.hid hb
                  clear hn hg hb
                  by_cases hij : i < j
                  · have hii : (i : Int) < (j : Int) := by omega
                    have his : i < S.length := by rw [← HMS.out]; exact hij
                    obtain ⟨b, off, rfl, hbb, z0, z1, z2, z3⟩ := (HSS.out.below HB.out).st his
                    have hst := HG.out.step his
                    obtain ⟨y, hy⟩ : ∃ y, y = S[i] := ⟨_, rfl⟩
                    rw [← hy] at z0 z1 z2 z3 hst
                    clear hy
                    have hlv := leave_nb HN.out y.u
                    have HLV := Lib.hid hlv
                    have HST := Lib.hid hst
                    have hgb := HN.out.lt
                    clear hlv hst
                    go_wp2_with (go_at_call 14; refine HLV.out.mono ?_; rintro e w16 ⟨A16, c16, rfl, _, hn16, hf16⟩
                                 have hb16 := HB.out.trans (hf16.toBelow HB.out.size (fun j hj hs => by omega))
                                 have HN16 := Lib.hid hn16
                                 have HB16 := Lib.hid hb16
                                 clear hn16 hf16 hb16)
                    exact ⟨⟨i + 1, _, by omega, by go_num, HN16.out, HST.out, HB16.out⟩, by simp [intOf]; omega⟩
                  · obtain rfl : i = j := by omega
                    obtain rfl : W' = fun _ _ => 0 := by
                      have := HG.out
                      rw [HMS.out] at this
                      exact this.all HFR2.out
                    have hon := on_net HN.out.net
                    rw [lev_none, onL_zero] at hon
                    have HON := Lib.hid hon
                    clear hon
                    go_wp2_with (go_at_call 15; refine HON.out.mono ?_; rintro e w17 ⟨A17, c17, rfl, _, hb17⟩)
                    go_ret
                    exact ⟨by rfl, HB.out.trans (hb17.mono HB.out.size)⟩
  · have hnw : ∀ w3 A3 c3 lo, n = lo.length → (∀ y ∈ lo, y.t ≤ 255) → Domi w3 w3.heap.size A3 lo → lo.map Dmi.core = l.map Dmi.core → Calls Try.prog 9 #[.slice A3 n c3] w3 fun e w4 => e = .returned (.tuple #[.pointer none, .int .i64 200]) ∧ Below w3.heap.size w3 w4 := fun w3 A3 c3 lo h1 h2 h3 h4 => by
      refine (new_net A3 c3 lo n h1 h2 w3 h3).mono ?_
      rintro e w4 ⟨hb, (⟨_, rfl⟩ | ⟨hmay2, _, _⟩)⟩
      · exact ⟨rfl, hb⟩
      · exact absurd (core_may h4.symm hmay2) hmay
    have HNW := Lib.hid hnw
    clear hnw
    go_enter Try.func4, Try.ntmps4
    go_wp2_with (first
      | (go_at_call 9; refine (HNW.out w5 A5 c5 lo5 HF5.out.1 HF5.out.2.1 HF5.out.2.2.1 HF5.out.2.2.2).mono ?_; rintro e w6 ⟨rfl, hb6⟩
         have hb6' := HB5.out.trans (hb6.mono HB5.out.size)
         have HB6 := Lib.hid hb6'
         clear hb6 hb6')
      | (go_at_call 10; refine (HMK.out w4 HB4.out).mono ?_; rintro e w5 ⟨A5, c5, lo5, rfl, hb5, hsz5, hk5, hf5⟩
         have HB5 := Lib.hid hb5
         have HF5 := Lib.hid hf5
         clear hb5 hk5 hf5)
      | (go_at_call 9; refine (HNW.out w3 A3 c3 lo3 HF3.out.1 HF3.out.2.1 HF3.out.2.2.1 HF3.out.2.2.2).mono ?_; rintro e w4 ⟨rfl, hb4⟩
         have hb4' := HB3.out.trans (hb4.mono HB3.out.size)
         have HB4 := Lib.hid hb4'
         clear hb4 hb4')
      | (go_at_call 10; refine (HMK.out w2 HB2.out).mono ?_; rintro e w3 ⟨A3, c3, lo3, rfl, hb3, hsz3, hk3, hf3⟩
         have HB3 := Lib.hid hb3
         have HF3 := Lib.hid hf3
         clear hb3 hk3 hf3)
      | (go_at_call 8; refine (awake_any w).mono ?_; rintro e w2 ⟨rfl, hb2⟩; have HB2 := Lib.hid hb2; clear hb2)
      | fail)
    go_ret
    exact ⟨by rfl, HB6.out⟩
end Go.Proofs.Ytghcemfffhjmjaa
