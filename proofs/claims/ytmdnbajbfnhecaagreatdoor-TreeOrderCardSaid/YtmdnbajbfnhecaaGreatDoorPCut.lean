/- The program's Cut: the contract. -/
import Derived.Test.YtmdnbajbfnhecaaGreatDoorCutMem
import Derived.Test.YtmdnbajbfnhecaaGreatDoorPlace
import Derived.Deep.RegionHeld3
set_option linter.unusedVariables false
namespace Go.Proofs.YtmdnbajbfnhecaaGreatDoor
open Go.RowKit
set_option maxRecDepth 100000 in
set_option maxHeartbeats 8000000 in
theorem pcut_any (A : Option Addr) (cap n : Nat) (l : List Nm) (hn : n = l.length) (hcap : n ≤ cap) (hsz : Sized l) (i : Int) (w : World) (B : Nat) (hB : B ≤ w.heap.size) (hs : Nodes w B A l) :
    Calls Tryz.prog 21 #[.slice A n cap, .int .i64 i] w fun e w' => CutRet (dat l) i w' w.heap.size e ∧ Below w.heap.size w w' := by
  have hpl := place_any A cap n l hn hsz i w B hB hs
  by_cases h0 : cutE (dat l) i = 0
  case neg =>
    by_cases hw0 : wrongF (dat l) i = 0
    · have hi0 : i = 0 := by
        unfold cutE at h0
        by_cases hi : i = 0
        · exact hi
        · rw [if_neg (by simp [hi])] at h0
          exact absurd hw0 h0
      subst hi0
      have he : (1 : Int) = cutE (dat l) 0 := by unfold cutE; rw [if_pos ⟨hw0, rfl⟩]
      have hfin := fun w' => cutret_no (w' := w') (base := w.heap.size) h0 he
      rw [hw0] at hpl
      have HP := Lib.hid hpl
      have HF := Lib.hid hfin
      clear hpl hfin hn hsz hs he hw0 h0
      go_enter Tryz.func21, Tryz.ntmps21
      go_wp2_with (first
        | (go_at_call 34; refine HP.out.mono ?_; rintro e w1 ⟨rfl, hb1⟩; have HB1 := Lib.hid hb1; clear hb1))
      go_ret3
      exact ⟨HF.out _, HB1.out⟩
    · have he : wrongF (dat l) i = cutE (dat l) i := by unfold cutE; rw [if_neg (by simp [hw0])]
      have hfin := fun w' => cutret_no (w' := w') (base := w.heap.size) h0 he
      generalize wrongF (dat l) i = e0 at *
      have e1 : (e0 != 0) = true := by simpa using hw0
      have HP := Lib.hid hpl
      have HF := Lib.hid hfin
      clear hpl hfin hn hsz hs he hw0 h0
      go_enter Tryz.func21, Tryz.ntmps21
      go_wp2_with (first
        | (go_at_call 34; refine HP.out.mono ?_; rintro e w1 ⟨rfl, hb1⟩; have HB1 := Lib.hid hb1; clear hb1))
      go_ret3
      exact ⟨HF.out _, HB1.out⟩
  have hw0 : wrongF (dat l) i = 0 := by
    unfold cutE at h0
    split at h0
    · cases h0
    · exact h0
  obtain ⟨hf, h512, k, rfl, hk⟩ := wrong_zero hw0
  have hk0 : k ≠ 0 := by
    rintro rfl
    unfold cutE at h0
    rw [if_pos ⟨hw0, rfl⟩] at h0
    cases h0
  rw [hw0] at hpl
  have hend := endN_at hk
  have hR : cutR (dat l) k = restF (dat l) k (endN (dat l) k) := by unfold cutR; rw [if_pos h0]; rfl
  have hP : cutP (dat l) k = pieceF (dat l) k (endN (dat l) k) := by unfold cutP; rw [if_pos h0]; rfl
  generalize endN (dat l) k = z at *
  rw [dat_len, ← hn] at h512 hk
  have hz1 := hend.lt
  have hz2 := hend.le
  rw [dat_len, ← hn] at hz2
  have hec := fun w1 (hb : Below w.heap.size w w1) => end_any A cap n l hn h512 k z hend w1 B (Nat.le_trans hB hb.size) (hs.below (hb.mono hB))
  have hk2 : k < l.length := by rw [← hn]; exact hk
  obtain ⟨b0, o0, rfl, hbB, _⟩ := hs.at_ hk2
  have hpl' := hpl
  have HPL := Lib.hid hpl
  have HEC := Lib.hid hec
  have HN := Lib.hid hn
  have HS := Lib.hid hs
  have HSZ := Lib.hid hsz
  have HF := Lib.hid hf
  have HR := Lib.hid hR
  have HP := Lib.hid hP
  have HE0 := Lib.hid h0
  have HEND := Lib.hid hend
  have hzn : (z : Int) ≤ (n : Int) := by omega
  have hzc : z ≤ cap := by omega
  clear hpl hpl' hec hn hs hsz hf hR hP h0 hend hw0 hz2
  have hki : (k : Int) < (n : Int) := by omega
  have e0 : ((k : Int) == 0) = false := by rw [beq_eq_false_iff_ne]; omega
  have hkz : (k : Int) < (z : Int) := by omega
  have hzci : (z : Int) ≤ (cap : Int) := by omega
  have hT1 : ∀ w1 c', Below w.heap.size w w1 → Calls Tryz.prog 43 #[.slice (some ⟨b0, o0 + k * 3, none⟩) (z - k) c'] w1 fun e w' => ∃ g c1 l1, e = .returned (.slice (some ⟨g, 0, none⟩) (z - k) c1) ∧ dat l1 = ((dat l).take z).drop k ∧ OwnN w' w.heap.size (some ⟨g, 0, none⟩) (z - k) c1 l1 ∧ Below w.heap.size w w' := fun w1 c' hb => by
    have hlen : z - k = ((l.take z).drop k).length := by simp; have := HN.out; omega
    refine (ptwin_any (some ⟨b0, o0 + k * 3, none⟩) c' (z - k) ((l.take z).drop k) hlen (HSZ.out.sub (fun x hx => List.mem_of_mem_take (List.mem_of_mem_drop hx)) (by simp; omega)) w1 B (Nat.le_trans hB hb.size) (((HS.out.below (hb.mono hB)).take z).drop k)).mono ?_
    rintro e w' ⟨A', c1, l1, rfl, hd, ho, hb1⟩
    obtain ⟨g, rfl, _⟩ := ho.at_ (k := 0) (by have := ho.len; omega)
    refine ⟨g, c1, l1, rfl, by rw [hd]; simp [dat, List.map_drop, List.map_take], ho.base_ hb.size, hb.trans (hb1.mono hb.size)⟩
  have HT1 := Lib.hid hT1
  clear hT1
  have hzk : ((z - k : Nat) : Int) = (z : Int) - (k : Int) := by omega
  obtain ⟨m, hm⟩ : ∃ m, m = z - k := ⟨_, rfl⟩
  have hm1 : 1 ≤ m := by omega
  have hm5 : m ≤ 512 := by omega
  rw [← hm] at HT1
  have HM := Lib.hid hm
  clear hzk hm
  go_enter Tryz.func21, Tryz.ntmps21
  go_wp2_with (first
    | (go_at_call 34; refine HPL.out.mono ?_; rintro e w1 ⟨rfl, hb1⟩; have HB1 := Lib.hid hb1; clear hb1)
    | (go_at_call 42; refine (HEC.out _ HB1.out).mono ?_; rintro e w2 ⟨rfl, hb2⟩; have HB2 := Lib.hid (HB1.out.trans (hb2.mono HB1.out.size)); clear hb2)
    | (go_at_call 43; rw [← HM.out]; refine (HT1.out _ _ HB2.out).mono ?_; rintro e w3 ⟨g, c1, l1, rfl, hd1, ho1, hb3⟩
       have hl0 : 0 < l1.length := by have := ho1.len; omega
       obtain ⟨g', hg', hgb, hgl, x0, x0f, _, hset⟩ := ho1.at_ hl0
       injection hg' with hg'
       injection hg' with hg'
       subst hg'
       simp only [Nat.zero_mul] at x0 x0f hset
       have HO1 := Lib.hid ho1
       have HD1 := Lib.hid hd1
       have HSET := Lib.hid hset
       have HB3 := Lib.hid hb3
       clear hd1 ho1 hb3 hset))
  have hown2 := HSET.out (-1)
  have hb4 : Below w.heap.size w (w3.setCell ⟨g, 0, none⟩ (.int .i64 (-1))) := HB3.out.setCell hgb _
  have hlen2 : l1.length = m := HO1.out.len.symm
  have hDl : (((dat l).take z).drop k).length = m := by rw [← HD1.out, dat_len, hlen2]
  have hXl : (pieceF (dat l) k z).length = (((dat l).take z).drop k).length := piece_len _ _ _
  have hzl : z ≤ (dat l).length := HEND.out.le
  have hD : ∀ j, j < m → (((dat l).take z).drop k)[j]? = (dat l)[k + j]? := fun j hj => by
    rw [List.getElem?_drop, List.getElem?_take_of_lt (by have := HM.out; omega)]
  have hd2 : dat (l1.set 0 (l1[0].setP (-1))) = (pieceF (dat l) k z).take 1 ++ (((dat l).take z).drop k).drop 1 := by
    rw [dat_set, HD1.out, ← mix_step hXl (k := 0) (by omega), mix_start]
    congr 1
    have e1 := piece_get (l := dat l) (i := k) (z := z) (k := 0) hzl (by omega)
    rw [List.getElem?_eq_getElem (by omega)] at e1
    have e2 := hD 0 (by omega)
    have e3 : (dat l1)[0]? = some l1[0].d := by unfold dat; rw [List.getElem?_map, List.getElem?_eq_getElem (by omega)]; rfl
    rw [HD1.out, e2, List.getElem?_eq_getElem (by omega)] at e3
    rw [Option.some.inj e1]
    simp only [Nd.par, if_pos, Nm.setP]
    rw [Option.some.inj e3]
  generalize l1.set 0 (l1[0].setP (-1)) = l2 at hown2 hd2
  have HOWN2 := Lib.hid hown2
  have HD2 := Lib.hid hd2
  have HB4 := Lib.hid hb4
  have HXL := Lib.hid hXl
  have HDL := Lib.hid hDl
  have HDD := Lib.hid hD
  clear hown2 hd2 hb4 hXl hDl hD hlen2 x0 x0f HO1 HD1 HSET
  go_loopw [9] (fun jv wr => ∃ (j : Nat) (l' : List Nm), 1 ≤ j ∧ j ≤ m ∧ jv = .int .i64 j ∧ OwnN wr w.heap.size (some ⟨g, 0, none⟩) m c1 l' ∧ dat l' = (pieceF (dat l) k z).take j ++ (((dat l).take z).drop k).drop j ∧ Below w.heap.size w wr) (fun jv _ => m - (intOf jv).toNat)
  case atStart => exact ⟨1, l2, by omega, by omega, rfl, HOWN2.out, HD2.out, HB4.out⟩
  case round =>
    obtain ⟨j, l', hj1, hj, rfl, hown, hd, hb⟩ := hrel
    have HB := Lib.hid hb
    have HO := Lib.hid hown
    have HD := Lib.hid hd
    clear HOWN2 HD2 HB4 hd hb
    by_cases hjm : j < m
    · have hl' : j < l'.length := by rw [← HO.out.len]; exact hjm
      have hji : (j : Int) < (m : Int) := by omega
      obtain ⟨g', hg', _, _, x0, x0f, _, hset⟩ := hown.at_ hl'
      injection hg' with hg'
      injection hg' with hg'
      subst hg'
      have hkj : k + j < (dat l).length := by have := HM.out; omega
      have hPj : l'[j].d = (dat l)[k + j] := by
        have e1 : (dat l')[j]? = some l'[j].d := by unfold dat; rw [List.getElem?_map, List.getElem?_eq_getElem hl']; rfl
        rw [HD.out, mix_at HXL.out (by rw [HXL.out, HDL.out]; exact hjm)] at e1
        have e2 := HDD.out j hjm
        rw [List.getElem?_eq_getElem hkj, List.getElem?_eq_getElem (by rw [HDL.out]; exact hjm)] at e2
        rw [← Option.some.inj e1, Option.some.inj e2]
      have hlo := HEND.out.under (k + j) (by omega) (by have := HM.out; omega)
      have hhi := (fine_par HF.out hkj hkj).1
      have hpa : parAt (dat l) ((k + j : Nat) : Int) = l'[j].d.p := by
        unfold parAt
        rw [Int.toNat_natCast, List.getElem?_eq_getElem hkj, hPj]
      rw [hpa] at hlo hhi
      have hnext : dat (l'.set j (l'[j].setP (l'[j].d.p - k))) = (pieceF (dat l) k z).take (j + 1) ++ (((dat l).take z).drop k).drop (j + 1) := by
        rw [dat_set, HD.out, ← mix_step HXL.out (k := j) (by rw [HXL.out, HDL.out]; exact hjm)]
        congr 1
        have e1 := piece_get (l := dat l) (i := k) (z := z) (k := j) hzl (by have := HM.out; omega)
        rw [List.getElem?_eq_getElem (by rw [HXL.out, HDL.out]; exact hjm), if_neg (by omega)] at e1
        rw [Option.some.inj e1, ← hPj]
        rfl
      have hset2 := hset (l'[j].d.p - k)
      obtain ⟨P, hP⟩ : ∃ P, P = l'[j].d.p := ⟨_, rfl⟩
      rw [← hP] at x0 hlo hhi hnext hset2
      generalize l'.set j (l'[j].setP (P - k)) = l4 at hnext hset2
      have hPb : P ≤ 1024 := by omega
      have hP0 : 0 ≤ P := by omega
      have HN4 := Lib.hid hnext
      have HS4 := Lib.hid hset2
      have hb4 : Below w.heap.size w (wr.setCell ⟨g, j * 3, none⟩ (.int .i64 (P - k))) := HB.out.setCell hgb _
      have HB4 := Lib.hid hb4
      clear hnext hset2 hset hP hpa hPj hkj hown hb4
      go_wp2
      exact ⟨⟨j + 1, l4, by omega, by omega, by go_num, HS4.out, HN4.out, HB4.out⟩, by simp [intOf]; omega⟩
    · obtain rfl : j = m := by omega
      have hdX : dat l' = pieceF (dat l) k z := by
        have e := HD.out
        rw [show j = (pieceF (dat l) k z).length by rw [HXL.out, HDL.out], mix_end HXL.out] at e
        exact e
      have hT2 : ∀ w1 c', Below wr.heap.size wr w1 → Calls Tryz.prog 43 #[.slice (some ⟨b0, o0, none⟩) k c'] w1 fun e w' => ∃ A5 c5 l5, e = .returned (.slice A5 k c5) ∧ dat l5 = (dat l).take k ∧ OwnN w' wr.heap.size A5 k c5 l5 ∧ Below wr.heap.size wr w' ∧ Below w1.heap.size w1 w' := fun w1 c' hb => by
        have hbw := HB.out.trans (hb.mono HB.out.size)
        refine (ptwin_any (some ⟨b0, o0, none⟩) c' k (l.take k) (by simp; omega) (HSZ.out.sub (fun x hx => List.mem_of_mem_take hx) (by simp; omega)) w1 B (Nat.le_trans hB hbw.size) ((HS.out.below (hbw.mono hB)).take k)).mono ?_
        rintro e w' ⟨A', c1, l1, rfl, hd, ho, hb1⟩
        exact ⟨A', c1, l1, rfl, by rw [hd]; simp [dat, List.map_take], ho.base_ hb.size, hb.trans (hb1.mono hb.size), hb1⟩
      have hT3 : ∀ w1 A' c', (A' = some ⟨b0, o0 + z * 3, none⟩ ∨ z = n) → Below wr.heap.size wr w1 → Calls Tryz.prog 43 #[.slice A' (n - z) c'] w1 fun e w' => ∃ A5 c5 l5, e = .returned (.slice A5 (n - z) c5) ∧ dat l5 = (dat l).drop z ∧ OwnN w' w1.heap.size A5 (n - z) c5 l5 ∧ Below wr.heap.size wr w' ∧ Below w1.heap.size w1 w' := fun w1 A' c' hA hb => by
        have hbw := HB.out.trans (hb.mono HB.out.size)
        have hn' : Nodes w1 B A' (l.drop z) := by
          rcases hA with rfl | hA
          · exact (HS.out.below (hbw.mono hB)).drop z
          · rw [List.drop_of_length_le (by have := HN.out; omega)]; exact Nodes.nil_ _ _ _
        refine (ptwin_any A' c' (n - z) (l.drop z) (by simp; have := HN.out; omega) (HSZ.out.sub (fun x hx => List.mem_of_mem_drop hx) (by simp)) w1 B (Nat.le_trans hB hbw.size) hn').mono ?_
        rintro e w' ⟨A', c1, l1, rfl, hd, ho, hb1⟩
        exact ⟨A', c1, l1, rfl, by rw [hd]; simp [dat, List.map_drop], ho, hb.trans (hb1.mono hb.size), hb1⟩
      have HT2 := Lib.hid hT2
      have HT3 := Lib.hid hT3
      have HDX := Lib.hid hdX
      obtain ⟨i0, fi, fz0, fz1, fz2⟩ := info_parts Tryz.info50
      clear hT2 hT3 hdX hown
      go_wp2_with fail
      have hkc : (k : Int) ≤ (cap : Int) := by omega
      have hk0i : (0 : Int) ≤ (k : Int) := by omega
      have hz0i : (0 : Int) ≤ (z : Int) := by omega
      obtain ⟨wm, hwm⟩ : ∃ wm, wm = wr := ⟨_, rfl⟩
      subst hwm
      obtain ⟨q, hq⟩ : ∃ q, q = k + (n - z) := ⟨_, rfl⟩
      have hq5 : q ≤ 512 := by omega
      have hkq : k ≤ q := by omega
      have HQ := Lib.hid hq
      clear hq
      by_cases hzcap : z = cap
      · obtain rfl : cap = z := hzcap.symm
        obtain rfl : n = cap := by omega
        have hT4 : ∀ w1, Below wm.heap.size wm w1 → Calls Tryz.prog 43 #[.slice (some ⟨b0, o0, none⟩) 0 0] w1 fun e w' => ∃ A5 c5 l5, e = .returned (.slice A5 0 c5) ∧ dat l5 = (dat l).drop n ∧ OwnN w' w1.heap.size A5 0 c5 l5 ∧ Below wm.heap.size wm w' ∧ Below w1.heap.size w1 w' := fun w1 hb => by
          have := HT3.out w1 (some ⟨b0, o0, none⟩) 0 (.inr rfl) hb
          rw [Nat.sub_self] at this
          exact this
        have HT4 := Lib.hid hT4
        clear hT4 hzcap
        go_region_held3 (fun _ => True) (trivial) (first
          | (go_at_call_of 43 (Value.slice (some ⟨b0, o0, none⟩) k n); refine (HT2.out _ _ (by first | exact below_drewN (Below.refl _ _) 1 | exact (Below.refl _ _).drew)).mono ?_; rintro e w5 ⟨A5, c5, l5, rfl, hd5, ho5, hb5, _⟩)
          | (go_at_call_of 43 (Value.slice (some ⟨b0, o0, none⟩) 0 0); refine (HT4.out _ (by first | exact hb5)).mono ?_; rintro e w6 ⟨A6, c6, l6, rfl, hd6, ho6, hb6, hb7⟩)
          | (refine step_append_seg rfl (.tmp 48) (.tmp 52) 22 rfl wm.heap.size 50 i0 _ 3 48 Tryz.underlying22 fi fz0 fz1 fz2 rfl (by decide) _ k (nmCells l5) (by simp [Act.eval]) (ho5.below hb7).row w6.heap.size A6 0 c6 (nmCells l6) (by simp [Act.eval]) (by rw [nmCells_len, ← ho6.len]) (own_seg ho6.row) (one_nm _) (by unfold maxLen; omega) (by omega) hb6.size ?_; intro v7 w7 hown7 hg7 _; obtain ⟨A7, c7, rfl⟩ := own_shape hown7; rw [show k + 0 = q by have := HQ.out; omega] at hown7 ⊢)
          | fail)
        have hj7 : OwnN w7 wm.heap.size A7 q c7 (l5 ++ l6) := by
          have h := ho5.join (A3 := A7) (c3 := c7) (w3 := w7) hb7 ho6 (Nat.le_refl _) hb5.size (by rw [show k + 0 = q by have := HQ.out; omega]; unfold nmCells at hown7 ⊢; rw [List.flatMap_append]; exact hown7) hg7
          rw [show k + 0 = q by have := HQ.out; omega] at h
          exact h
        have hd7 : dat (l5 ++ l6) = (dat l).take k ++ (dat l).drop n := by unfold dat at hd5 hd6 ⊢; rw [List.map_append, hd5, hd6]
        have hb8 : Below wm.heap.size wm w7 := hb6.grown hg7 hb6.size (fun g' hg' => (ho5.row.lt g' hg').1)
        generalize l5 ++ l6 = l7 at hj7 hd7
        have HJ7 := Lib.hid hj7
        have HD7 := Lib.hid hd7
        have HB8 := Lib.hid hb8
        clear hj7 hd7 hb8 hown7 hg7 hd5 ho5 hb5 hd6 ho6 hb6 hb7 HT2 HT3 HT4
        go_wp2_with fail
        have hX2l : (restF (dat l) k n).length = ((dat l).take k ++ (dat l).drop n).length := rest_len _ _ _
        have hD2l : ((dat l).take k ++ (dat l).drop n).length = q := by have := HJ7.out.len; rw [← HD7.out, dat_len]; exact this.symm
        have hst : dat l7 = (restF (dat l) k n).take k ++ ((dat l).take k ++ (dat l).drop n).drop k := by
          rw [HD7.out]
          exact (rest_head HF.out (by omega) (by rw [dat_len]; omega)).symm
        have HX2 := Lib.hid hX2l
        have HD2 := Lib.hid hD2l
        have HST := Lib.hid hst
        clear hX2l hD2l hst
        go_loopw [10] (fun jv wx => ∃ (j : Nat) (l8 : List Nm), k ≤ j ∧ j ≤ q ∧ jv = .int .i64 j ∧ OwnN wx wm.heap.size A7 q c7 l8 ∧ dat l8 = (restF (dat l) k n).take j ++ ((dat l).take k ++ (dat l).drop n).drop j ∧ Below wm.heap.size wm wx) (fun jv _ => q - (intOf jv).toNat)
        case atStart => exact ⟨k, l7, by omega, by omega, rfl, HJ7.out, HST.out, HB8.out⟩
        case round =>
          obtain ⟨j', l8, hkj, hjq, rfl, hown8, hd8, hbx⟩ := hrel
          have HO8 := Lib.hid hown8
          have HD8 := Lib.hid hd8
          have HBX := Lib.hid hbx
          clear HJ7 HST HB8 hd8 hbx
          by_cases hjl : j' < q
          · have hl8 : j' < l8.length := by rw [← HO8.out.len]; exact hjl
            have hjqi : (j' : Int) < (q : Int) := by omega
            obtain ⟨g8, rfl, hg8b, _, x0, x0f, _, hset⟩ := hown8.at_ hl8
            have hjd : j' < ((dat l).take k ++ (dat l).drop n).length := by rw [HD2.out]; exact hjl
            have hjx : j' < (restF (dat l) k n).length := by rw [HX2.out]; exact hjd
            have hPj : l8[j'].d = ((dat l).take k ++ (dat l).drop n)[j'] := by
              have e1 : (dat l8)[j']? = some l8[j'].d := by unfold dat; rw [List.getElem?_map, List.getElem?_eq_getElem hl8]; rfl
              rw [HD8.out, mix_at HX2.out hjx] at e1
              exact (Option.some.inj e1).symm
            have hXj : (restF (dat l) k n)[j'] = restOne k n l8[j'].d := by rw [hPj]; exact List.getElem_map _
            have hbd : l8[j'].d.p < 512 ∧ -1 ≤ l8[j'].d.p := by
              have hzj : n + (j' - k) < (dat l).length := by have := HQ.out; rw [dat_len, ← HN.out]; omega
              have e1 : l8[j'].d = (dat l)[n + (j' - k)] := by
                rw [hPj, List.getElem_append_right (by simp; omega)]
                simp only [List.getElem_drop, List.length_take]
                congr 1
                rw [dat_len]; omega
              have e2 := fine_par HF.out hzj hzj
              unfold parAt at e2
              rw [Int.toNat_natCast, List.getElem?_eq_getElem hzj, ← e1] at e2
              have e3 : n + (j' - k) < 512 := by rw [dat_len, ← HN.out] at hzj; omega
              simp only at e2
              omega
            have hsame : restOne k n l8[j'].d = l8[j'].d → dat l8 = (restF (dat l) k n).take (j' + 1) ++ ((dat l).take k ++ (dat l).drop n).drop (j' + 1) := fun e => by
              rw [← mix_step HX2.out hjx, hXj, e, ← HD8.out]
              unfold dat
              rw [← List.map_set]
              congr 1
              exact (List.set_getElem_self hl8).symm
            have hdiff : ∀ p, restOne k n l8[j'].d = l8[j'].d.par p → dat (l8.set j' (l8[j'].setP p)) = (restF (dat l) k n).take (j' + 1) ++ ((dat l).take k ++ (dat l).drop n).drop (j' + 1) := fun p e => by
              rw [dat_set, HD8.out, ← mix_step HX2.out hjx, hXj, e]
              rfl
            have hro : restOne k n l8[j'].d = if (n : Int) ≤ l8[j'].d.p then l8[j'].d.par (l8[j'].d.p - ((n : Int) - k)) else l8[j'].d := rfl
            obtain ⟨P, hP⟩ : ∃ P, P = l8[j'].d.p := ⟨_, rfl⟩
            rw [← hP] at x0 hbd hro
            obtain ⟨hP5, hP1⟩ := hbd
            have HSA := Lib.hid hsame
            have HDI := Lib.hid hdiff
            have HRO := Lib.hid hro
            have HSET := Lib.hid hset
            clear hsame hdiff hro hset hP hPj hXj hown8
            by_cases hzP : (n : Int) ≤ P
            · have e1 : decide ((n : Int) ≤ P) = true := by simpa using hzP
              have hnx := HDI.out (P - ((n : Int) - k)) (by rw [HRO.out, if_pos hzP])
              have hs8 := HSET.out (P - ((n : Int) - k))
              have hb9 : Below wm.heap.size wm (wr.setCell ⟨g8, j' * 3, none⟩ (.int .i64 (P - ((n : Int) - k)))) := HBX.out.setCell hg8b _
              generalize l8.set j' (l8[j'].setP (P - ((n : Int) - k))) = l9 at hnx hs8
              have HNX := Lib.hid hnx
              have HS8 := Lib.hid hs8
              have HB9 := Lib.hid hb9
              clear hnx hs8 hb9
              go_wp2
              exact ⟨⟨j' + 1, l9, by omega, by omega, by go_num, HS8.out, HNX.out, HB9.out⟩, by simp [intOf]; omega⟩
            · have e1 : decide ((n : Int) ≤ P) = false := by simpa using hzP
              have hnx := HSA.out (by rw [HRO.out, if_neg hzP])
              have HNX := Lib.hid hnx
              clear hnx
              go_wp2
              exact ⟨⟨j' + 1, l8, by omega, by omega, by go_num, HO8.out, HNX.out, HBX.out⟩, by simp [intOf]; omega⟩
          · obtain rfl : j' = q := by omega
            have hdX2 : dat l8 = restF (dat l) k n := by
              have e := HD8.out
              rw [show j' = (restF (dat l) k n).length by rw [HX2.out, HD2.out], mix_end HX2.out] at e
              exact e
            have hret : CutRet (dat l) k wr w.heap.size (.returned (.tuple #[.slice A7 j' c7, .slice (some ⟨g, 0, none⟩) j c1, .int .i64 0])) := by
              refine ⟨A7, j', c7, l8, some ⟨g, 0, none⟩, j, c1, l', by rw [HE0.out], HO8.out.base_ HB.out.size, HO.out.below HBX.out, ?_, by rw [hdX2, HR.out], by rw [HDX.out, HP.out]⟩
              intro g1 h1 h2
              have a1 := (HO8.out.blk h1).1
              have a2 := (HO.out.blk h2).2
              omega
            have HRET := Lib.hid hret
            clear hret hdX2 hown8
            go_wp2
            go_ret3
            exact ⟨HRET.out, HB.out.trans (HBX.out.mono HB.out.size)⟩
      have hzcl : (z : Int) < (cap : Int) := by omega
      have hzcl2 : z < cap := by omega
      go_region_held3 (fun _ => True) (trivial) (first
        | (go_at_call_of 43 (Value.slice (some ⟨b0, o0, none⟩) k cap); refine (HT2.out _ _ (by first | exact below_drewN (Below.refl _ _) 1 | exact (Below.refl _ _).drew)).mono ?_; rintro e w5 ⟨A5, c5, l5, rfl, hd5, ho5, hb5, _⟩)
        | (go_at_call_of 43 (Value.slice (some ⟨b0, o0 + z * 3, none⟩) (n - z) (cap - z)); refine (HT3.out _ _ _ (.inl rfl) (by first | exact hb5)).mono ?_; rintro e w6 ⟨A6, c6, l6, rfl, hd6, ho6, hb6, hb7⟩)
        | (refine step_append_seg rfl (.tmp 48) (.tmp 52) 22 rfl wm.heap.size 50 i0 _ 3 48 Tryz.underlying22 fi fz0 fz1 fz2 rfl (by decide) _ k (nmCells l5) (by simp [Act.eval]) (ho5.below hb7).row w6.heap.size A6 (n - z) c6 (nmCells l6) (by simp [Act.eval]) (by rw [nmCells_len, ← ho6.len]) (own_seg ho6.row) (one_nm _) (by unfold maxLen; omega) (by omega) hb6.size ?_; intro v7 w7 hown7 hg7 _; obtain ⟨A7, c7, rfl⟩ := own_shape hown7; rw [show k + (n - z) = q by have := HQ.out; omega] at hown7 ⊢)
        | fail)
      have hj7 : OwnN w7 wm.heap.size A7 q c7 (l5 ++ l6) := by
        have h := ho5.join (A3 := A7) (c3 := c7) (w3 := w7) hb7 ho6 (Nat.le_refl _) hb5.size (by rw [show k + (n - z) = q by have := HQ.out; omega]; unfold nmCells at hown7 ⊢; rw [List.flatMap_append]; exact hown7) hg7
        rw [show k + (n - z) = q by have := HQ.out; omega] at h
        exact h
      have hd7 : dat (l5 ++ l6) = (dat l).take k ++ (dat l).drop z := by unfold dat at hd5 hd6 ⊢; rw [List.map_append, hd5, hd6]
      have hb8 : Below wm.heap.size wm w7 := hb6.grown hg7 hb6.size (fun g' hg' => (ho5.row.lt g' hg').1)
      generalize l5 ++ l6 = l7 at hj7 hd7
      have HJ7 := Lib.hid hj7
      have HD7 := Lib.hid hd7
      have HB8 := Lib.hid hb8
      clear hj7 hd7 hb8 hown7 hg7 hd5 ho5 hb5 hd6 ho6 hb6 hb7 HT2 HT3
      go_wp2_with fail
      have hX2l : (restF (dat l) k z).length = ((dat l).take k ++ (dat l).drop z).length := rest_len _ _ _
      have hD2l : ((dat l).take k ++ (dat l).drop z).length = q := by have := HJ7.out.len; rw [← HD7.out, dat_len]; exact this.symm
      have hst : dat l7 = (restF (dat l) k z).take k ++ ((dat l).take k ++ (dat l).drop z).drop k := by
        rw [HD7.out]
        exact (rest_head HF.out (by omega) (by rw [dat_len]; omega)).symm
      have HX2 := Lib.hid hX2l
      have HD2 := Lib.hid hD2l
      have HST := Lib.hid hst
      clear hX2l hD2l hst
      go_loopw [10] (fun jv wx => ∃ (j : Nat) (l8 : List Nm), k ≤ j ∧ j ≤ q ∧ jv = .int .i64 j ∧ OwnN wx wm.heap.size A7 q c7 l8 ∧ dat l8 = (restF (dat l) k z).take j ++ ((dat l).take k ++ (dat l).drop z).drop j ∧ Below wm.heap.size wm wx) (fun jv _ => q - (intOf jv).toNat)
      case atStart => exact ⟨k, l7, by omega, by omega, rfl, HJ7.out, HST.out, HB8.out⟩
      case round =>
        obtain ⟨j', l8, hkj, hjq, rfl, hown8, hd8, hbx⟩ := hrel
        have HO8 := Lib.hid hown8
        have HD8 := Lib.hid hd8
        have HBX := Lib.hid hbx
        clear HJ7 HST HB8 hd8 hbx
        by_cases hjl : j' < q
        · have hl8 : j' < l8.length := by rw [← HO8.out.len]; exact hjl
          have hjqi : (j' : Int) < (q : Int) := by omega
          obtain ⟨g8, rfl, hg8b, _, x0, x0f, _, hset⟩ := hown8.at_ hl8
          have hjd : j' < ((dat l).take k ++ (dat l).drop z).length := by rw [HD2.out]; exact hjl
          have hjx : j' < (restF (dat l) k z).length := by rw [HX2.out]; exact hjd
          have hPj : l8[j'].d = ((dat l).take k ++ (dat l).drop z)[j'] := by
            have e1 : (dat l8)[j']? = some l8[j'].d := by unfold dat; rw [List.getElem?_map, List.getElem?_eq_getElem hl8]; rfl
            rw [HD8.out, mix_at HX2.out hjx] at e1
            exact (Option.some.inj e1).symm
          have hXj : (restF (dat l) k z)[j'] = restOne k z l8[j'].d := by rw [hPj]; exact List.getElem_map _
          have hbd : l8[j'].d.p < 512 ∧ -1 ≤ l8[j'].d.p := by
            have hzj : z + (j' - k) < (dat l).length := by have := HQ.out; rw [dat_len, ← HN.out]; omega
            have e1 : l8[j'].d = (dat l)[z + (j' - k)] := by
              rw [hPj, List.getElem_append_right (by simp; omega)]
              simp only [List.getElem_drop, List.length_take]
              congr 1
              rw [dat_len]; omega
            have e2 := fine_par HF.out hzj hzj
            unfold parAt at e2
            rw [Int.toNat_natCast, List.getElem?_eq_getElem hzj, ← e1] at e2
            have e3 : z + (j' - k) < 512 := by rw [dat_len, ← HN.out] at hzj; omega
            simp only at e2
            omega
          have hsame : restOne k z l8[j'].d = l8[j'].d → dat l8 = (restF (dat l) k z).take (j' + 1) ++ ((dat l).take k ++ (dat l).drop z).drop (j' + 1) := fun e => by
            rw [← mix_step HX2.out hjx, hXj, e, ← HD8.out]
            unfold dat
            rw [← List.map_set]
            congr 1
            exact (List.set_getElem_self hl8).symm
          have hdiff : ∀ p, restOne k z l8[j'].d = l8[j'].d.par p → dat (l8.set j' (l8[j'].setP p)) = (restF (dat l) k z).take (j' + 1) ++ ((dat l).take k ++ (dat l).drop z).drop (j' + 1) := fun p e => by
            rw [dat_set, HD8.out, ← mix_step HX2.out hjx, hXj, e]
            rfl
          have hro : restOne k z l8[j'].d = if (z : Int) ≤ l8[j'].d.p then l8[j'].d.par (l8[j'].d.p - ((z : Int) - k)) else l8[j'].d := rfl
          obtain ⟨P, hP⟩ : ∃ P, P = l8[j'].d.p := ⟨_, rfl⟩
          rw [← hP] at x0 hbd hro
          obtain ⟨hP5, hP1⟩ := hbd
          have HSA := Lib.hid hsame
          have HDI := Lib.hid hdiff
          have HRO := Lib.hid hro
          have HSET := Lib.hid hset
          clear hsame hdiff hro hset hP hPj hXj hown8
          by_cases hzP : (z : Int) ≤ P
          · have e1 : decide ((z : Int) ≤ P) = true := by simpa using hzP
            have hnx := HDI.out (P - ((z : Int) - k)) (by rw [HRO.out, if_pos hzP])
            have hs8 := HSET.out (P - ((z : Int) - k))
            have hb9 : Below wm.heap.size wm (wr.setCell ⟨g8, j' * 3, none⟩ (.int .i64 (P - ((z : Int) - k)))) := HBX.out.setCell hg8b _
            generalize l8.set j' (l8[j'].setP (P - ((z : Int) - k))) = l9 at hnx hs8
            have HNX := Lib.hid hnx
            have HS8 := Lib.hid hs8
            have HB9 := Lib.hid hb9
            clear hnx hs8 hb9
            go_wp2
            exact ⟨⟨j' + 1, l9, by omega, by omega, by go_num, HS8.out, HNX.out, HB9.out⟩, by simp [intOf]; omega⟩
          · have e1 : decide ((z : Int) ≤ P) = false := by simpa using hzP
            have hnx := HSA.out (by rw [HRO.out, if_neg hzP])
            have HNX := Lib.hid hnx
            clear hnx
            go_wp2
            exact ⟨⟨j' + 1, l8, by omega, by omega, by go_num, HO8.out, HNX.out, HBX.out⟩, by simp [intOf]; omega⟩
        · obtain rfl : j' = q := by omega
          have hdX2 : dat l8 = restF (dat l) k z := by
            have e := HD8.out
            rw [show j' = (restF (dat l) k z).length by rw [HX2.out, HD2.out], mix_end HX2.out] at e
            exact e
          have hret : CutRet (dat l) k wr w.heap.size (.returned (.tuple #[.slice A7 j' c7, .slice (some ⟨g, 0, none⟩) j c1, .int .i64 0])) := by
            refine ⟨A7, j', c7, l8, some ⟨g, 0, none⟩, j, c1, l', by rw [HE0.out], HO8.out.base_ HB.out.size, HO.out.below HBX.out, ?_, by rw [hdX2, HR.out], by rw [HDX.out, HP.out]⟩
            intro g1 h1 h2
            have a1 := (HO8.out.blk h1).1
            have a2 := (HO.out.blk h2).2
            omega
          have HRET := Lib.hid hret
          clear hret hdX2 hown8
          go_wp2
          go_ret3
          exact ⟨HRET.out, HB.out.trans (HBX.out.mono HB.out.size)⟩
end Go.Proofs.YtmdnbajbfnhecaaGreatDoor
