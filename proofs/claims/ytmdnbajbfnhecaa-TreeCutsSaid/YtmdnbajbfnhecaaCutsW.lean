/- The walk of TreeCuts. -/
import Derived.Test.YtmdnbajbfnhecaaCutsB
set_option linter.unusedVariables false
namespace Go.Proofs.Ytmdnbajbfnhecaa
open Go.RowKit
set_option maxRecDepth 100000 in
set_option maxHeartbeats 16000000 in
theorem treeCuts_walk (A : Option Addr) (c n : Nat) (la : List Nm) (hn : n = la.length) (hl : n * 48 ≤ 140737488351232) (ha : Lim 0 0 la) (A' : Option Addr) (c' n' : Nat) (lb : List Nm) (hn' : n' = lb.length) (hl' : n' * 48 ≤ 140737488351232) (ha' : Lim 0 0 lb) (i : Int)
    (w : World) (hs : Nodes w w.heap.size A la) (hs' : Nodes w w.heap.size A' lb) :
    Calls Try.prog 4 #[.slice A n c, .slice A' n' c', .int .i64 i] w fun e w' => e = .returned (.bool true) ∧ Below w.heap.size w w' := by
  have hz : Sized la := ha.sized (by omega)
  have hz' : Sized lb := ha'.sized (by omega)
  have hpb : ∀ y ∈ la ++ lb, y.d.ps.length * 32 ≤ 140737488351232 := fun y hy => by
    rcases List.mem_append.1 hy with hy | hy
    · obtain ⟨j, hj, rfl⟩ := List.mem_iff_getElem.1 hy
      exact (ha j hj).2.2.1
    · obtain ⟨j, hj, rfl⟩ := List.mem_iff_getElem.1 hy
      exact (ha' j hj).2.2.1
  have hcf := cut_from la i
  have hgf := graft_from la lb i
  have hbn := ha.bnd
  have hbn' := ha'.bnd
  have HBN := Lib.hid hbn
  have HBN' := Lib.hid hbn'
  -- what comes of the calls, in the worlds that come
  have hsA : ∀ (w1 : World) (A3 : Option Addr) (n3 c3 base : Nat) (l3 : List Nm), OwnN w1 base A3 n3 c3 l3 → (dat l3 = cutR (dat la) i ∨ dat l3 = cutP (dat la) i ∨ dat l3 = graftR (dat la) i (dat lb)) → base ≤ w1.heap.size → Calls Try.prog 13 #[.slice A3 n3 c3] w1 fun e w' => e = .returned (.tuple #[]) ∧ Frame (Blk A3 l3) w1 w' := fun w1 A3 n3 c3 base l3 ho hd hb => by
    have hfr : From (dat l3) (la ++ lb) := by
      rcases hd with e | e | e
      · rw [e]; exact ⟨hcf.1.len, fun x hx => by obtain ⟨y, hy, h⟩ := hcf.1.of_ x hx; exact ⟨y, List.mem_append_left _ hy, h⟩⟩
      · rw [e]; exact ⟨hcf.2.len, fun x hx => by obtain ⟨y, hy, h⟩ := hcf.2.of_ x hx; exact ⟨y, List.mem_append_left _ hy, h⟩⟩
      · rw [e]; exact hgf
    have hlen := hfr.len
    rw [dat_len, ← ho.len] at hlen
    refine spoil_any A3 c3 n3 l3 w1 base hb ho (by omega) fun x hx => ?_
    obtain ⟨y, hy, _, e, _⟩ := hfr.of_ x.d (by unfold dat; exact List.mem_map_of_mem hx)
    rw [e]
    exact hpb y hy
  have hzR : ∀ l3 : List Nm, dat l3 = cutR (dat la) i → Sized l3 := fun l3 h => SizedD.mem (by rw [h]; exact hcf.1.sized hz)
  have hzP : ∀ l3 : List Nm, dat l3 = cutP (dat la) i → Sized l3 := fun l3 h => SizedD.mem (by rw [h]; exact hcf.2.sized hz)
  have hzG : ∀ l3 : List Nm, dat l3 = graftR (dat la) i (dat lb) → Sized l3 := fun l3 h => by
    refine SizedD.mem ?_
    rw [h]
    refine ⟨by have := hgf.len; omega, fun x hx => ?_, fun x hx => ?_, fun x hx => ?_⟩
    · obtain ⟨y, hy, e1, e2, _⟩ := hgf.of_ x hx
      rw [e1, e2]
      rcases List.mem_append.1 hy with hy | hy
      · exact hz.small _ (by unfold dat; exact List.mem_map_of_mem hy)
      · exact hz'.small _ (by unfold dat; exact List.mem_map_of_mem hy)
    · obtain ⟨y, hy, e1, e2, _⟩ := hgf.of_ x hx
      rw [e2]
      have := hpb y hy
      omega
    · obtain ⟨y, hy, _, _, h1, h2⟩ := hgf.of_ x hx
      exact WalkArith.wf_i64 (by omega)
  have HSA := Lib.hid hsA
  have HZR := Lib.hid hzR
  have HZP := Lib.hid hzP
  have HZG := Lib.hid hzG
  have HZ := Lib.hid hz
  have HZ' := Lib.hid hz'
  have HN := Lib.hid hn
  have HN' := Lib.hid hn'
  have HS := Lib.hid hs
  have HS' := Lib.hid hs'
  clear hsA hzR hzP hzG hz hz' hn hn' hs hs' hcf hgf hpb ha ha' hbn hbn'
  obtain ⟨ce, hce⟩ : ∃ ce, ce = cutE (dat la) i := ⟨_, rfl⟩
  obtain ⟨ge, hge⟩ : ∃ ge, ge = graftE (dat la) i (dat lb) := ⟨_, rfl⟩
  have HCE := Lib.hid hce
  have HGE := Lib.hid hge
  clear hce hge
  go_enter Try.func4, Try.ntmps4
  go_wp2_with (first
    | (go_at_call 9
       refine (rsame_eq A2 c2 n' l2 HS16.out.put.len (sized_dat HZ'.out HD2.out) A' c' n' lb HN'.out w16 HS16.out.put.nodes ((HS'.out.below HS16.out.low).more HS16.out.low.size) HD2.out).mono ?_
       rintro e w17 ⟨rfl, hb17⟩
       have HS17 := Lib.hid (HS16.out.below hb17)
       clear hb17)
    | (go_at_call 9
       refine (rsame_eq A1 c1 n l1 HS15.out.in_.len (sized_dat HZ.out HD1.out) A c n la HN.out w15 HS15.out.in_.nodes ((HS.out.below HS15.out.low).more HS15.out.low.size) HD1.out).mono ?_
       rintro e w16 ⟨rfl, hb16⟩
       have HS16 := Lib.hid (HS15.out.below hb16)
       clear hb16)
    | (go_at_call 9
       refine (rsame_eq A8 c8 n8 l8 HH14.out.len (HZG.out _ HDH.out) A9 c9 n9 l9 HI14.out.len w14 HH14.out.nodes HI14.out.nodes (HDH.out.trans HDI.out.symm)).mono ?_
       rintro e w15 ⟨rfl, hb15⟩
       have HS15 := Lib.hid (HS14.out.below hb15)
       clear hb15)
    | (go_at_call 13
       refine (HSA.out _ _ _ _ _ _ HG13.out (.inr (.inr HDG.out)) (by have := HX9.out; have := H910.out; have := H1011.out; have := H1112.out; have := H1213.out; omega)).mono ?_
       rintro e w14 ⟨rfl, hf14⟩
       have HS14 := Lib.hid (HS13.out.frame hf14 (fun g hg => by have := (HG10.out.blk hg).1; have := HX9.out; omega))
       have HH14 := Lib.hid (HH13.out.frame hf14 (fun g hg hx => by have := (HG10.out.blk hx).2; have := (HH11.out.blk hg).1; omega))
       have HI14 := Lib.hid (HI13.out.frame hf14 (fun g hg hx => by have := (HG10.out.blk hx).2; have := H1011.out; omega))
       clear hf14)
    | (go_at_call 9
       refine (rsame_eq A7 c7 n7 l7 HG12.out.len (HZG.out _ HDG.out) A9 c9 n9 l9 HI12.out.len w12 HG12.out.nodes HI12.out.nodes (HDG.out.trans HDI.out.symm)).mono ?_
       rintro e w13 ⟨rfl, hb13⟩
       have HS13 := Lib.hid (HS12.out.below hb13)
       have HG13 := Lib.hid (HG12.out.below hb13)
       have HH13 := Lib.hid (HH12.out.below hb13)
       have HI13 := Lib.hid (HI12.out.below hb13)
       have H1213 := Lib.hid hb13.size
       clear hb13)
    | (go_at_call 15
       refine (rgraft_any A c n la HN.out HZ.out i A' c' n' lb HN'.out HZ'.out w11 w.heap.size HS11.out.low.size (HS.out.below HS11.out.low) (HS'.out.below HS11.out.low)).mono ?_
       rintro e w12 ⟨⟨A9, n9, c9, l9, rfl, ho9, hd9⟩, hb12⟩
       rw [← HGE.out]
       have HS12 := Lib.hid (HS11.out.below hb12)
       have HG12 := Lib.hid (HG11.out.below hb12)
       have HH12 := Lib.hid (HH11.out.below hb12)
       have HI12 := Lib.hid ho9
       have HDI := Lib.hid hd9
       have H1112 := Lib.hid hb12.size
       clear ho9 hd9 hb12)
    | (go_at_call 14
       refine (pgraft_any A1 c1 n l1 HS10.out.in_.len (own_cap3 HS10.out.in_.row) (sized_dat HZ.out HD1.out) i A2 c2 n' l2 HS10.out.put.len (sized_dat HZ'.out HD2.out) w10 _ (Nat.le_refl _) HS10.out.in_.nodes HS10.out.put.nodes).mono ?_
       rintro e w11 ⟨⟨A8, n8, c8, l8, rfl, ho8, hd8⟩, hb11⟩
       rw [HD1.out, HD2.out] at hd8 ⊢
       rw [← HGE.out]
       have HS11 := Lib.hid (HS10.out.below hb11)
       have HG11 := Lib.hid (HG10.out.below hb11)
       have HH11 := Lib.hid ho8
       have HDH := Lib.hid hd8
       have H1011 := Lib.hid hb11.size
       clear ho8 hd8 hb11)
    | (go_at_call 14
       refine (pgraft_any A1 c1 n l1 HS9.out.in_.len (own_cap3 HS9.out.in_.row) (sized_dat HZ.out HD1.out) i A2 c2 n' l2 HS9.out.put.len (sized_dat HZ'.out HD2.out) w9 _ (Nat.le_refl _) HS9.out.in_.nodes HS9.out.put.nodes).mono ?_
       rintro e w10 ⟨⟨A7, n7, c7, l7, rfl, ho7, hd7⟩, hb10⟩
       rw [HD1.out, HD2.out] at hd7 ⊢
       rw [← HGE.out]
       have HS10 := Lib.hid (HS9.out.below hb10)
       have HG10 := Lib.hid ho7
       have HDG := Lib.hid hd7
       have HX9 := Lib.hid (HS9.out.hi_)
       have H910 := Lib.hid hb10.size
       clear ho7 hd7 hb10)
    | (go_at_call 13
       refine (HSA.out _ _ _ _ _ _ HP8.out (.inr (.inl HDP.out)) HS8.out.hi_).mono ?_
       rintro e w9 ⟨rfl, hf9⟩
       have HS9 := Lib.hid (HS8.out.frame hf9 (fun g hg => (HP8.out.blk hg).1))
       clear hf9)
    | (go_at_call 9
       refine (rsame_eq A4 c4 n4 l4 HP7.out.len (HZP.out _ HDP.out) A6 c6 n6 l6 HE7.out.len w7 HP7.out.nodes HE7.out.nodes (HDP.out.trans HDE.out.symm)).mono ?_
       rintro e w8 ⟨rfl, hb8⟩
       have HS8 := Lib.hid (HS7.out.below hb8)
       have HP8 := Lib.hid (HP7.out.below hb8)
       clear hb8)
    | (go_at_call 13
       refine (HSA.out _ _ _ _ _ _ HA6.out (.inl HDA.out) HS6.out.hi_).mono ?_
       rintro e w7 ⟨rfl, hf7⟩
       have HS7 := Lib.hid (HS6.out.frame hf7 (fun g hg => (HA6.out.blk hg).1))
       have HP7 := Lib.hid (HP6.out.frame hf7 (fun g hg hx => HAP.out g hx hg))
       have HE7 := Lib.hid (HE6.out.frame hf7 (fun g hg hx => by have := (HA3.out.blk hx).2; omega))
       clear hf7)
    | (go_at_call 9
       refine (rsame_eq A4 c4 n4 l4 HP5.out.len (HZP.out _ HDP.out) A6 c6 n6 l6 HE5.out.len w5 HP5.out.nodes HE5.out.nodes (HDP.out.trans HDE.out.symm)).mono ?_
       rintro e w6 ⟨rfl, hb6⟩
       have HS6 := Lib.hid (HS5.out.below hb6)
       have HA6 := Lib.hid (HA5.out.below hb6)
       have HP6 := Lib.hid (HP5.out.below hb6)
       have HE6 := Lib.hid (HE5.out.below hb6)
       have H56 := Lib.hid hb6.size
       clear hb6)
    | (go_at_call 9
       refine (rsame_eq A3 c3 n3 l3 HA4.out.len (HZR.out _ HDA.out) A5 c5 n5 l5 HC4.out.len w4 HA4.out.nodes HC4.out.nodes (HDA.out.trans HDC.out.symm)).mono ?_
       rintro e w5 ⟨rfl, hb5⟩
       have HS5 := Lib.hid (HS4.out.below hb5)
       have HA5 := Lib.hid (HA4.out.below hb5)
       have HP5 := Lib.hid (HP4.out.below hb5)
       have HE5 := Lib.hid (HE4.out.below hb5)
       have H45 := Lib.hid hb5.size
       clear hb5)
    | (go_at_call 12
       refine (rcut_any A c n la HN.out HZ.out i w3 w.heap.size HS3.out.low.size (HS.out.below HS3.out.low)).mono ?_
       rintro e w4 ⟨⟨A5, n5, c5, l5, A6, n6, c6, l6, rfl, ho5, ho6, hd5, hd6⟩, hb4⟩
       rw [← HCE.out]
       have HS4 := Lib.hid (HS3.out.below hb4)
       have HA4 := Lib.hid (HA3.out.below hb4)
       have HP4 := Lib.hid (HP3.out.below hb4)
       have HC4 := Lib.hid ho5
       have HE4 := Lib.hid ho6
       have HDC := Lib.hid hd5
       have HDE := Lib.hid hd6
       have H34 := Lib.hid hb4.size
       clear ho5 ho6 hd5 hd6 hb4)
    | (go_at_call 11
       refine (pcut_any A1 c1 n l1 HS2.out.in_.len (own_cap3 HS2.out.in_.row) (sized_dat HZ.out HD1.out) i w2 _ (Nat.le_refl _) HS2.out.in_.nodes).mono ?_
       rintro e w3 ⟨⟨A3, n3, c3, l3, A4, n4, c4, l4, rfl, ho3, ho4, hap, hd3, hd4⟩, hb3⟩
       rw [HD1.out] at hd3 hd4 ⊢
       rw [← HCE.out]
       have HS3 := Lib.hid (HS2.out.below hb3)
       have HA3 := Lib.hid ho3
       have HP3 := Lib.hid ho4
       have HAP := Lib.hid hap
       have HDA := Lib.hid hd3
       have HDP := Lib.hid hd4
       have H23 := Lib.hid hb3.size
       clear ho3 ho4 hap hd3 hd4 hb3)
    | (go_at_call 6
       refine (rtwin_any A' c' n' lb HN'.out HZ'.out w1 w.heap.size HB1.out.size (HS'.out.below HB1.out)).mono ?_
       rintro e w2 ⟨A2, c2, l2, rfl, hd2, ho2, hb2⟩
       have HS2 := Lib.hid (S0.mk (HI1.out.below hb2) (fun g hg => (HI1.out.blk hg).2) ho2 (fun g hg => (ho2.blk hg).2) (HB1.out.trans (hb2.mono HB1.out.size)) HB1.out.size hb2.size (Nat.le_refl _))
       have HD2 := Lib.hid hd2
       clear ho2 hd2 hb2)
    | (go_at_call 6
       refine (rtwin_any A c n la HN.out HZ.out w _ (Nat.le_refl _) HS.out).mono ?_
       rintro e w1 ⟨A1, c1, l1, rfl, hd1, ho1, hb1⟩
       have HI1 := Lib.hid ho1
       have HD1 := Lib.hid hd1
       have HB1 := Lib.hid hb1
       clear ho1 hd1 hb1))
  have hbd1 : Bnd 0 l1 := HBN.out.dat HD1.out
  have hbd2 : Bnd 0 l2 := HBN'.out.dat HD2.out
  have hin := HS17.out.in_
  have hlt1 := HS17.out.lt1
  have hput := HS17.out.put
  have hlow := HS17.out.low
  have hmid := HS17.out.base
  obtain ⟨mid, hmm⟩ : ∃ mid, mid = w1.heap.size := ⟨_, rfl⟩
  rw [← hmm] at hlt1 hput hmid
  have HIN := Lib.hid hin
  have HLT := Lib.hid hlt1
  have HPUT := Lib.hid hput
  have HLOW := Lib.hid hlow
  have HB1' := Lib.hid hbd1
  have HB2' := Lib.hid hbd2
  clear hbd1 hbd2 hin hlt1 hput hlow hmm HI1 HD1 HB1 HS2 HD2 HS3 HA3 HP3 HAP HDA HDP H23 HS4 HA4 HP4 HC4 HE4 HDC HDE H34 HS5 HA5 HP5 HE5 H45 HS6 HA6 HP6 HE6 H56 HS7 HP7 HE7 HS8 HP8 HS9 HS10 HG10 HDG HX9 H910 HS11 HG11 HH11 HDH H1011 HS12 HG12 HH12 HI12 HDI H1112 HS13 HG13 HH13 HI13 H1213 HS14 HH14 HI14 HS15 HS16 HS17 HSA HZR HZP HZG HZ HZ' HS HS' HBN HBN' HCE HGE HN HN'
  go_loopw [16] (fun kv wr => ∃ (k : Nat) (l2' : List Nm), k ≤ n' ∧ kv = .int .i64 k ∧ OwnN wr mid A2 n' c2 l2' ∧ Bnd k l2' ∧ OwnN wr w.heap.size A1 n c1 l1 ∧ Below w.heap.size w wr) (fun kv _ => n' - (intOf kv).toNat)
  case atStart => exact ⟨0, l2, by omega, rfl, HPUT.out, HB2'.out, HIN.out, HLOW.out⟩
  case round =>
    obtain ⟨k, l2', hk, rfl, hput, hbd, hin, hlow⟩ := hrel
    clear HIN HPUT HLOW HB2'
    have HPUT := Lib.hid hput
    have HBD := Lib.hid hbd
    have HIN := Lib.hid hin
    have HLOW := Lib.hid hlow
    by_cases hkn : k < n'
    · have hkl : k < l2'.length := by rw [← HPUT.out.len]; exact hkn
      have hki : (k : Int) < (n' : Int) := by omega
      obtain ⟨g, rfl, hgb, x1, x1f, hst⟩ := hput.name_ hkl
      have hbs := hbd k hkl
      have hts : l2'[k].d.n.size ≤ 140737488351232 := by have := hbs.2.1; rwa [if_neg (by omega)] at this
      have hbn := fun (s : ByteArray) hs => hbd.name hkl (s := s) hs
      obtain ⟨t, ht⟩ : ∃ t, t = l2'[k].d.n := ⟨_, rfl⟩
      rw [← ht] at x1 hts hbn
      have hst2 := hst (t ++ ⟨#[120]⟩)
      have hbn2 := hbn (t ++ ⟨#[120]⟩) (by rw [ByteArray.size_append]; exact Nat.le_refl _)
      have hin2 := hin.keepB (w' := wr.setCell ⟨g, k * 3 + 1, none⟩ (.string (t ++ ⟨#[120]⟩))) (fun g' hg' => Below.heap_setCell _ _ _ _ (show g' ≠ g from fun e => by have := HLT.out g' hg'; omega))
      have hlow2 := hlow.setCell (p := ⟨g, k * 3 + 1, none⟩) (Nat.le_trans hmid hgb) (.string (t ++ ⟨#[120]⟩))
      generalize l2'.set k ⟨⟨l2'[k].d.p, t ++ ⟨#[120]⟩, l2'[k].d.ps⟩, l2'[k].A, l2'[k].c⟩ = l3' at hst2 hbn2
      have O2 := Lib.hid hst2
      have B2 := Lib.hid hbn2
      have I2 := Lib.hid hin2
      have L2 := Lib.hid hlow2
      clear hst hst2 hbn hbn2 hin2 hlow2 ht hbs hput hbd hin hlow
      go_wp2_with fail
      exact ⟨⟨k + 1, l3', by omega, by go_num, O2.out, B2.out, I2.out, L2.out⟩, by simp [intOf]; omega⟩
    obtain rfl : k = n' := by omega
    clear hput hbd hin hlow
    obtain ⟨wm, hwm⟩ : ∃ wm, wm = wr := ⟨_, rfl⟩
    subst hwm
    go_wp2_with fail
    go_loopw [17] (fun iv wr => ∃ (j : Nat) (l1' : List Nm), j ≤ n ∧ iv = .int .i64 j ∧ OwnN wr w.heap.size A1 n c1 l1' ∧ Bnd 0 l1' ∧ (∀ g, Blk A1 l1' g → g < mid) ∧ OwnN wr mid A2 k c2 l2' ∧ Below w.heap.size w wr) (fun iv _ => n - (intOf iv).toNat)
    case atStart => exact ⟨0, l1, by omega, rfl, HIN.out, HB1'.out, HLT.out, HPUT.out, HLOW.out⟩
    case round =>
      obtain ⟨j, l1', hj, rfl, hin, hbd1, hlt, hput, hlow⟩ := hrel
      clear HIN HPUT HLOW HB1' HLT
      have HIN := Lib.hid hin
      have HB1 := Lib.hid hbd1
      have HLT := Lib.hid hlt
      have HPUT := Lib.hid hput
      have HLOW := Lib.hid hlow
      by_cases hjn : j < n
      · have hjl : j < l1'.length := by rw [← HIN.out.len]; exact hjn
        have hji : (j : Int) < (n : Int) := by omega
        have hm0 := (hbd1 j hjl).2.2.1
        obtain ⟨m, hm⟩ : ∃ m, m = l1'[j].d.ps.length := ⟨_, rfl⟩
        rw [← hm] at hm0
        have hmm : ∃ h : j < l1'.length, l1'[j].d.ps.length = m := ⟨hjl, hm.symm⟩
        have HMM := Lib.hid hmm
        clear hm hmm hin hbd1 hlt hput hlow
        go_wp2_with fail
        go_loopw [18] (fun uv wx => ∃ (u : Nat) (l3 : List Nm), u ≤ m ∧ uv = .int .i64 u ∧ (∃ h : j < l3.length, l3[j].d.ps.length = m) ∧ OwnN wx w.heap.size A1 n c1 l3 ∧ Bnd 0 l3 ∧ (∀ g, Blk A1 l3 g → g < mid) ∧ OwnN wx mid A2 k c2 l2' ∧ Below w.heap.size w wx) (fun uv _ => m - (intOf uv).toNat)
        case atStart => exact ⟨0, l1', by omega, rfl, HMM.out, HIN.out, HB1.out, HLT.out, HPUT.out, HLOW.out⟩
        case round =>
          obtain ⟨u, l3, hu, rfl, ⟨hj3, hm3⟩, hin, hbd1, hlt, hput, hlow⟩ := hrel
          clear HIN HB1 HLT HPUT HLOW HMM
          obtain ⟨g, rfl, _, _, _, _, x2, _⟩ := hin.at_ hj3
          rw [hm3] at x2
          by_cases hum : u < m
          · have hu3 : u < l3[j].d.ps.length := by omega
            have hui : (u : Int) < (m : Int) := by omega
            obtain ⟨gp, hgp, hgpb, y0, y0f, hst⟩ := hin.setV hj3 hu3 ⟨#[121]⟩
            have hbv := hbd1.value hj3 hu3
            have hkm : ∃ h : j < (l3.set j (l3[j].setN u ⟨l3[j].d.ps[u].n, ⟨#[121]⟩⟩)).length, (l3.set j (l3[j].setN u ⟨l3[j].d.ps[u].n, ⟨#[121]⟩⟩))[j].d.ps.length = m := ⟨by simpa using hj3, by simp [Nm.setN, hm3]⟩
            have hlt2 : ∀ g', Blk (some ⟨g, 0, none⟩) (l3.set j (l3[j].setN u ⟨l3[j].d.ps[u].n, ⟨#[121]⟩⟩)) g' → g' < mid := fun g' hg' => hlt g' (blk_set hj3 (setN_val _ _ _) hg')
            have hgm : gp < mid := hlt gp (.inr ⟨_, List.getElem_mem hj3, by unfold Nm.val; rw [hgp]; rfl⟩)
            have hput2 := hput.keepB (w' := wr.setCell ⟨gp, u * 2 + 1, none⟩ (.string ⟨#[121]⟩)) (fun g' hg' => Below.heap_setCell _ _ _ _ (show g' ≠ gp from fun e => by have := (hput.blk hg').1; omega))
            have hlow2 := hlow.setCell (p := ⟨gp, u * 2 + 1, none⟩) hgpb (.string ⟨#[121]⟩)
            rw [hgp] at x2
            generalize l3[j].d.ps[u].v = v0 at y0
            generalize l3[j].c = cc at x2
            generalize l3.set j (l3[j].setN u ⟨l3[j].d.ps[u].n, ⟨#[121]⟩⟩) = l4 at hst hbv hkm hlt2
            have O2 := Lib.hid hst
            have B2 := Lib.hid hbv
            have K2 := Lib.hid hkm
            have T2 := Lib.hid hlt2
            have P2 := Lib.hid hput2
            have L2 := Lib.hid hlow2
            clear hst hbv hkm hlt2 hput2 hlow2 hin hbd1 hlt hput hlow hgp hgm hm3 hu3
            go_wp2_with fail
            exact ⟨⟨u + 1, l4, by omega, by go_num, K2.out, O2.out, B2.out, T2.out, P2.out, L2.out⟩, by simp [intOf]; omega⟩
          · obtain rfl : u = m := by omega
            have O2 := Lib.hid hin
            have B2 := Lib.hid hbd1
            have T2 := Lib.hid hlt
            have P2 := Lib.hid hput
            have L2 := Lib.hid hlow
            clear hin hbd1 hlt hput hlow
            go_wp2_with fail
            exact ⟨⟨j + 1, l3, by omega, by go_num, O2.out, B2.out, T2.out, P2.out, L2.out⟩, by simp [intOf]; omega⟩
      obtain rfl : j = n := by omega
      clear hin hbd1 hlt hput hlow
      have hz1 : Sized l1' := HB1.out.sized (by have := HIN.out.len; omega)
      have hz2 : Sized l2' := HBD.out.sized (by have := HPUT.out.len; omega)
      have hcf := cut_from l1' i
      have hgf := graft_from l1' l2' i
      have hzR : ∀ l3 : List Nm, dat l3 = cutR (dat l1') i → Sized l3 := fun l3 h => SizedD.mem (by rw [h]; exact hcf.1.sized hz1)
      have hzG : ∀ l3 : List Nm, dat l3 = graftR (dat l1') i (dat l2') → Sized l3 := fun l3 h => by
        refine SizedD.mem ?_
        rw [h]
        refine ⟨by have := hgf.len; omega, fun x hx => ?_, fun x hx => ?_, fun x hx => ?_⟩
        · obtain ⟨y, hy, e1, e2, _⟩ := hgf.of_ x hx
          rw [e1, e2]
          rcases List.mem_append.1 hy with hy | hy
          · exact hz1.small _ (by unfold dat; exact List.mem_map_of_mem hy)
          · exact hz2.small _ (by unfold dat; exact List.mem_map_of_mem hy)
        · obtain ⟨y, hy, e1, e2, _⟩ := hgf.of_ x hx
          rw [e2]
          rcases List.mem_append.1 hy with hy | hy
          · exact hz1.props _ hy
          · exact hz2.props _ hy
        · obtain ⟨y, hy, _, _, h1, h2⟩ := hgf.of_ x hx
          exact WalkArith.wf_i64 (by omega)
      have HZR := Lib.hid hzR
      have HZG := Lib.hid hzG
      have HZ1 := Lib.hid hz1
      have HZ2 := Lib.hid hz2
      clear hzR hzG hz1 hz2 hcf hgf HBD HB1 HLT
      obtain ⟨ce2, hce⟩ : ∃ ce2, ce2 = cutE (dat l1') i := ⟨_, rfl⟩
      obtain ⟨ge2, hge⟩ : ∃ ge2, ge2 = graftE (dat l1') i (dat l2') := ⟨_, rfl⟩
      have HCE := Lib.hid hce
      have HGE := Lib.hid hge
      clear hce hge
      go_wp2_with (first
        | (go_at_call 9
           refine (rsame_eq A14 c14 n14 l14 HR26.out.len (HZR.out _ HDR.out) A16 c16 n16 l16 HQ26.out.len w26 HR26.out.nodes HQ26.out.nodes (HDR.out.trans HDQ.out.symm)).mono ?_
           rintro e w27 ⟨rfl, hb⟩
           have HL27 := Lib.hid (HL26.out.trans (hb.mono HL26.out.size))
           clear hb)
        | (go_at_call 9
           refine (rsame_eq A11 c11 n11 l11 HG25.out.len (HZG.out _ HDG.out) A13 c13 n13 l13 HC25.out.len w25 HG25.out.nodes HC25.out.nodes (HDG.out.trans HDC.out.symm)).mono ?_
           rintro e w26 ⟨rfl, hb⟩
           have HR26 := Lib.hid (HR25.out.below hb)
           have HQ26 := Lib.hid (HQ25.out.below hb)
           have HL26 := Lib.hid (HL25.out.trans (hb.mono HL25.out.size))
           clear hb)
        | (go_at_call 12
           refine (rcut_any A10 c10 j l10 HK24.out.len (sized_dat HZ1.out HDK.out) i w24 _ (Nat.le_refl _) HK24.out.nodes).mono ?_
           rintro e w25 ⟨⟨A16, n16, c16, l16, A17, n17, c17, l17, rfl, ho, _, hd, _⟩, hb⟩
           rw [HDK.out] at hd ⊢
           rw [← HCE.out]
           have HQ25 := Lib.hid ho
           have HDQ := Lib.hid hd
           have HG25 := Lib.hid (HG24.out.below hb)
           have HC25 := Lib.hid (HC24.out.below hb)
           have HR25 := Lib.hid (HR24.out.below hb)
           have HL25 := Lib.hid (HL24.out.trans (hb.mono HL24.out.size))
           clear hd ho hb)
        | (go_at_call 11
           refine (pcut_any A1 c1 j l1' HI23.out.len (own_cap3 HI23.out.row) HZ1.out i w23 _ (Nat.le_refl _) HI23.out.nodes).mono ?_
           rintro e w24 ⟨⟨A14, n14, c14, l14, A15, n15, c15, l15, rfl, ho, _, _, hd, _⟩, hb⟩
           rw [← HCE.out]
           have HR24 := Lib.hid ho
           have HDR := Lib.hid hd
           have HK24 := Lib.hid (HK23.out.below hb)
           have HG24 := Lib.hid (HG23.out.below hb)
           have HC24 := Lib.hid (HC23.out.below hb)
           have HL24 := Lib.hid (HL23.out.trans (hb.mono HL23.out.size))
           clear hd ho hb)
        | (go_at_call 15
           refine (rgraft_any A10 c10 j l10 HK22.out.len (sized_dat HZ1.out HDK.out) i A12 c12 k l12 HT22.out.len (sized_dat HZ2.out HDT.out) w22 _ (Nat.le_refl _) HK22.out.nodes HT22.out.nodes).mono ?_
           rintro e w23 ⟨⟨A13, n13, c13, l13, rfl, ho, hd⟩, hb⟩
           rw [HDK.out, HDT.out] at hd ⊢
           rw [← HGE.out]
           have HC23 := Lib.hid ho
           have HDC := Lib.hid hd
           have HI23 := Lib.hid (HI22.out.below hb)
           have HK23 := Lib.hid (HK22.out.below hb)
           have HG23 := Lib.hid (HG22.out.below hb)
           have HL23 := Lib.hid (HL22.out.trans (hb.mono HL22.out.size))
           clear hd ho hb)
        | (go_at_call 6
           refine (rtwin_any A2 c2 k l2' HP21.out.len HZ2.out w21 _ (Nat.le_refl _) HP21.out.nodes).mono ?_
           rintro e w22 ⟨A12, c12, l12, rfl, hd, ho, hb⟩
           have HT22 := Lib.hid ho
           have HDT := Lib.hid hd
           have HI22 := Lib.hid (HI21.out.below hb)
           have HK22 := Lib.hid (HK21.out.below hb)
           have HG22 := Lib.hid (HG21.out.below hb)
           have HL22 := Lib.hid (HL21.out.trans (hb.mono HL21.out.size))
           clear hd ho hb)
        | (go_at_call 14
           refine (pgraft_any A1 c1 j l1' HI20.out.len (own_cap3 HI20.out.row) HZ1.out i A2 c2 k l2' HP20.out.len HZ2.out w20 _ (Nat.le_refl _) HI20.out.nodes HP20.out.nodes).mono ?_
           rintro e w21 ⟨⟨A11, n11, c11, l11, rfl, ho, hd⟩, hb⟩
           rw [← HGE.out]
           have HG21 := Lib.hid ho
           have HDG := Lib.hid hd
           have HI21 := Lib.hid (HI20.out.below hb)
           have HP21 := Lib.hid (HP20.out.below hb)
           have HK21 := Lib.hid (HK20.out.below hb)
           have HL21 := Lib.hid (HL20.out.trans (hb.mono HL20.out.size))
           clear hd ho hb)
        | (go_at_call 6
           refine (rtwin_any A1 c1 j l1' HIN.out.len HZ1.out wr _ (Nat.le_refl _) HIN.out.nodes).mono ?_
           rintro e w20 ⟨A10, c10, l10, rfl, hd, ho, hb⟩
           have HK20 := Lib.hid ho
           have HDK := Lib.hid hd
           have HI20 := Lib.hid (HIN.out.below hb)
           have HP20 := Lib.hid (HPUT.out.below hb)
           have HL20 := Lib.hid (HLOW.out.trans (hb.mono HLOW.out.size))
           clear hd ho hb))
      go_ret
      exact ⟨rfl, HL27.out⟩
end Go.Proofs.Ytmdnbajbfnhecaa
