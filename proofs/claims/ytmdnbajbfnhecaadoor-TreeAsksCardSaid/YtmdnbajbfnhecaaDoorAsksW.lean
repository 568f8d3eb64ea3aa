/- The walk of TreeAsks. -/
import Derived.Test.YtmdnbajbfnhecaaDoorAA
set_option linter.unusedVariables false
namespace Go.Proofs.YtmdnbajbfnhecaaDoor
open Go.RowKit
theorem kidsV_le {l : List Nm} (i : Int) : (kidsV (dat l) i).length ≤ l.length := by
  unfold kidsV
  split
  · exact kidsN_le
  · simp
set_option maxRecDepth 100000 in
set_option maxHeartbeats 16000000 in
theorem treeAsks_walk (A : Option Addr) (c n : Nat) (la : List Nm) (hn : n = la.length) (hz : Sized la) (key : ByteArray) (w : World) (hv0 : Var0 w) (hw0 : 0 < w.heap.size) (hs : Nodes w w.heap.size A la) :
    Calls Tryd.prog 4 #[.slice A n c, .string key] w fun e w' => e = .returned (.bool true) ∧ Below w.heap.size w w' := by
  have hnn : n ≤ 2932031007403 := by have := hz.n; omega
  have HN := Lib.hid hn
  have HZ := Lib.hid hz
  have HS := Lib.hid hs
  have HV := Lib.hid hv0
  clear hn hz hs hv0
  go_enter Tryd.func4, Tryd.ntmps4
  go_wp2_with (first
    | (go_at_call 8
       refine (rtwin_any A c n la HN.out HZ.out w _ (Nat.le_refl _) HS.out).mono ?_
       rintro e w1 ⟨A1, c1, l1, rfl, hd1, ho1, hb1⟩
       have HN1 := Lib.hid ho1.len
       have HZ1 := Lib.hid (sized_dat HZ.out hd1)
       have HS1 := Lib.hid ho1.nodes
       have HS0 := Lib.hid ((HS.out.below hb1).more hb1.size)
       have HD1 := Lib.hid hd1
       have HB1 := Lib.hid hb1
       have HV1 := Lib.hid (HV.out.below hb1 hw0)
       have hw1 : 0 < w1.heap.size := Nat.lt_of_lt_of_le hw0 hb1.size
       clear ho1 hd1 hb1))
  go_loopw [6] (fun xv wx => ∃ x : Int, -1 ≤ x ∧ x ≤ n + 1 ∧ xv = .int .i64 x ∧ Below w1.heap.size w1 wx) (fun xv _ => (n + 1 - intOf xv).toNat)
  case atStart => exact ⟨-1, by omega, by omega, rfl, Below.refl _ _⟩
  case round =>
    obtain ⟨x, hx1, hx2, rfl, hb⟩ := hrel
    have HB := Lib.hid hb
    clear hb
    by_cases hlt : x ≤ n
    case neg =>
      obtain rfl : x = (n : Int) + 1 := by omega
      have hf0 : ¬ ((n : Int) + 1 ≤ (n : Int)) := by omega
      have hf1 : decide ((n : Int) + 1 ≤ (n : Int)) = false := by simpa using hf0
      go_wp2_with (first
        | (go_at_call 15
           refine (rsame_eq A1 c1 n l1 HN1.out HZ1.out A c n la HN.out wr ((HS1.out.below HB.out).more HB.out.size) ((HS0.out.below HB.out).more HB.out.size) HD1.out).mono ?_
           rintro e w8 ⟨rfl, hb8⟩
           have HB8 := Lib.hid (HB1.out.trans ((below_next HB.out hb8).mono HB1.out.size))
           clear hb8))
      go_ret
      exact ⟨rfl, HB8.out⟩
    have hxn : decide (x ≤ (n : Int)) = true := by simpa using hlt
    by_cases hsk : x > 40 ∧ x < (n : Int) - 2
    · have e1 : decide (40 < x) = true := by simpa using hsk.1
      have e2 : decide (x < IntKind.i64.wrap ((n : Int) - 2)) = true := by rw [IntWalk.i64_in _ (by omega)]; simpa using hsk.2
      go_wp2_with fail
      exact ⟨⟨x + 1, by omega, by omega, by go_num, HB.out⟩, by simp [intOf]; omega⟩
    have hsk2 : ¬ (40 < x) ∨ (40 < x ∧ ¬ x < (n : Int) - 2) := by omega
    clear hsk
    rcases hsk2 with hsk | ⟨hsk, hsk2⟩
    · have e1 : decide (40 < x) = false := by simpa using hsk
      have h16 := fun wx (hb : Below w1.heap.size w1 wx) => ppath_any A1 c1 n l1 HN1.out HZ1.out x wx w1.heap.size hb.size (HS1.out.below hb)
      have h17 := fun wx (hb : Below w1.heap.size w1 wx) => rpath_any A c n la HN.out HZ.out x wx w1.heap.size hb.size (HS0.out.below hb)
      have h18 := fun wx (hb : Below w1.heap.size w1 wx) => pdepth_any A1 c1 n l1 HN1.out HZ1.out x wx w1.heap.size hb.size (HS1.out.below hb)
      have h19 := fun wx (hb : Below w1.heap.size w1 wx) => rdepth_any A c n la HN.out HZ.out x wx w1.heap.size hb.size (HS0.out.below hb)
      have h20 := fun wx (hb : Below w1.heap.size w1 wx) => pkids_any A1 c1 n l1 HN1.out HZ1.out x wx w1.heap.size hb.size (HS1.out.below hb)
      have h21 := fun wx (hb : Below w1.heap.size w1 wx) => rkids2_any A c n la HN.out HZ.out x wx w1.heap.size hb.size (HS0.out.below hb)
      have h22 := fun wx (hb : Below w1.heap.size w1 wx) => pend_any A1 c1 n l1 HN1.out HZ1.out x wx w1.heap.size hb.size (HS1.out.below hb)
      have h23 := fun wx (hb : Below w1.heap.size w1 wx) => rend2_any A c n la HN.out HZ.out x wx w1.heap.size hb.size (HS0.out.below hb)
      have h25 := fun wx (hb : Below w1.heap.size w1 wx) => asks_any A1 c1 n l1 HN1.out HZ1.out A c la HN.out HZ.out HD1.out x key wx (HV1.out.below hb hw1) (Nat.lt_of_lt_of_le hw1 hb.size) ((HS1.out.below hb).more hb.size) ((HS0.out.below hb).more hb.size)
      have hkl := kidsV_le (l := la) x
      rw [← HN.out] at hkl
      rw [HD1.out] at h16 h18 h20 h22
      generalize pathS (dat la) x = PS at *
      generalize depthI (dat la) x = DI at *
      generalize kidsV (dat la) x = KS at *
      generalize endI (dat la) x = EI at *
      generalize wrongF (dat la) x = W at *
      obtain ⟨m, hm⟩ : ∃ m, m = KS.length := ⟨_, rfl⟩
      rw [← hm] at hkl
      have K16 := Lib.hid h16
      have K17 := Lib.hid h17
      have K18 := Lib.hid h18
      have K19 := Lib.hid h19
      have K20 := Lib.hid h20
      have K21 := Lib.hid h21
      have K22 := Lib.hid h22
      have K23 := Lib.hid h23
      have K25 := Lib.hid h25
      have HM := Lib.hid hm
      clear h16 h17 h18 h19 h20 h21 h22 h23 h25 hm
      have p1 : (PS.toList == PS.toList) = true := by simp
      have p2 : (PS.toList != PS.toList) = false := by simp

      go_wp2_with (first
        | (go_at_call 24
           refine (sameints_any A5 c5 A6 c6 m KS HM.out (by omega) wx8 _ (Nat.le_refl _) (own_seg HO5.out) (own_seg HO6.out)).mono ?_
           rintro e wx9 ⟨rfl, hb9⟩
           have HX9 := Lib.hid (HX8.out.trans (hb9.mono HX8.out.size))
           have HO5 := Lib.hid (own_keep HO5.out fun g _ hlt => hb9.block g hlt)
           have HO6 := Lib.hid (own_keep HO6.out fun g _ hlt => hb9.block g hlt)
           clear hb9)
        | (go_at_call 23
           refine (K23.out wx7 HX7.out).mono ?_
           rintro e wx8 ⟨rfl, hb8⟩
           have HX8 := Lib.hid (HX7.out.trans (hb8.mono HX7.out.size))
           have HO5 := Lib.hid (own_keep HO5.out fun g _ hlt => hb8.block g hlt)
           have HO6 := Lib.hid (own_keep HO6.out fun g _ hlt => hb8.block g hlt)
           clear hb8)
        | (go_at_call 22
           refine (K22.out wx6 HX6.out).mono ?_
           rintro e wx7 ⟨rfl, hb7⟩
           have HX7 := Lib.hid (HX6.out.trans (hb7.mono HX6.out.size))
           have HO5 := Lib.hid (own_keep HO5.out fun g _ hlt => hb7.block g hlt)
           have HO6 := Lib.hid (own_keep HO6.out fun g _ hlt => hb7.block g hlt)
           clear hb7)
        | (go_at_call 21
           refine (K21.out wx5 HX5.out).mono ?_
           rintro e wx6 ⟨⟨A6, m6, c6, rfl, hm6, ho6⟩, hb6⟩
           obtain rfl : m = m6 := by rw [hm6, ← HM.out]
           have HX6 := Lib.hid (HX5.out.trans (hb6.mono HX5.out.size))
           have HO5 := Lib.hid (own_keep HO5.out fun g _ hlt => hb6.block g hlt)
           have HO6 := Lib.hid ho6
           clear hb6 hm6 ho6)
        | (go_at_call 20
           refine (K20.out wx4 HX4.out).mono ?_
           rintro e wx5 ⟨⟨A5, m5, c5, rfl, hm5, ho5⟩, hb5⟩
           obtain rfl : m = m5 := by rw [hm5, ← HM.out]
           have HX5 := Lib.hid (HX4.out.trans (hb5.mono HX4.out.size))
           have HO5 := Lib.hid ho5
           have HLT := Lib.hid (fun g (hg : (Value.slice A5 m c5).ownBlock = some g) => (ho5.lt g hg))
           clear hb5 hm5 ho5)
        | (go_at_call 19
           refine (K19.out wx3 HX3.out).mono ?_
           rintro e wx4 ⟨rfl, hb4⟩
           have HX4 := Lib.hid (HX3.out.trans (hb4.mono HX3.out.size))
           clear hb4)
        | (go_at_call 18
           refine (K18.out wx2 HX2.out).mono ?_
           rintro e wx3 ⟨rfl, hb3⟩
           have HX3 := Lib.hid (HX2.out.trans (hb3.mono HX2.out.size))
           clear hb3)
        | (go_at_call 17
           refine (K17.out wx1 HX1.out).mono ?_
           rintro e wx2 ⟨rfl, hb2⟩
           have HX2 := Lib.hid (HX1.out.trans (hb2.mono HX1.out.size))
           clear hb2)
        | (go_at_call 16
           refine (K16.out wr HB.out).mono ?_
           rintro e wx1 ⟨rfl, hb1⟩
           have HX1 := Lib.hid (HB.out.trans (hb1.mono HB.out.size))
           clear hb1))

      go_loopw [17] (fun jv wx => ∃ (j : Nat) (xs : List Value), j ≤ m ∧ jv = .int .i64 j ∧ xs.length = m ∧ (∀ g, 0 < m → A5 = some ⟨g, 0, none⟩ → RowAt wx g 3 xs) ∧ Frame (fun g => (Value.slice A5 m c5).ownBlock = some g) wx9 wx) (fun jv _ => m - (intOf jv).toNat)
      case atStart =>
        refine ⟨0, natsV KS, Nat.zero_le _, rfl, by unfold natsV; rw [List.length_map, ← HM.out], fun g h0 e => ?_, Frame.refl _ _⟩
        obtain ⟨g', e', _, _, hr⟩ := RowAt.of_own HO5.out h0
        rw [e] at e'
        injection e' with e'
        injection e' with e1 e2 e3
        rw [e1]; exact hr
      case round =>
        obtain ⟨j, xs, hj, rfl, hxs, hrow, hfr⟩ := hrel
        by_cases hjm : j < m
        · obtain ⟨g, eA, hg1, _, _⟩ := RowAt.of_own HO5.out (by omega)
          have hr := hrow g (by omega) eA
          have hob : (Value.slice A5 m c5).ownBlock = some g := by rw [eA]; rfl
          have hji : (j : Int) < (m : Int) := by omega
          have hjx : j < xs.length := by omega
          have c0 : wr.cell? ⟨g, j, none⟩ = some xs[j] := by rw [hr.cell hjx, List.getElem?_eq_getElem hjx]
          have f0 := hr.frozen j
          have HFR := Lib.hid hfr
          have HR := Lib.hid hr
          have HROW := Lib.hid hrow
          have HOB := Lib.hid hob
          have HEA := Lib.hid eA
          generalize xs[j] = u at *
          clear hfr hr hrow hob hg1
          subst eA
          go_wp2_with fail
          refine ⟨⟨j + 1, xs.set j (.int .i64 (-9)), by omega, by go_num, by rw [List.length_set]; exact hxs, fun g' _ e => ?_, HFR.out.setCell (fun _ => HOB.out) _⟩, by simp [intOf]; omega⟩
          injection e with e
          injection e with e1 e2 e3
          subst e1
          exact HR.out.store j _
        · obtain rfl : j = m := by omega
          have hf0 : ¬ (j : Int) < (j : Int) := by omega
          have HXL := Lib.hid (HX9.out.trans (hfr.toBelow HX9.out.size fun k hk hs => by have := (HLT.out k hs).1; have := HX4.out.size; omega))
          have HO6L := Lib.hid (own_frame HO6.out hfr fun g hg hs => by have := (HO6.out.lt g hg).1; have := (HLT.out g hs).2; omega)
          clear hrow hfr
          go_wp2_with (first
            | (go_at_call 25
               refine (K25.out wx12 HX12.out).mono ?_
               rintro e wx13 ⟨rfl, hb13⟩
               have HX13 := Lib.hid (HX12.out.trans (hb13.mono HX12.out.size))
               clear hb13)
            | (go_at_call 24
               refine (sameints_any A7 c7 A6 c6 j KS HM.out (by omega) wx11 _ (Nat.le_refl _) (own_seg HO7.out) (own_seg HO6L.out)).mono ?_
               rintro e wx12 ⟨rfl, hb12⟩
               have HX12 := Lib.hid (HX11.out.trans (hb12.mono HX11.out.size))
               clear hb12)
            | (go_at_call 20
               refine (K20.out wr HXL.out).mono ?_
               rintro e wx11 ⟨⟨A7, m7, c7, rfl, hm7, ho7⟩, hb11⟩
               obtain rfl : j = m7 := by rw [hm7, ← HM.out]
               have HX11 := Lib.hid (HXL.out.trans (hb11.mono HXL.out.size))
               have HO6L := Lib.hid (own_keep HO6L.out fun g _ hlt => hb11.block g hlt)
               have HO7 := Lib.hid ho7
               clear hb11 hm7 ho7))
          exact ⟨⟨x + 1, by omega, by omega, by go_num, HX13.out⟩, by simp [intOf]; omega⟩
    · have e1 : decide (40 < x) = true := by simpa using hsk
      have e2 : decide (x < IntKind.i64.wrap ((n : Int) - 2)) = false := by rw [IntWalk.i64_in _ (by omega)]; simpa using hsk2
      have h16 := fun wx (hb : Below w1.heap.size w1 wx) => ppath_any A1 c1 n l1 HN1.out HZ1.out x wx w1.heap.size hb.size (HS1.out.below hb)
      have h17 := fun wx (hb : Below w1.heap.size w1 wx) => rpath_any A c n la HN.out HZ.out x wx w1.heap.size hb.size (HS0.out.below hb)
      have h18 := fun wx (hb : Below w1.heap.size w1 wx) => pdepth_any A1 c1 n l1 HN1.out HZ1.out x wx w1.heap.size hb.size (HS1.out.below hb)
      have h19 := fun wx (hb : Below w1.heap.size w1 wx) => rdepth_any A c n la HN.out HZ.out x wx w1.heap.size hb.size (HS0.out.below hb)
      have h20 := fun wx (hb : Below w1.heap.size w1 wx) => pkids_any A1 c1 n l1 HN1.out HZ1.out x wx w1.heap.size hb.size (HS1.out.below hb)
      have h21 := fun wx (hb : Below w1.heap.size w1 wx) => rkids2_any A c n la HN.out HZ.out x wx w1.heap.size hb.size (HS0.out.below hb)
      have h22 := fun wx (hb : Below w1.heap.size w1 wx) => pend_any A1 c1 n l1 HN1.out HZ1.out x wx w1.heap.size hb.size (HS1.out.below hb)
      have h23 := fun wx (hb : Below w1.heap.size w1 wx) => rend2_any A c n la HN.out HZ.out x wx w1.heap.size hb.size (HS0.out.below hb)
      have h25 := fun wx (hb : Below w1.heap.size w1 wx) => asks_any A1 c1 n l1 HN1.out HZ1.out A c la HN.out HZ.out HD1.out x key wx (HV1.out.below hb hw1) (Nat.lt_of_lt_of_le hw1 hb.size) ((HS1.out.below hb).more hb.size) ((HS0.out.below hb).more hb.size)
      have hkl := kidsV_le (l := la) x
      rw [← HN.out] at hkl
      rw [HD1.out] at h16 h18 h20 h22
      generalize pathS (dat la) x = PS at *
      generalize depthI (dat la) x = DI at *
      generalize kidsV (dat la) x = KS at *
      generalize endI (dat la) x = EI at *
      generalize wrongF (dat la) x = W at *
      obtain ⟨m, hm⟩ : ∃ m, m = KS.length := ⟨_, rfl⟩
      rw [← hm] at hkl
      have K16 := Lib.hid h16
      have K17 := Lib.hid h17
      have K18 := Lib.hid h18
      have K19 := Lib.hid h19
      have K20 := Lib.hid h20
      have K21 := Lib.hid h21
      have K22 := Lib.hid h22
      have K23 := Lib.hid h23
      have K25 := Lib.hid h25
      have HM := Lib.hid hm
      clear h16 h17 h18 h19 h20 h21 h22 h23 h25 hm
      have p1 : (PS.toList == PS.toList) = true := by simp
      have p2 : (PS.toList != PS.toList) = false := by simp

      go_wp2_with (first
        | (go_at_call 24
           refine (sameints_any A5 c5 A6 c6 m KS HM.out (by omega) wx8 _ (Nat.le_refl _) (own_seg HO5.out) (own_seg HO6.out)).mono ?_
           rintro e wx9 ⟨rfl, hb9⟩
           have HX9 := Lib.hid (HX8.out.trans (hb9.mono HX8.out.size))
           have HO5 := Lib.hid (own_keep HO5.out fun g _ hlt => hb9.block g hlt)
           have HO6 := Lib.hid (own_keep HO6.out fun g _ hlt => hb9.block g hlt)
           clear hb9)
        | (go_at_call 23
           refine (K23.out wx7 HX7.out).mono ?_
           rintro e wx8 ⟨rfl, hb8⟩
           have HX8 := Lib.hid (HX7.out.trans (hb8.mono HX7.out.size))
           have HO5 := Lib.hid (own_keep HO5.out fun g _ hlt => hb8.block g hlt)
           have HO6 := Lib.hid (own_keep HO6.out fun g _ hlt => hb8.block g hlt)
           clear hb8)
        | (go_at_call 22
           refine (K22.out wx6 HX6.out).mono ?_
           rintro e wx7 ⟨rfl, hb7⟩
           have HX7 := Lib.hid (HX6.out.trans (hb7.mono HX6.out.size))
           have HO5 := Lib.hid (own_keep HO5.out fun g _ hlt => hb7.block g hlt)
           have HO6 := Lib.hid (own_keep HO6.out fun g _ hlt => hb7.block g hlt)
           clear hb7)
        | (go_at_call 21
           refine (K21.out wx5 HX5.out).mono ?_
           rintro e wx6 ⟨⟨A6, m6, c6, rfl, hm6, ho6⟩, hb6⟩
           obtain rfl : m = m6 := by rw [hm6, ← HM.out]
           have HX6 := Lib.hid (HX5.out.trans (hb6.mono HX5.out.size))
           have HO5 := Lib.hid (own_keep HO5.out fun g _ hlt => hb6.block g hlt)
           have HO6 := Lib.hid ho6
           clear hb6 hm6 ho6)
        | (go_at_call 20
           refine (K20.out wx4 HX4.out).mono ?_
           rintro e wx5 ⟨⟨A5, m5, c5, rfl, hm5, ho5⟩, hb5⟩
           obtain rfl : m = m5 := by rw [hm5, ← HM.out]
           have HX5 := Lib.hid (HX4.out.trans (hb5.mono HX4.out.size))
           have HO5 := Lib.hid ho5
           have HLT := Lib.hid (fun g (hg : (Value.slice A5 m c5).ownBlock = some g) => (ho5.lt g hg))
           clear hb5 hm5 ho5)
        | (go_at_call 19
           refine (K19.out wx3 HX3.out).mono ?_
           rintro e wx4 ⟨rfl, hb4⟩
           have HX4 := Lib.hid (HX3.out.trans (hb4.mono HX3.out.size))
           clear hb4)
        | (go_at_call 18
           refine (K18.out wx2 HX2.out).mono ?_
           rintro e wx3 ⟨rfl, hb3⟩
           have HX3 := Lib.hid (HX2.out.trans (hb3.mono HX2.out.size))
           clear hb3)
        | (go_at_call 17
           refine (K17.out wx1 HX1.out).mono ?_
           rintro e wx2 ⟨rfl, hb2⟩
           have HX2 := Lib.hid (HX1.out.trans (hb2.mono HX1.out.size))
           clear hb2)
        | (go_at_call 16
           refine (K16.out wr HB.out).mono ?_
           rintro e wx1 ⟨rfl, hb1⟩
           have HX1 := Lib.hid (HB.out.trans (hb1.mono HB.out.size))
           clear hb1))

      go_loopw [17] (fun jv wx => ∃ (j : Nat) (xs : List Value), j ≤ m ∧ jv = .int .i64 j ∧ xs.length = m ∧ (∀ g, 0 < m → A5 = some ⟨g, 0, none⟩ → RowAt wx g 3 xs) ∧ Frame (fun g => (Value.slice A5 m c5).ownBlock = some g) wx9 wx) (fun jv _ => m - (intOf jv).toNat)
      case atStart =>
        refine ⟨0, natsV KS, Nat.zero_le _, rfl, by unfold natsV; rw [List.length_map, ← HM.out], fun g h0 e => ?_, Frame.refl _ _⟩
        obtain ⟨g', e', _, _, hr⟩ := RowAt.of_own HO5.out h0
        rw [e] at e'
        injection e' with e'
        injection e' with e1 e2 e3
        rw [e1]; exact hr
      case round =>
        obtain ⟨j, xs, hj, rfl, hxs, hrow, hfr⟩ := hrel
        by_cases hjm : j < m
        · obtain ⟨g, eA, hg1, _, _⟩ := RowAt.of_own HO5.out (by omega)
          have hr := hrow g (by omega) eA
          have hob : (Value.slice A5 m c5).ownBlock = some g := by rw [eA]; rfl
          have hji : (j : Int) < (m : Int) := by omega
          have hjx : j < xs.length := by omega
          have c0 : wr.cell? ⟨g, j, none⟩ = some xs[j] := by rw [hr.cell hjx, List.getElem?_eq_getElem hjx]
          have f0 := hr.frozen j
          have HFR := Lib.hid hfr
          have HR := Lib.hid hr
          have HROW := Lib.hid hrow
          have HOB := Lib.hid hob
          have HEA := Lib.hid eA
          generalize xs[j] = u at *
          clear hfr hr hrow hob hg1
          subst eA
          go_wp2_with fail
          refine ⟨⟨j + 1, xs.set j (.int .i64 (-9)), by omega, by go_num, by rw [List.length_set]; exact hxs, fun g' _ e => ?_, HFR.out.setCell (fun _ => HOB.out) _⟩, by simp [intOf]; omega⟩
          injection e with e
          injection e with e1 e2 e3
          subst e1
          exact HR.out.store j _
        · obtain rfl : j = m := by omega
          have hf0 : ¬ (j : Int) < (j : Int) := by omega
          have HXL := Lib.hid (HX9.out.trans (hfr.toBelow HX9.out.size fun k hk hs => by have := (HLT.out k hs).1; have := HX4.out.size; omega))
          have HO6L := Lib.hid (own_frame HO6.out hfr fun g hg hs => by have := (HO6.out.lt g hg).1; have := (HLT.out g hs).2; omega)
          clear hrow hfr
          go_wp2_with (first
            | (go_at_call 25
               refine (K25.out wx12 HX12.out).mono ?_
               rintro e wx13 ⟨rfl, hb13⟩
               have HX13 := Lib.hid (HX12.out.trans (hb13.mono HX12.out.size))
               clear hb13)
            | (go_at_call 24
               refine (sameints_any A7 c7 A6 c6 j KS HM.out (by omega) wx11 _ (Nat.le_refl _) (own_seg HO7.out) (own_seg HO6L.out)).mono ?_
               rintro e wx12 ⟨rfl, hb12⟩
               have HX12 := Lib.hid (HX11.out.trans (hb12.mono HX11.out.size))
               clear hb12)
            | (go_at_call 20
               refine (K20.out wr HXL.out).mono ?_
               rintro e wx11 ⟨⟨A7, m7, c7, rfl, hm7, ho7⟩, hb11⟩
               obtain rfl : j = m7 := by rw [hm7, ← HM.out]
               have HX11 := Lib.hid (HXL.out.trans (hb11.mono HXL.out.size))
               have HO6L := Lib.hid (own_keep HO6L.out fun g _ hlt => hb11.block g hlt)
               have HO7 := Lib.hid ho7
               clear hb11 hm7 ho7))
          exact ⟨⟨x + 1, by omega, by omega, by go_num, HX13.out⟩, by simp [intOf]; omega⟩
end Go.Proofs.YtmdnbajbfnhecaaDoor
