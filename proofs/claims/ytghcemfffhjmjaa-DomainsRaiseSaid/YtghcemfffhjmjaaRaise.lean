/- DomainsRaise: the walk. -/
import Derived.Test.YtghcemfffhjmjaaRLaw
import Derived.Test.YtghcemfffhjmjaaOpen
import Derived.Deep.RegionHeld3
import Derived.Deep.DeepCutAuto
import Derived.Deep.CutRange
set_option linter.unusedVariables false
namespace Go.Proofs.Ytghcemfffhjmjaa
open Go.RowKit
theorem voteC_len (ds : List Dm) (W : Int → Int → Nat) (u d : Int) (v : Nat) : (voteC ds W u d v).length ≤ ds.length + ds.length := by
  by_cases he : voteE ds W u d v = 0
  · rw [voteC_ok he]
    have h1 := ups_len (lev ds W) (lev ds (updW W u d v)) ds.length
    have h2 := dns_len (lev ds W) (lev ds (updW W u d v)) ds.length (ups (lev ds W) (lev ds (updW W u d v)) ds.length) ds.length
    unfold chgs
    omega
  · rw [voteC_no he]
    exact Nat.zero_le _
set_option maxRecDepth 100000 in
set_option maxHeartbeats 4000000 in
theorem raise_any (Al : Option Addr) (capl : Nat) (l : List Dmi) (n : Nat) (hn : n = l.length) (As : Option Addr) (caps : Nat) (S : List Stp) (m : Nat) (hm : m = S.length) (x : Stp) (hx : x.wf) (more : Nat) (hmore : more ≤ 255) (w : World)
    (hd : Domi w w.heap.size Al l) (hs : Seg w w.heap.size As (stCells S)) (hwf : ∀ y ∈ S, y.wf) (hl : n ≤ 4398046510976) (hlu : ∀ y ∈ l, y.u.length ≤ 17592186043904) (hlt : ∀ y ∈ l, y.t ≤ 255) :
    Calls Try.prog 3 #[.slice Al n capl, .slice As m caps, .agg #[.int .i64 x.k, .int .i64 x.u, .int .i64 x.d, .int .u8 (x.lv : Int)], .int .u8 (more : Int)] w fun e w' => e = .returned (.bool true) ∧ Below w.heap.size w w' := by
  obtain ⟨w1, hw1⟩ : ∃ w1, w1 = w.alloc (.cells #[.int .i64 x.k, .int .i64 x.u, .int .i64 x.d, .int .u8 (x.lv : Int)] 25) := ⟨_, rfl⟩
  have hb1 : Below w.heap.size w w1 := by rw [hw1]; exact (Below.refl _ _).alloc (Nat.le_refl _) _
  have hrow : RowAt w1 w.heap.size 25 [.int .i64 x.k, .int .i64 x.u, .int .i64 x.d, .int .u8 (x.lv : Int)] := by rw [hw1]; exact ⟨_, heap_alloc_new _ _, rfl⟩
  have hz1 : w1.heap.size = w.heap.size + 1 := by rw [hw1]; simp
  have hd1 := hd.below hb1
  have hs1 := hs.below hb1
  have hdm : ∀ w2, Below w1.heap.size w1 w2 → Domi w2 w2.heap.size Al l := fun w2 hb => (hd1.below (hb.mono (by omega))).more (by have := hb.size; omega)
  have hoa := fun w2 (hb : Below w1.heap.size w1 w2) => out_any Al capl l n hn hl hlu w2 (hdm w2 hb)
  have HOA := Lib.hid hoa
  have HDM := Lib.hid hdm
  have hlow : ∀ w', Below w1.heap.size w1 w' → Below w.heap.size w w' := fun w' h => hb1.trans (h.mono (by omega))
  have LOW := Lib.hid hlow
  clear hlow
  have hbox : ∀ wr, Below w1.heap.size w1 wr → wr.cell? ⟨w.heap.size, 1, none⟩ = some (.int .i64 x.u) ∧ wr.cell? ⟨w.heap.size, 2, none⟩ = some (.int .i64 x.d) := fun wr hb =>
    ⟨(hb.cell (p := ⟨w.heap.size, 1, none⟩) (by show w.heap.size < _; omega)).trans (hrow.cell (k := 1) (by simp)), (hb.cell (p := ⟨w.heap.size, 2, none⟩) (by show w.heap.size < _; omega)).trans (hrow.cell (k := 2) (by simp))⟩
  have BOX := Lib.hid hbox
  clear hbox
  have HN := Lib.hid hn
  have HM := Lib.hid hm
  have HWF := Lib.hid hwf
  have HLU := Lib.hid hlu
  have HLT := Lib.hid hlt
  have HX := Lib.hid hx
  have HW1 := Lib.hid hw1
  have HB1 := Lib.hid hb1
  have HROW := Lib.hid hrow
  have HD := Lib.hid hd1
  have HS := Lib.hid hs1
  clear hoa hdm hn hm hd hs hwf hlu hlt hx hw1 hb1 hrow hd1 hs1
  go_enter Try.func3, Try.ntmps3
  go_wp2_with (first
    | (go_at_call 9; refine (new_net A3 c3 lo n HLO.out.1 HLO.out.2 w3 HOUT.out.domi).mono ?_; rintro e w4 ⟨hb4, (⟨hno, rfl⟩ | ⟨hmay, rfl, hnet⟩)⟩)
    | (go_at_call 10; refine (HOA.out w2 HB2.out).mono ?_; rintro e w3 ⟨A3, c3, lo, rfl, hb3, hout⟩
       have hlo : n = lo.length ∧ ∀ y ∈ lo, y.t ≤ 255 := ⟨by rw [core_len hout.same]; exact HN.out, core_all (p := fun _ t => t ≤ 255) hout.same HLT.out⟩
       have hb3' := HB2.out.trans (hb3.mono HB2.out.size)
       have HLO := Lib.hid hlo
       have HB3 := Lib.hid hb3'
       have HOUT := Lib.hid hout
       clear hlo hb3 hb3' hout)
    | (go_at_call 8; rw [← HW1.out]; refine (awake_any w1).mono ?_; rintro e w2 ⟨rfl, hb2⟩; have HB2 := Lib.hid hb2; clear hb2)
    | fail)
  · go_ret
    exact ⟨by rfl, LOW.out _ (HB3.out.trans (hb4.mono HB3.out.size))⟩
  · have hb4' := HB3.out.trans (hb4.mono HB3.out.size)
    have hmb := HB3.out.size
    have hdl : (dms lo).length = n := by rw [dms_len]; exact HLO.out.1.symm
    generalize dms lo = ds at hnet hdl
    generalize w3.heap.size = mb at hnet hmb ⊢
    have HB4 := Lib.hid hb4'
    have HNET := Lib.hid hnet
    have HDL := Lib.hid hdl
    have HOK := Lib.hid hnet.okd
    clear hnet hdl hb4' hb4 HB3 HB2 HOUT HLO HOA HDM HD HLU HLT hmay
    have hz0 : w.heap.size < w1.heap.size := by omega
    go_loopw [11] (fun iv wr => ∃ (k : Nat) (W : Int → Int → Nat), k ≤ 60 ∧ k ≤ m ∧ iv = .int .i64 k ∧ IsNet wr (mb + 1) mb k ds W ∧ Below w1.heap.size w1 wr) (fun iv _ => 60 - (intOf iv).toNat)
    case atStart => exact ⟨0, _, by omega, by omega, rfl, HNET.out, HB4.out⟩
    case round =>
      obtain ⟨k, W, hk60, hkm, rfl, hnet, hb⟩ := hrel
      clear HNET HB4
      have HNET := Lib.hid hnet
      have HB := Lib.hid hb
      clear hnet hb
      obtain ⟨cb, hcb⟩ : ∃ cb : Bool, cb = decide (k < m ∧ k < 60) := ⟨_, rfl⟩
      have HCB := Lib.hid hcb
      clear hcb
      go_upto_region 7 with fail
      go_cut [42] from 35 to 61 (fun c wx => c = .bool cb ∧ wr = wx)
      case first =>
        by_cases hk1 : (k : Int) < (m : Int)
        · by_cases hk2 : (k : Int) < 60
          · go_wp2_with fail
            go_meet
            exact ⟨by rw [HCB.out, decide_eq_true]; omega, rfl⟩
          · go_wp2_with fail
            go_meet
            exact ⟨by rw [HCB.out, decide_eq_false]; omega, rfl⟩
        · go_wp2_with fail
          go_meet
          exact ⟨by rw [HCB.out, decide_eq_false]; omega, rfl⟩
      case rest =>
      obtain ⟨rfl, rfl⟩ := hcut
      by_cases hgo : k < m ∧ k < 60
      · obtain rfl : cb = true := by rw [HCB.out]; exact decide_eq_true hgo
        have hk1 : (k : Int) < (m : Int) := by omega
        have hk2 : (k : Int) < 60 := by omega
        have hks : k < S.length := by rw [← HM.out]; exact hgo.1
        obtain ⟨b, off, rfl, hbb, z0, z1, z2, z3⟩ := (HS.out.below (HB.out.mono (by omega))).st hks
        have hlv := (HWF.out _ (List.getElem_mem hks)).lv
        obtain ⟨y, hy⟩ : ∃ y, y = S[k] := ⟨_, rfl⟩
        rw [← hy] at z0 z1 z2 z3 hlv
        clear hy
        have hv := vote_net (HNET.out.below (w' := wr.drew) (Below.refl _ _).drew) (by unfold maxLen; omega) y.u y.d y.lv hlv
        have HV := Lib.hid hv
        have hlt := HNET.out.lt
        have hbr : b < wr.drew.heap.size := by show b < wr.heap.size; have := HB.out.size; omega
        clear hv
        go_wp2_with fail
        go_region_held3 (fun W => W.cell? ⟨b, off + k * 4 + 1, none⟩ = some (.int .i64 y.u) ∧ W.cell? ⟨b, off + k * 4 + 2, none⟩ = some (.int .i64 y.d) ∧ W.cell? ⟨b, off + k * 4 + 3, none⟩ = some (.int .u8 (y.lv : Int))) (first | exact ⟨z1, z2, z3⟩ | exact ⟨q1, q2, q3⟩) (first
          | (go_at_call 11; refine HV.out.mono ?_; rintro e w5 ⟨A5, c5, rfl, _, hnet5, hf5⟩
             have hk5 : w5.heap[b]? = wr.heap[b]? := hf5.block b hbr (by omega)
             have q1 := (World.cell?_of_block (a := ⟨b, off + k * 4 + 1, none⟩) hk5).trans z1
             have q2 := (World.cell?_of_block (a := ⟨b, off + k * 4 + 2, none⟩) hk5).trans z2
             have q3 := (World.cell?_of_block (a := ⟨b, off + k * 4 + 3, none⟩) hk5).trans z3
             have hb5 : Below w1.heap.size w1 w5 := HB.out.drew.trans (hf5.toBelow (show w1.heap.size ≤ wr.drew.heap.size from HB.out.size) (fun j hj hs => by omega))
             have HB5 := Lib.hid hb5
             have HNET5 := Lib.hid hnet5
             clear hb5 hnet5 hf5)
          | fail)
        go_wp2_with fail
        exact ⟨⟨k + 1, _, by omega, by omega, by go_num, HNET5.out, HB5.out⟩, by simp [intOf]; omega⟩
      · obtain rfl : cb = false := by rw [HCB.out]; exact decide_eq_false hgo
        clear hgo
        obtain ⟨w5, rfl⟩ : ∃ w5, w5 = wr := ⟨wr, rfl⟩
        obtain ⟨bx1, bx2⟩ := BOX.out _ HB.out
        obtain ⟨p, hp⟩ : ∃ p, p = W x.u x.d := ⟨_, rfl⟩
        have hp255 : p ≤ 255 := by rw [hp]; exact HNET.out.fit.le _ _
        have hwn := wants_net HNET.out x.u x.d HX.out.u HX.out.d
        rw [← hp] at hwn
        have HP := Lib.hid hp
        have HWN := Lib.hid hwn
        clear hp hwn
        have hln := fun w6 (hb : Below w5.heap.size w5 w6) (d : Nat) (hd : d < n) => level_nat (HNET.out.below hb) (d := d) (by rw [HDL.out]; exact hd)
        have HLN := Lib.hid hln
        clear hln
        obtain ⟨f, hf⟩ : ∃ f, f = lev ds W := ⟨_, rfl⟩
        rw [← hf] at HLN
        have HF := Lib.hid hf
        clear hf
        obtain ⟨i5, e5, z50, z51, z52⟩ := info_parts Try.info5
        go_wp2_with (go_at_call 12; refine HWN.out.mono ?_; rintro e w6 ⟨rfl, rfl⟩)
        go_loopw [13, 14] (fun sv iv wr => ∃ (k : Nat) (A : Option Addr) (c : Nat), k ≤ n ∧ iv = .int .i64 k ∧ sv = .slice A k c ∧ wr.ownsRow w5.heap.size 5 1 (.slice A k c) k (lvs f k) ∧ Below w5.heap.size w5 wr) (fun _ iv _ => n - (intOf iv).toNat)
        case atStart => exact ⟨0, none, 0, by omega, rfl, rfl, World.ownsRow_nil _ _ _ _, Below.refl _ _⟩
        case round =>
          obtain ⟨j, A, c, hj, rfl, rfl, hown, hb6⟩ := hrel
          have HOWN := Lib.hid hown
          have HB6 := Lib.hid hb6
          clear hown hb6
          by_cases hjn : j < n
          · have hji : (j : Int) < (n : Int) := by omega
            have hm1 : j + 1 ≤ maxLen := by unfold maxLen; omega
            have hm2 : (j + 1) * 1 ≤ 140737488355328 := by omega
            have hm3 : w5.heap.size ≤ wr.heap.size + 1 := by have := HB6.out.size; omega
            go_wp2_with (first
              | (go_at_call 13; refine (HLN.out wr HB6.out j hjn).mono ?_; rintro e w7 ⟨rfl, rfl⟩)
              | (at_builtin; refine wpList_append_seg _ rfl (.tmp 74) (.tmp 78) 37 rfl w5.heap.size 5 i5 _ 1 1 Try.underlying37 e5 z50 z51 z52 rfl (by decide) (.slice A j c) j (lvs f j) rfl (World.ownsRow.alloc HOWN.out _) (wr.heap.size + 1) (some ⟨wr.heap.size, 0, none⟩) 1 1 [.int .u8 (f j : Int)] rfl rfl (seg_new _ 5 #[.int .u8 (f j : Int)]) (by simp [Value.oneCell']) hm1 hm2 (by rw [World.size_alloc]; exact hm3) ?_
                 intro v4 w8 hown4 hg4 _
                 obtain ⟨A4, c4, rfl⟩ := own_shape hown4
                 rw [lvs_succ] at hown4
                 have hb8 : Below w5.heap.size w5 w8 := (HB6.out.alloc HB6.out.size _).grown hg4 (by rw [World.size_alloc]; exact hm3) (fun g hg => (HOWN.out.lt g hg).1)
                 have HOWN4 := Lib.hid hown4
                 have HB8 := Lib.hid hb8
                 clear hown4 hg4 hb8))
            exact ⟨⟨j + 1, A4, c4, by omega, by go_num, rfl, HOWN4.out, HB8.out⟩, by simp [intOf]; omega⟩
          · obtain rfl : j = n := by omega
            obtain ⟨w6, rfl⟩ : ∃ w6, w6 = wr := ⟨wr, rfl⟩
            have hb16 := HB.out.trans (HB6.out.mono HB.out.size)
            obtain ⟨by1, by2⟩ := BOX.out _ hb16
            obtain ⟨up, hup, hup1, hup2⟩ := up_law (more := more) hp255
            have hv := vote_net (HNET.out.below HB6.out) (by unfold maxLen; omega) x.u x.d up hup2
            have HV := Lib.hid hv
            have HUP := Lib.hid hup
            clear hv hup
            go_wp2_with (go_at_call 11; rw [HUP.out]; refine HV.out.mono ?_; rintro e w7 ⟨A7, c7, rfl, hown7, hnet7, hf7⟩
                         have HOWN7 := Lib.hid hown7
                         have HNET7 := Lib.hid hnet7
                         have HF7 := Lib.hid hf7
                         clear hown7 hnet7 hf7)
            have hwle : W x.u x.d ≤ up := by rw [← HP.out]; exact hup1
            have hrise := vote_rise HOK.out hwle
            have hcl := voteC_len ds W x.u x.d up
            have hge := fun i => vote_ge HOK.out hwle i
            have heq : voteE ds W x.u x.d up ≠ 0 → voteW ds W x.u x.d up = W := fun h => voteW_no h
            have hback := vote_back HNET.out.top x.u x.d up
            rw [← HP.out] at hback
            rw [← HF.out] at hge
            generalize voteC ds W x.u x.d up = chs at hrise hcl HOWN7 ⊢
            generalize voteE ds W x.u x.d up = ef at heq ⊢
            generalize voteW ds W x.u x.d up = W1 at hge heq hback HNET7
            obtain ⟨nc, hnc⟩ : ∃ nc, nc = chs.length := ⟨_, rfl⟩
            have hown7 := HOWN7.out
            rw [← hnc] at hown7 ⊢
            have hs7 := own_seg hown7
            have hncb : nc ≤ 512 := by rw [hnc]; have := HOK.out.len; omega
            have hlt7 := HNET.out.lt
            have hs50 := HB.out.size
            have hwas : w7.ownsRow w5.heap.size 5 1 (.slice A j c) j (lvs f j) := own_keep HOWN.out fun g hg => HF7.out.block g (HOWN.out.lt g hg).2 (by have := (HOWN.out.lt g hg).1; omega)
            have hws7 := own_seg hwas
            have hb17 : Below w1.heap.size w1 w7 := hb16.trans (HF7.out.toBelow hb16.size (fun i hi hs => by omega))
            have HRISE := Lib.hid hrise
            have HGE := Lib.hid hge
            have HEQ := Lib.hid heq
            have HBACK := Lib.hid hback
            have HNC := Lib.hid hnc
            have HS7 := Lib.hid hs7
            have HWS7 := Lib.hid hws7
            have HWAS := Lib.hid hwas
            have HB17 := Lib.hid hb17
            have HB16 := Lib.hid hb16
            clear hrise hge heq hback hcl hnc hs7 hws7 hwas hown7 hb17 hb16 hwle HOWN7 HOWN HUP HV HWN HLN HF7 HNET HB HB6
            go_loopw [18] (fun iv wr => ∃ i : Nat, i ≤ nc ∧ iv = .int .i64 i ∧ Below w7.heap.size w7 wr) (fun iv _ => nc - (intOf iv).toNat)
            case atStart => exact ⟨0, by omega, rfl, Below.refl _ _⟩
            case round =>
              obtain ⟨i, hi, rfl, hb8⟩ := hrel
              have HB8 := Lib.hid hb8
              clear hb8
              by_cases hin : i < nc
              · have hii : (i : Int) < (nc : Int) := by omega
                have hic : i < chs.length := by rw [← HNC.out]; exact hin
                obtain ⟨b, off, rfl, hbb, z0, z1, z2⟩ := seg_ch (HS7.out.below HB8.out) hic
                have hr := HRISE.out _ (List.getElem_mem hic)
                generalize chs[i].2.1 = fr at z1 hr
                generalize chs[i].2.2 = tt at z2 hr
                have hri : ¬ (tt : Int) ≤ (fr : Int) := by omega
                go_wp2_with fail
                go_quiet (fail)
                go_wp2_with fail
                exact ⟨⟨i + 1, by omega, by go_num, below_drewN HB8.out _⟩, by simp [intOf]; omega⟩
              · obtain rfl : i = nc := by omega
                have hln8 := fun w9 (hb : Below w7.heap.size w7 w9) (d : Nat) (hd : d < j) => level_nat (HNET7.out.below hb) (d := d) (by rw [HDL.out]; exact hd)
                have HLN8 := Lib.hid hln8
                clear hln8
                go_wp2_with fail
                go_loopw [19] (fun iv wr => ∃ d : Nat, d ≤ j ∧ iv = .int .i64 d ∧ Below w7.heap.size w7 wr) (fun iv _ => j - (intOf iv).toNat)
                case atStart => exact ⟨0, by omega, rfl, HB8.out⟩
                case round =>
                  obtain ⟨d, hd, rfl, hb9⟩ := hrel
                  clear HB8
                  have HB9 := Lib.hid hb9
                  clear hb9
                  by_cases hdn : d < j
                  · have hdi : (d : Int) < (j : Int) := by omega
                    obtain ⟨b, off, rfl, hbb, z0⟩ := seg_lv (HWS7.out.below HB9.out) hdn
                    have hge := HGE.out d
                    have hl := fun w9 hb => HLN8.out w9 hb d hdn
                    have he : ef ≠ 0 → lev ds W1 d = f d := fun h => by rw [HEQ.out h, HF.out]
                    generalize f d = f0 at z0 hge he
                    generalize lev ds W1 d = g0 at hl hge he
                    have HL := Lib.hid hl
                    clear hl
                    have hlt : decide ((g0 : Int) < (f0 : Int)) = false := decide_eq_false (by omega)
                    have hlt2 : decide (g0 < f0) = false := decide_eq_false (by omega)
                    by_cases hef : ef = 0
                    · subst hef
                      clear he
                      go_wp2_with fail
                      go_quiet ((go_at_call 13; exact Calls.quiet_of_same (turn_same (HL.out _ (below_drewN HB9.out _)))))
                      go_wp2_with fail
                      exact ⟨⟨d + 1, by omega, by go_num, below_drewN HB9.out _⟩, by simp [intOf]; omega⟩
                    · have hg0 := he hef
                      subst hg0
                      have hef2 : decide (ef = 0) = false := decide_eq_false hef
                      clear he
                      go_wp2_with fail
                      go_quiet ((go_at_call 13; exact Calls.quiet_of_same (turn_same (HL.out _ (below_drewN HB9.out _)))))
                      go_wp2_with fail
                      exact ⟨⟨d + 1, by omega, by go_num, below_drewN HB9.out _⟩, by simp [intOf]; omega⟩
                  · obtain rfl : d = j := by omega
                    obtain ⟨w8, rfl⟩ : ∃ w8, w8 = wr := ⟨wr, rfl⟩
                    have hb18 := HB17.out.trans (HB9.out.mono HB17.out.size)
                    obtain ⟨bz1, bz2⟩ := BOX.out _ hb18
                    have hv2 := vote_net (HNET7.out.below HB9.out) (by unfold maxLen; omega) x.u x.d p hp255
                    obtain ⟨hb1, hb2⟩ := HBACK.out
                    rw [hb1] at hv2
                    generalize voteE ds W1 x.u x.d p = eg at hv2 hb2
                    have hown8 := own_keep (w' := w8) HWAS.out fun g hg => HB9.out.block g (HWAS.out.lt g hg).2
                    have HV2 := Lib.hid hv2
                    have HEG := Lib.hid hb2
                    have HOWN8 := Lib.hid hown8
                    have HB18 := Lib.hid hb18
                    clear hb1 hb2 hv2 hown8 hb18 HBACK HWAS HLN8 HS7 HNC hncb hi hin
                    go_wp2_with (go_at_call 11; refine HV2.out.mono ?_; rintro e w9 ⟨A9, c9, rfl, _, hnet9, hf9⟩
                                 have hown9 := own_keep (w' := w9) HOWN8.out fun g hg => hf9.block g (HOWN8.out.lt g hg).2 (by have := (HOWN8.out.lt g hg).1; omega)
                                 have hs9 := own_seg hown9
                                 have hln9 := fun w10 (hb : Below w9.heap.size w9 w10) (i : Nat) (hd : i < d) => level_nat (hnet9.below hb) (d := i) (by rw [HDL.out]; exact hd)
                                 rw [← HF.out] at hln9
                                 have hb19 : Below w1.heap.size w1 w9 := HB18.out.trans (hf9.toBelow HB18.out.size (fun i hi hs => by omega))
                                 have HS9 := Lib.hid hs9
                                 have HLN9 := Lib.hid hln9
                                 have HB19 := Lib.hid hb19
                                 clear hs9 hln9 hown9 hnet9 hf9 hb19)
                    go_loopw [22] (fun iv wr => ∃ i : Nat, i ≤ d ∧ iv = .int .i64 i ∧ Below w9.heap.size w9 wr) (fun iv _ => d - (intOf iv).toNat)
                    case atStart => exact ⟨0, by omega, rfl, Below.refl _ _⟩
                    case round =>
                      obtain ⟨i, hi, rfl, hb10⟩ := hrel
                      have HB10 := Lib.hid hb10
                      clear hb10
                      by_cases hid : i < d
                      · have hii : (i : Int) < (d : Int) := by omega
                        obtain ⟨b, off, rfl, hbb, z0⟩ := seg_lv (HS9.out.below HB10.out) hid
                        have hl := fun w10 hb => HLN9.out w10 hb i hid
                        generalize f i = f0 at z0 hl
                        have HL := Lib.hid hl
                        clear hl
                        go_wp2_with fail
                        go_quiet ((go_at_call 13; exact Calls.quiet_of_same (turn_same (HL.out _ (below_drewN HB10.out _)))))
                        go_wp2_with fail
                        exact ⟨⟨i + 1, by omega, by go_num, below_drewN HB10.out _⟩, by simp [intOf]; omega⟩
                      · obtain rfl : i = d := by omega
                        have hb110 := HB19.out.trans (HB10.out.mono HB19.out.size)
                        obtain ⟨ba1, ba2⟩ := BOX.out _ hb110
                        have heg := HEG.out
                        rw [HDL.out] at heg
                        unfold inR at heg
                        have HB110 := Lib.hid hb110
                        generalize x.u = xu at ba1 heg
                        generalize x.d = xd at ba2 heg
                        by_cases h1 : 0 ≤ xu
                        · by_cases h2 : xu < 1024
                          · by_cases h3 : 0 ≤ xd
                            · by_cases h4 : xd < (i : Int)
                              · obtain rfl := heg.2 ⟨h1, h2, h3, h4⟩
                                clear heg
                                go_wp2_with fail
                                go_ret
                                exact ⟨by rfl, LOW.out _ HB110.out⟩
                              · have hne : eg ≠ 0 := fun h => h4 (heg.1 h).2.2.2
                                clear heg
                                go_wp2_with fail
                                go_ret
                                exact ⟨ret_bool (by simp [hne]), LOW.out _ HB110.out⟩
                            · have hne : eg ≠ 0 := fun h => h3 (heg.1 h).2.2.1
                              clear heg
                              go_wp2_with fail
                              go_ret
                              exact ⟨ret_bool (by simp [hne]), LOW.out _ HB110.out⟩
                          · have hne : eg ≠ 0 := fun h => h2 (heg.1 h).2.1
                            clear heg
                            go_wp2_with fail
                            go_ret
                            exact ⟨ret_bool (by simp [hne]), LOW.out _ HB110.out⟩
                        · have hne : eg ≠ 0 := fun h => h1 (heg.1 h).1
                          clear heg
                          go_wp2_with fail
                          go_ret
                          exact ⟨ret_bool (by simp [hne]), LOW.out _ HB110.out⟩
end Go.Proofs.Ytghcemfffhjmjaa
