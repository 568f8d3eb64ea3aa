/- The walk of RangesSteps: the call returns true. -/
import Derived.Test.YtndocngkganpdaaOwnsC
set_option linter.unusedVariables false
namespace Go.Proofs.Ytndocngkganpdaa
open Go.RowKit
theorem wrong_of0 {l : List Nd} (ht : treeB l = true) {k : Nat} (hk : k < l.length) : wrongF l k 0 = 0 := by
  unfold wrongF
  rw [if_pos ht, if_neg (by omega)]
theorem wrong_of1 {l : List Nd} (ht : treeB l = true) {k : Nat} (h0 : 0 < k) (hk : k < l.length) : wrongF l k 1 = 0 := by
  unfold wrongF
  rw [if_pos ht, if_neg (by omega)]
/-- Out is up, and out of the parent. -/
theorem out_up {l : List Nd} (ht : treeB l = true) {i : Nat} (h0 : 0 < i) (hi : i < l.length) (b s : Nat) :
    ((upE l i b s).2 ≠ 0 → outE l i b s = (0, (upE l i b s).2)) ∧ ((upE l i b s).2 = 0 → outE l (parN l i) (upE l i b s).1 s = outE l i b s) := by
  have hu := tree_ups ht
  have hp := ups_par hu h0 hi
  have e1 : upE l i b s = if fitsB b s = true then upF l i b s else (0, 1) := by
    unfold upE; rw [wrong_of1 ht h0 hi]; exact if_neg (fun h => h rfl)
  have e2 : outE l i b s = if fitsB b s = true then outF l i b s else (0, 1) := by
    unfold outE; rw [wrong_of0 ht hi]; exact if_neg (fun h => h rfl)
  rw [e1, e2]
  by_cases hf : fitsB b s = true
  · rw [if_pos hf, if_pos hf, out_step hu h0 hi]
    refine ⟨fun h => by rw [if_pos h], fun h => ?_⟩
    rw [if_neg (fun hh => hh h)]
    have hf2 : fitsB (upF l i b s).1 s = true := up_fits (maps_goodM l i) hf (pair_snd h)
    unfold outE
    rw [wrong_of0 ht (show parN l i < l.length by omega), if_neg (fun h => h rfl), if_pos hf2]
    rfl
  · rw [if_neg hf, if_neg hf]
    exact ⟨fun _ => rfl, fun h => by cases h⟩
theorem upE_lt (l : List Nd) (i : Int) {b s : Nat} (hb : b < 18446744073709551616) : (upE l i b s).1 < 18446744073709551616 := by
  unfold upE
  split
  · show (0 : Nat) < _; omega
  · split
    · exact up_lt (maps_goodM l _) hb
    · show (0 : Nat) < _; omega
set_option maxRecDepth 100000 in
set_option maxHeartbeats 16000000 in
theorem step_walk (A : Option Addr) (cap n : Nat) (l : List Nm) (hn : n = l.length) (hsz : Sized l) (hrm : Roomy l) (b s q : Nat) (hb64 : b < 18446744073709551616) (hs64 : s < 18446744073709551616) (hq64 : q < 18446744073709551616) (w : World) (B : Nat) (hB : B ≤ w.heap.size) (hs : Nodes w B A l) :
    Calls Try.prog 4 #[.slice A n cap, .agg #[.int .u64 (b : Nat), .int .u64 (s : Nat)], .int .u64 (q : Nat)] w fun e w' => e = .returned (.bool true) ∧ Below w.heap.size w w' := by
  obtain ⟨w0, hw0⟩ : ∃ w0, w0 = w.alloc (.cells #[.int .u64 (b : Int), .int .u64 (s : Int)] 37) := ⟨_, rfl⟩
  have hb0 : Below w.heap.size w w0 := by rw [hw0]; exact (Below.refl _ w).alloc (Nat.le_refl _) _
  have r0 : RowAt w0 w.heap.size 37 [.int .u64 (b : Int), .int .u64 (s : Int)] := by rw [hw0]; exact rowAt_box _ _ _
  have HB0 := Lib.hid hb0
  have R0 := Lib.hid r0
  have hlt0 : w.heap.size < w0.heap.size := r0.lt
  have hB0 : B ≤ w0.heap.size := Nat.le_trans hB hb0.size
  have hs0 := hs.below (hb0.mono hB)
  have TR := tree3_any A cap n l hn hsz w0 B hB0 hs0
  cases ht : treeB (dat l) with
  | false =>
    have OW := fun W (hW : Below w.heap.size w W) => powner_any A cap n l hn hsz q hq64 W B (Nat.le_trans hB hW.size) (hs.below (hW.mono hB))
    have ho : ownE (dat l) q = (0, 40) := by unfold ownE; rw [ht]; rfl
    rw [ho] at OW
    rw [ht] at TR
    have HTR := Lib.hid TR
    have HOW := Lib.hid OW
    clear TR OW hn hsz hrm hs hs0 ht hb0 r0 ho
    subst hw0
    go_enter Try.func4, Try.ntmps4
    go_wp2_with (first
      | (go_at_call 7; refine HTR.out.mono ?_; rintro e w3 ⟨rfl, hb3⟩
         have HB3 := Lib.hid (HB0.out.trans (hb3.mono (Nat.le_of_lt hlt0)))
         clear hb3)
      | (go_at_call 13; refine (HOW.out _ HB3.out).mono ?_; rintro e w1 ⟨rfl, hb1⟩
         have HB1 := Lib.hid (below_next HB3.out hb1)
         clear hb1)
      | (go_at_call 9; refine (awake_any _).mono ?_; rintro e w2 ⟨rfl, hb2⟩
         have HB2 := Lib.hid (below_next HB1.out hb2)
         clear hb2)
      | fail)
    go_ret
    exact ⟨rfl, HB2.out⟩
  | true =>
    have hlen := tree_len ht
    have hpos := tree_pos ht
    rw [dat_len, ← hn] at hlen hpos
    rw [ht] at TR
    have HTR := Lib.hid TR
    have LE := fun W (hW : Below w.heap.size w W) => lent_any A cap n l hn hsz hrm W B (Nat.le_trans hB hW.size) (hs.below (hW.mono hB))
    have HLE := Lib.hid LE
    have HS0 := Lib.hid hs
    have HN := Lib.hid hn
    have HT := Lib.hid ht
    have HSZ := Lib.hid hsz
    clear TR LE hs hs0 hb0 r0 hn ht hsz hrm
    subst hw0
    go_enter Try.func4, Try.ntmps4
    go_wp2_with (first
      | (go_at_call 7; refine HTR.out.mono ?_; rintro e w1 ⟨rfl, hb1⟩
         have HB1 := Lib.hid (HB0.out.trans (hb1.mono (Nat.le_of_lt hlt0)))
         have R1 := Lib.hid (R0.out.keep (hb1.block _ hlt0))
         clear hb1)
      | (go_at_call 10; refine (HLE.out _ HB1.out).mono ?_; rintro e w2 ⟨A2, c2, L, rfl, hdL, hle, hb2⟩
         have HB2 := Lib.hid (below_next HB1.out hb2)
         have r2 := R1.out.keep (hb2.block _ R1.out.lt)
         have HDL := Lib.hid hdL
         have HLEN := Lib.hid hle
         have d0 := r2.cell (k := 0) (by simp)
         have d1 := r2.cell (k := 1) (by simp)
         simp only [List.getElem?_cons_zero, List.getElem?_cons_succ] at d0 d1
         clear hb2 hdL hle r2)
      | fail)
    clear d0 d1
    have hln : n = L.length := HLEN.out.len
    have hszL := sized_dat HDL.out HSZ.out
    obtain ⟨D, hD⟩ : ∃ D, D = dat l := ⟨_, rfl⟩
    have hDL : dat L = D := by rw [hD]; exact HDL.out
    have htD : treeB D = true := by rw [hD]; exact HT.out
    have hDn : D.length = n := by rw [← hDL, dat_len, hln]
    have OU : ∀ (i b s : Nat), b < 18446744073709551616 → s < 18446744073709551616 → ∀ W, Below w2.heap.size w2 W → Calls Try.prog 8 #[.slice A2 n c2, .int .i64 (i : Nat), .agg #[.int .u64 (b : Nat), .int .u64 (s : Nat)]] W fun e w' => e = .returned (.tuple #[.int .u64 ((outE D i b s).1 : Nat), .int .i64 (outE D i b s).2]) ∧ Below W.heap.size W w' := fun i b s hb hs W hW => by
      have := pout_any A2 c2 n L hln hszL i b s hb hs W w2.heap.size hW.size (HLEN.out.nodes.below hW)
      rw [hDL] at this; exact this
    have UP : ∀ (i b s : Nat), b < 18446744073709551616 → s < 18446744073709551616 → ∀ W, Below w2.heap.size w2 W → Calls Try.prog 14 #[.slice A2 n c2, .int .i64 (i : Nat), .agg #[.int .u64 (b : Nat), .int .u64 (s : Nat)]] W fun e w' => e = .returned (.tuple #[.int .u64 ((upE D i b s).1 : Nat), .int .i64 (upE D i b s).2]) ∧ Below W.heap.size W w' := fun i b s hb hs W hW => by
      have := pup_any A2 c2 n L hln hszL i b s hb hs W w2.heap.size hW.size (HLEN.out.nodes.below hW)
      rw [hDL] at this; exact this
    have WN : ∀ (i : Nat), ∀ W, Below w2.heap.size w2 W → Calls Try.prog 15 #[.slice A2 n c2, .int .i64 (i : Nat)] W fun e w' => WinR 31 (winE D i) W.heap.size e w' ∧ Below W.heap.size W w' := fun i W hW => by
      have := pwindows_any A2 c2 n L hln hszL i W w2.heap.size hW.size (HLEN.out.nodes.below hW)
      rw [hDL] at this; exact this
    have OW : ∀ (a : Nat), a < 18446744073709551616 → ∀ W, Below w2.heap.size w2 W → Calls Try.prog 13 #[.slice A2 n c2, .int .u64 (a : Nat)] W fun e w' => e = .returned (.tuple #[.int .i64 ((ownE D a).1 : Nat), .int .i64 (ownE D a).2]) ∧ Below W.heap.size W w' := fun a ha W hW => by
      have := powner_any A2 c2 n L hln hszL a ha W w2.heap.size hW.size (HLEN.out.nodes.below hW)
      rw [hDL] at this; exact this
    have OS : ∀ (o a z : Nat), a < 18446744073709551616 → z < 18446744073709551616 → ∀ W, Below w2.heap.size w2 W → Calls Try.prog 16 #[.slice A2 n c2, .int .i64 (o : Nat), .int .u64 (a : Nat), .int .u64 (z : Nat)] W fun e w' => e = .returned (.bool (ownsB D o a z)) ∧ Below W.heap.size W w' := fun o a z ha hz W hW => by
      have := owns_any A2 c2 n L hln hszL o a z ha hz W w2.heap.size hW.size (HLEN.out.nodes.below hW)
      rw [hDL] at this; exact this
    have HOU := Lib.hid OU
    have HUP := Lib.hid UP
    have HWN := Lib.hid WN
    have HOW := Lib.hid OW
    have HOS := Lib.hid OS
    have HTD := Lib.hid htD
    have HDN := Lib.hid hDn
    have HD := Lib.hid hD
    have hsz2 := HB2.out.size
    have RX := Lib.hid (rowAt_box w2 31 [.int .u64 (b : Int), .int .u64 (s : Int)])
    have BX := Lib.hid ((Below.refl w2.heap.size w2).alloc (Nat.le_refl _) (.cells #[.int .u64 (b : Int), .int .u64 (s : Int)] 31))
    clear OU UP WN OW OS hD hDL htD hDn hln hszL HTR HLE HB0 R0 HB1 R1 HT HSZ HDL HLEN hlt0
    go_loopw [11] (fun iv wx => ∃ i : Nat, 1 ≤ i ∧ i ≤ n ∧ iv = .int .i64 i ∧ RowAt wx w2.heap.size 31 [.int .u64 (b : Int), .int .u64 (s : Int)] ∧ Below w2.heap.size w2 wx) (fun iv _ => n - (intOf iv).toNat)
    case atStart => exact ⟨1, Nat.le_refl _, by omega, rfl, RX.out, BX.out⟩
    case round =>
      clear RX BX
      obtain ⟨i, hi1, hin, rfl, hro, hbb⟩ := hrel
      have RO := Lib.hid hro
      have HBB := Lib.hid hbb
      by_cases hgo : i < n ∧ i < 20
      case neg =>
        have hd : (¬ (i : Int) < (n : Int)) ∨ ((i : Int) < (n : Int) ∧ ¬ (i : Int) < 20) := by omega
        clear hgo hro hbb
        rcases hd with hd | ⟨hd, hd2⟩
        all_goals
          go_wp2_with (first
            | (go_at_call 9; refine (awake_any _).mono ?_; rintro e9 w9 ⟨rfl, hb9⟩
               have HB9 := Lib.hid (below_next HBB.out hb9)
               clear hb9)
            | fail)
          go_ret
          exact ⟨rfl, HB2.out.trans (HB9.out.mono hsz2)⟩
      obtain ⟨hilt, hi20⟩ := hgo
      have hii : (i : Int) < (n : Int) := by omega
      have hi2 : (i : Int) < 20 := by omega
      have c0 := hro.cell (k := 0) (by simp)
      have c1 := hro.cell (k := 1) (by simp)
      simp only [List.getElem?_cons_zero, List.getElem?_cons_succ] at c0 c1
      have hlt2 : w2.heap.size < wr.heap.size := hro.lt
      obtain ⟨hou1, hou2⟩ := out_up HTD.out (show 0 < i by omega) (by rw [HDN.out]; exact hilt) b s
      have hul := upE_lt D i (b := b) (s := s) hb64
      have O1 := HOU.out i b s hb64 hs64 wr hbb
      have U1 := HUP.out i b s hb64 hs64
      generalize outE D i b s = OO at O1 hou1 hou2
      generalize upE D i b s = UU at U1 hou1 hou2 hul
      obtain ⟨oa, oe⟩ := OO
      obtain ⟨ub, ue⟩ := UU
      have hul : ub < 18446744073709551616 := hul
      have HO1 := Lib.hid O1
      have HU1 := Lib.hid U1
      have HOU1 := Lib.hid hou1
      have HOU2 := Lib.hid hou2
      clear O1 U1 hou1 hou2 hro hbb
      have hil : i < l.length := by rw [← HN.out]; exact hilt
      obtain ⟨b9, off, eA, hbB, x0, _⟩ := (HS0.out.below ((HB2.out.trans (HBB.out.mono hsz2)).mono hB)).at_ hil
      have hup := ups_par (tree_ups HTD.out) (show 0 < i by omega) (by rw [HDN.out]; exact hilt)
      have hpj : l[i].d.p = (parN D i : Nat) := by rw [← par_get l hil, ← HD.out]; exact hup.2
      rw [hpj] at x0
      have hb9 : b9 < wr.heap.size := by omega
      obtain ⟨p, hp⟩ : ∃ p, p = parN D i := ⟨_, rfl⟩
      rw [← hp] at x0 HOU2
      clear hpj hup hp
      subst eA
      go_upto_region 11 with (first
        | (go_at_call 8; refine HO1.out.mono ?_; rintro e9 w4 ⟨rfl, hb4⟩
           have HB4 := Lib.hid (below_next HBB.out hb4)
           have r4 := RO.out.keep (hb4.block _ hlt2)
           have k0 := r4.cell (k := 0) (by simp)
           have k1 := r4.cell (k := 1) (by simp)
           simp only [List.getElem?_cons_zero, List.getElem?_cons_succ] at k0 k1
           have x4 : w4.cell? ⟨b9, off + i * 3, none⟩ = some (.int .i64 (p : Int)) := (hb4.cell (p := ⟨b9, off + i * 3, none⟩) hb9).trans x0
           have R4 := Lib.hid r4
           have hz4 := hb4.size
           clear hb4 r4)
        | (go_at_call 14; refine (HU1.out _ HB4.out).mono ?_; rintro e9 w5 ⟨rfl, hb5⟩
           have HB5 := Lib.hid (below_next HB4.out hb5)
           have r5 := R4.out.keep (hb5.block _ R4.out.lt)
           have m0 := r5.cell (k := 0) (by simp)
           have m1 := r5.cell (k := 1) (by simp)
           simp only [List.getElem?_cons_zero, List.getElem?_cons_succ] at m0 m1
           have x5 : w5.cell? ⟨b9, off + i * 3, none⟩ = some (.int .i64 (p : Int)) := (hb5.cell (p := ⟨b9, off + i * 3, none⟩) (Nat.lt_of_lt_of_le hb9 hz4)).trans x4
           have R5 := Lib.hid r5
           have hz5 := hb5.size
           clear hb5 r5)
        | fail)
      clear c0 c1 x0 k0 k1 x4 m0
      go_cut [79] (fun tv wx => tv = .bool false ∧ w5 = wx)
      case first =>
        by_cases hue : ue = 0
        · subst hue
          go_wp2_with fail
          go_meet
          exact ⟨rfl, rfl⟩
        · have e5 : (ue == 0) = false := by rw [beq_eq_false_iff_ne]; exact hue
          have h9 := HOU1.out hue
          injection h9 with h91 h92
          subst h91 h92
          go_wp2_with fail
          go_meet
          exact ⟨rfl, rfl⟩
      case rest =>
        obtain ⟨rfl, rfl⟩ := hcut
        go_upto_if 81 with (fail)
        go_cut [11] (fun iv wx => iv = .int .i64 (i : Nat) ∧ RowAt wx w2.heap.size 31 [.int .u64 (b : Int), .int .u64 (s : Int)] ∧ Below w2.heap.size w2 wx)
        case first =>
          by_cases hue : ue = 0
          · subst hue
            have OP := HOU.out p ub s hul hs64
            have h9 := HOU2.out rfl
            have h9 : outE D p ub s = (oa, oe) := h9
            rw [h9] at OP
            have HOP := Lib.hid OP
            clear OP h9
            go_wp2_with fail
            refine wp_region_noPanic ?_
            refine wp_region_held_drew (S := fun W => W.cell? ⟨b9, off + i * 3, none⟩ = some (.int .i64 (p : Int)) ∧ W.cell? ⟨w2.heap.size, 1, none⟩ = some (.int .u64 (s : Int))) (by kernel_rfl) ⟨x5, m1⟩ (fun hHeld => ?_)
            (refine held_take (i := 0) rfl rfl (by kernel_rfl) (by kernel_rfl) (by kernel_rfl) (fun _ _ _ h => h) (by rfl) (by intro w hSw; obtain ⟨hS1, hS2⟩ := hSw; go_simp; first | done | with_reducible rfl) (by assumption) ?_; try simp only [Act.put, List.setIfInBounds_toArray, List.set_cons_zero, List.set_cons_succ])
            (refine held_take (i := 1) rfl rfl (by kernel_rfl) (by kernel_rfl) (by kernel_rfl) (fun _ _ _ h => h) (by rfl) (by intro w hSw; obtain ⟨hS1, hS2⟩ := hSw; go_simp; first | done | with_reducible rfl) (by assumption) ?_; try simp only [Act.put, List.setIfInBounds_toArray, List.set_cons_zero, List.set_cons_succ])
            (refine held_take (i := 2) rfl rfl (by kernel_rfl) (by kernel_rfl) (by kernel_rfl) (fun _ _ _ h => h) (by rfl) (by intro w hSw; obtain ⟨hS1, hS2⟩ := hSw; go_simp; first | done | with_reducible rfl) (by assumption) ?_; try simp only [Act.put, List.setIfInBounds_toArray, List.set_cons_zero, List.set_cons_succ])
            (refine held_take (i := 3) rfl rfl (by kernel_rfl) (by kernel_rfl) (by kernel_rfl) (fun _ _ _ h => h) (by rfl) (by intro w hSw; obtain ⟨hS1, hS2⟩ := hSw; go_simp; first | done | with_reducible rfl) (by assumption) ?_; try simp only [Act.put, List.setIfInBounds_toArray, List.set_cons_zero, List.set_cons_succ])
            (refine held_take (i := 4) rfl rfl (by kernel_rfl) (by kernel_rfl) (by kernel_rfl) (fun _ _ _ h => h) (by rfl) (by intro w hSw; obtain ⟨hS1, hS2⟩ := hSw; go_simp; first | done | with_reducible rfl) (by assumption) ?_; try simp only [Act.put, List.setIfInBounds_toArray, List.set_cons_zero, List.set_cons_succ])
            (refine held_take (i := 5) rfl rfl (by kernel_rfl) (by kernel_rfl) (by kernel_rfl) (fun _ _ _ h => h) (by rfl) (by intro w hSw; obtain ⟨hS1, hS2⟩ := hSw; go_simp; first | done | with_reducible rfl) (by assumption) ?_; try simp only [Act.put, List.setIfInBounds_toArray, List.set_cons_zero, List.set_cons_succ])
            (refine held_take (i := 6) rfl rfl (by kernel_rfl) (by kernel_rfl) (by kernel_rfl) (fun _ _ _ h => h) (by rfl) (by intro w hSw; obtain ⟨hS1, hS2⟩ := hSw; go_simp; first | done | with_reducible rfl) (by assumption) ?_; try simp only [Act.put, List.setIfInBounds_toArray, List.set_cons_zero, List.set_cons_succ])
            (refine held_take (i := 7) rfl rfl (by kernel_rfl) (by kernel_rfl) (by kernel_rfl) (fun _ _ _ h => h) (by rfl) (by intro w hSw; obtain ⟨hS1, hS2⟩ := hSw; go_simp; first | done | with_reducible rfl) (by assumption) ?_; try simp only [Act.put, List.setIfInBounds_toArray, List.set_cons_zero, List.set_cons_succ])
            (refine held_take (i := 8) rfl rfl (by kernel_rfl) (by kernel_rfl) (by kernel_rfl) (fun _ _ _ h => h) (by rfl) (by intro w hSw; obtain ⟨hS1, hS2⟩ := hSw; go_simp; first | done | with_reducible rfl) (by assumption) ?_; try simp only [Act.put, List.setIfInBounds_toArray, List.set_cons_zero, List.set_cons_succ])
            (refine held_take (i := 9) rfl rfl (by kernel_rfl) (by kernel_rfl) (by kernel_rfl) (fun _ _ _ h => h) (by rfl) (by intro w hSw; obtain ⟨hS1, hS2⟩ := hSw; go_simp; first | done | with_reducible rfl) (by assumption) ?_; try simp only [Act.put, List.setIfInBounds_toArray, List.set_cons_zero, List.set_cons_succ])
            refine wpAnyH_ready (rs := [10]) (by kernel_rfl) (by simp) ?_
            refine AllReadyH.cons rfl (fun K hK => ?_) AllReadyH.nil
            go_simp
            go_at_call 8
            refine (HOP.out _ HB5.out.drew).mono ?_
            rintro e9 w6 ⟨rfl, hb6⟩
            have hb6' : Below w5.heap.size w5 w6 := ⟨hb6.os, hb6.tape, hb6.output, hb6.size, hb6.block⟩
            have HB6 := Lib.hid (below_next HB5.out hb6')
            have R6 := Lib.hid (R5.out.keep (hb6'.block _ R5.out.lt))
            have x6 : w6.cell? ⟨b9, off + i * 3, none⟩ = some (.int .i64 (p : Int)) := (hb6'.cell (p := ⟨b9, off + i * 3, none⟩) (Nat.lt_of_lt_of_le hb9 (Nat.le_trans hz4 hz5))).trans x5
            have n1 : w6.cell? ⟨w2.heap.size, 1, none⟩ = some (.int .u64 (s : Int)) := (hb6'.cell (p := ⟨w2.heap.size, 1, none⟩) R5.out.lt).trans m1
            refine hK.out _ _ ⟨x6, n1⟩ (fun hHeld => ?_)
            clear hK K hb6 hb6'
            try simp only [Act.put, List.setIfInBounds_toArray, List.set_cons_zero, List.set_cons_succ]
            (refine held_take (i := 11) rfl rfl (by kernel_rfl) (by kernel_rfl) (by kernel_rfl) (fun _ _ _ h => h) (by rfl) (by intro w hSw; obtain ⟨hS1, hS2⟩ := hSw; go_simp; first | done | with_reducible rfl) (by assumption) ?_; try simp only [Act.put, List.setIfInBounds_toArray, List.set_cons_zero, List.set_cons_succ])
            (refine held_take (i := 12) rfl rfl (by kernel_rfl) (by kernel_rfl) (by kernel_rfl) (fun _ _ _ h => h) (by rfl) (by intro w hSw; obtain ⟨hS1, hS2⟩ := hSw; go_simp; first | done | with_reducible rfl) (by assumption) ?_; try simp only [Act.put, List.setIfInBounds_toArray, List.set_cons_zero, List.set_cons_succ])
            (refine held_take (i := 13) rfl rfl (by kernel_rfl) (by kernel_rfl) (by kernel_rfl) (fun _ _ _ h => h) (by rfl) (by intro w hSw; obtain ⟨hS1, hS2⟩ := hSw; go_simp; first | done | with_reducible rfl) (by assumption) ?_; try simp only [Act.put, List.setIfInBounds_toArray, List.set_cons_zero, List.set_cons_succ])
            (refine held_take (i := 14) rfl rfl (by kernel_rfl) (by kernel_rfl) (by kernel_rfl) (fun _ _ _ h => h) (by rfl) (by intro w hSw; obtain ⟨hS1, hS2⟩ := hSw; go_simp; first | done | with_reducible rfl) (by assumption) ?_; try simp only [Act.put, List.setIfInBounds_toArray, List.set_cons_zero, List.set_cons_succ])
            (refine held_take (i := 15) rfl rfl (by kernel_rfl) (by kernel_rfl) (by kernel_rfl) (fun _ _ _ h => h) (by rfl) (by intro w hSw; obtain ⟨hS1, hS2⟩ := hSw; go_simp; first | done | with_reducible rfl) (by assumption) ?_; try simp only [Act.put, List.setIfInBounds_toArray, List.set_cons_zero, List.set_cons_succ])
            refine wpAnyH_done (by kernel_rfl) ?_ _
            refine NoPanic.normal ?_
            go_wp2_with fail
            go_meet
            exact ⟨rfl, R6.out, HB6.out⟩
          · have e5 : (ue == 0) = false := by rw [beq_eq_false_iff_ne]; exact hue
            go_wp2_with fail
            go_meet
            exact ⟨rfl, R5.out, HB5.out⟩
        case rest =>
          obtain ⟨rfl, hr7, hb7⟩ := hcut
          have R7 := Lib.hid hr7
          have HB7 := Lib.hid hb7
          clear x5 m1 R5 HB5 R4 HB4 hz4 hz5 hb9 HOU1 HOU2 HO1 HU1
          have W1 := HWN.out i wc hb7
          have hw1 : winE D i = windowsF D i := winE_of HTD.out (by omega) (by rw [HDN.out]; exact hilt)
          have hfit := wins_fits (tree_ups HTD.out) (show 0 < i by omega) (show i < D.length by rw [HDN.out]; exact hilt)
          have hwl := wins_lt D i
          have howo : ∀ (at_ : Nat) (x : Nat × Nat), (windowsF D i).2 = 0 → x ∈ (windowsF D i).1 → withinB at_ 1 x.1 x.2 = true → (ownE D at_).2 = 0 ∧ ownsB D (ownE D at_).1 at_ x.2 = true := fun at_ x he hx ha => owner_of HTD.out (show 0 < i by omega) (by rw [HDN.out]; exact hilt) he hx ha
          have hwe := wins_err D i
          rw [hw1] at W1
          generalize windowsF D i = X at *
          obtain ⟨Lw, we⟩ := X
          have W1' : Calls Try.prog 15 #[.slice A2 n c2, .int .i64 (i : Nat)] wc fun e w' => (∃ AL cL, e = .returned (.tuple #[.slice AL Lw.length cL, .int .i64 we]) ∧ w'.ownsRow wc.heap.size 31 2 (.slice AL Lw.length cL) Lw.length (winCells Lw)) ∧ Below wc.heap.size wc w' := W1
          obtain ⟨N, hN⟩ : ∃ N, N = Lw.length := ⟨_, rfl⟩
          rw [← hN] at W1'
          have hNE : N ≠ 0 → we = 0 := fun h => by
            by_cases h2 : we = 0
            · exact h2
            · exact absurd (by rw [hN, show Lw = [] from hwe h2]; rfl) h
          have HW1 := Lib.hid W1'
          have HFIT := Lib.hid hfit
          have HWL := Lib.hid hwl
          have HOWO := Lib.hid howo
          have HNL := Lib.hid hN
          have HNE := Lib.hid hNE
          have hlt7 := hr7.lt
          clear W1 W1' hw1 hfit hwl howo hwe hN hNE hr7 hb7
          go_wp2_with (first
            | (go_at_call 15; refine HW1.out.mono ?_; rintro e9 w8 ⟨⟨AL, cL, rfl, hown⟩, hb8⟩
               have HB8 := Lib.hid (below_next HB7.out hb8)
               have R8 := Lib.hid (R7.out.keep (hb8.block _ hlt7))
               have O8 := Lib.hid hown
               clear hb8 hown)
            | fail)
          have hNb : N ≤ maxLen := by
            rcases O8.out.2 with ⟨_, h⟩ | ⟨g, cap, cur, hv, h1, h2, h3, h4, _⟩
            · rw [h]; exact Nat.zero_le _
            · injection hv with _ hv
              exact Nat.le_trans h3 h4
          unfold maxLen at hNb
          generalize wc.heap.size = bs at *
          go_loopw [20] (fun kv wx => ∃ k : Nat, k ≤ N ∧ kv = .int .i64 k ∧ RowAt wx w2.heap.size 31 [.int .u64 (b : Int), .int .u64 (s : Int)] ∧ wx.ownsRow bs 31 2 (.slice AL N cL) N (winCells Lw) ∧ Below w2.heap.size w2 wx) (fun kv _ => N - (intOf kv).toNat)
          case atStart => exact ⟨0, by omega, rfl, R8.out, O8.out, HB8.out⟩
          case round =>
            clear HB8 R8 O8 HB7 R7
            obtain ⟨k, hk, rfl, hrk, hok, hbk⟩ := hrel
            have RK := Lib.hid hrk
            have OK := Lib.hid hok
            have HBK := Lib.hid hbk
            by_cases hkN : k < N
            case neg =>
              obtain rfl : k = N := by omega
              clear hrk hok hbk
              go_wp2_with fail
              exact ⟨⟨i + 1, by omega, by omega, by go_num, RK.out, HBK.out⟩, by simp [intOf]; omega⟩
            have hkL : k < Lw.length := by rw [← HNL.out]; exact hkN
            have hki : (k : Int) < (N : Int) := by omega
            obtain rfl : we = 0 := HNE.out (by omega)
            obtain ⟨g, off3, eL, hg, xa⟩ := (own_seg hok).thing (f := wiCells) (m := 2) wi_len (by omega) hkL
            subst eL
            have y0 : wr.cell? ⟨g, off3 + k * 2, none⟩ = some (.int .u64 (Lw[k].1 : Int)) := xa 0 _ rfl
            have y1 : wr.cell? ⟨g, off3 + k * 2 + 1, none⟩ = some (.int .u64 (Lw[k].2 : Int)) := xa 1 _ rfl
            obtain ⟨hx1, hx2⟩ := HWL.out Lw[k] (List.getElem_mem hkL)
            have hft := HFIT.out Lw[k] (List.getElem_mem hkL)
            have how : ∀ at_, withinB at_ 1 Lw[k].1 Lw[k].2 = true → (ownE D at_).2 = 0 ∧ ownsB D (ownE D at_).1 at_ Lw[k].2 = true := fun at_ h => HOWO.out at_ Lw[k] rfl (List.getElem_mem hkL) h
            rw [fits_sp] at hft
            generalize Lw[k].1 = wb at *
            generalize Lw[k].2 = ws at *
            clear xa hrk hok hbk
            by_cases hz0 : ws = 0
            · subst hz0
              clear how hft
              go_wp2_with fail
              exact ⟨⟨k + 1, by omega, by go_num, RK.out, OK.out, HBK.out⟩, by simp [intOf]; omega⟩
            have e0 : ((ws : Int) == 0) = false := by rw [beq_eq_false_iff_ne]; omega
            have e1 : ¬ (ws : Int) = 0 := by omega
            have hmod := Nat.mod_lt q (show 0 < ws by omega)
            obtain ⟨r, hr⟩ : ∃ r, r = q % ws := ⟨_, rfl⟩
            rw [← hr] at hmod
            have hr1 : (q : Int) % (ws : Int) = (r : Int) := by rw [hr]; omega
            have hat : wb + r < 18446744073709551616 := by omega
            obtain ⟨ho1, ho2⟩ := how (wb + r) (within_sp.2 ⟨by omega, by omega, by omega⟩)
            have k2 : IntKind.u64.wrap ((wb : Int) + (r : Int)) = ((wb + r : Nat) : Int) := by rw [IntKind.wrap_u64]; omega
            have OA := HOW.out (wb + r) hat
            have OB := HOS.out (ownE D (wb + r)).1 (wb + r) ws hat hx2
            rw [ho2] at OB
            rw [ho1] at OA
            generalize (ownE D (wb + r)).1 = o at *
            generalize wb + r = at_ at *
            have HOA := Lib.hid OA
            have HOB := Lib.hid OB
            clear how hft hr OA OB ho1 ho2
            go_wp2_with fail
            go_quiet (fail)
            have RKq := Lib.hid (show RowAt (wr.drewN nq) w2.heap.size 31 [.int .u64 (b : Int), .int .u64 (s : Int)] from RK.out)
            go_wp2_with (first
              | (go_at_call 13; refine (HOA.out _ (below_drewN HBK.out nq)).mono ?_; rintro e9 w9 ⟨rfl, hb9⟩
                 have hb9' : Below wr.heap.size wr w9 := ⟨hb9.os, hb9.tape, hb9.output, hb9.size, hb9.block⟩
                 have HB9 := Lib.hid (below_next HBK.out hb9')
                 have y9 : w9.cell? ⟨g, off3 + k * 2 + 1, none⟩ = some (.int .u64 (ws : Int)) := (hb9'.cell (p := ⟨g, off3 + k * 2 + 1, none⟩) hg).trans y1
                 have R9 := Lib.hid (RK.out.keep (hb9'.block _ RK.out.lt))
                 have O9 := Lib.hid (own_keep OK.out fun g _ hlt => hb9'.block g hlt)
                 clear hb9 hb9')
              | (go_at_call 16; refine (HOB.out _ HB9.out).mono ?_; rintro e9 w10 ⟨rfl, hb10⟩
                 have HB10 := Lib.hid (below_next HB9.out hb10)
                 have R10 := Lib.hid (R9.out.keep (hb10.block _ R9.out.lt))
                 have O10 := Lib.hid (own_keep O9.out fun g _ hlt => hb10.block g hlt)
                 clear hb10)
              | fail)
            exact ⟨⟨k + 1, by omega, by go_num, R10.out, O10.out, HB10.out⟩, by simp [intOf]; omega⟩
end Go.Proofs.Ytndocngkganpdaa
