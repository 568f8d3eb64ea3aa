/- The walk of RangesBack: the call returns true. -/
import Derived.Test.YtndocngkganpdaaRgAptB
set_option linter.unusedVariables false
namespace Go.Proofs.Ytndocngkganpdaa
open Go.RowKit
theorem wrong_of {l : List Nd} (ht : treeB l = true) {k : Nat} (hk : k < l.length) : wrongF l k 0 = 0 := by
  unfold wrongF
  rw [if_pos ht, if_neg (by omega)]
theorem outE_of {l : List Nd} (ht : treeB l = true) {k : Nat} (hk : k < l.length) {b s : Nat} (hf : b + s ≤ 18446744073709551616) : outE l k b s = outF l k b s := by
  unfold outE
  rw [wrong_of ht hk, if_neg (fun h => h rfl), if_pos (by unfold fitsB; rw [decide_eq_true hf, Bool.or_true])]
  rfl
theorem downE_of {l : List Nd} (ht : treeB l = true) {k : Nat} (hk : k < l.length) {b : Nat} : downE l k b = downF l k b := by
  unfold downE
  rw [wrong_of ht hk, if_neg (fun h => h rfl)]
  rfl
theorem outE_no {l : List Nd} (ht : treeB l = false) (i : Int) (b s : Nat) : outE l i b s = (0, 40) := by
  unfold outE wrongF
  rw [ht]
  rfl
set_option maxRecDepth 100000 in
set_option maxHeartbeats 16000000 in
theorem back_walk (A : Option Addr) (cap n : Nat) (l : List Nm) (hn : n = l.length) (hsz : Sized l) (hrm : Roomy l) (I : Int) (hI : (Lit.int .i64 I).wf = true) (at_ far : Nat) (hat : at_ < 18446744073709551616) (hfar : far < 18446744073709551616) (w : World) (B : Nat) (hB : B ≤ w.heap.size) (hs : Nodes w B A l) :
    Calls Try.prog 3 #[.agg #[.slice A n cap, .int .i64 I, .int .u64 (at_ : Nat), .int .u64 (far : Nat)]] w fun e w' => e = .returned (.bool true) ∧ Below w.heap.size w w' := by
  obtain ⟨w0, hw0⟩ : ∃ w0, w0 = w.alloc (.cells #[.slice A n cap, .int .i64 I, .int .u64 (at_ : Int), .int .u64 (far : Int)] 25) := ⟨_, rfl⟩
  have hb0 : Below w.heap.size w w0 := by rw [hw0]; exact (Below.refl _ w).alloc (Nat.le_refl _) _
  have r0 : RowAt w0 w.heap.size 25 [.slice A n cap, .int .i64 I, .int .u64 (at_ : Int), .int .u64 (far : Int)] := by rw [hw0]; exact rowAt_box _ _ _
  have HB0 := Lib.hid hb0
  have R0 := Lib.hid r0
  have hlt0 : w.heap.size < w0.heap.size := r0.lt
  have hB0 : B ≤ w0.heap.size := Nat.le_trans hB hb0.size
  have hs0 := hs.below (hb0.mono hB)
  have TR := tree3_any A cap n l hn hsz w0 B hB0 hs0
  cases ht : treeB (dat l) with
  | false =>
    have OU := fun W (hW : Below w.heap.size w W) => pout_any A cap n l hn hsz 0 0 0 (by omega) (by omega) W B (Nat.le_trans hB hW.size) (hs.below (hW.mono hB))
    rw [outE_no ht] at OU
    rw [ht] at TR
    have HTR := Lib.hid TR
    have HOU := Lib.hid OU
    have hnb : n ≤ 2932031007403 := by have := hsz.n; omega
    clear TR OU hn hsz hrm hs hs0 ht hb0 r0
    subst hw0
    by_cases hn0 : n = 0
    · subst hn0
      go_enter Try.func3, Try.ntmps3
      go_wp2_with (first
        | (go_at_call 8; refine (HOU.out _ HB0.out).mono ?_; rintro e w1 ⟨rfl, hb1⟩
           have HB1 := Lib.hid (below_next HB0.out hb1)
           clear hb1)
        | (go_at_call 9; refine (awake_any _).mono ?_; rintro e w2 ⟨rfl, hb2⟩
           have HB2 := Lib.hid (below_next HB1.out hb2)
           clear hb2)
        | fail)
      go_ret
      exact ⟨rfl, HB2.out⟩
    · have e0 : ((n : Int) == 0) = false := by rw [beq_eq_false_iff_ne]; omega
      go_enter Try.func3, Try.ntmps3
      go_wp2_with (first
        | (go_at_call 7; refine HTR.out.mono ?_; rintro e w3 ⟨rfl, hb3⟩
           have HB3 := Lib.hid (HB0.out.trans (hb3.mono (Nat.le_of_lt hlt0)))
           clear hb3)
        | (go_at_call 8; refine (HOU.out _ HB3.out).mono ?_; rintro e w1 ⟨rfl, hb1⟩
           have HB1 := Lib.hid (below_next HB3.out hb1)
           clear hb1)
        | (go_at_call 9; refine (awake_any _).mono ?_; rintro e w2 ⟨rfl, hb2⟩
           have HB2 := Lib.hid (below_next HB1.out hb2)
           clear hb2)
        | fail)
      go_ret
      exact ⟨rfl, HB2.out⟩
  | true =>
    have hu := tree_ups ht
    have hlen := tree_len ht
    have hshort := tree_short ht
    have hpos := tree_pos ht
    rw [dat_len, ← hn] at hlen hpos
    rw [ht] at TR
    have HTR := Lib.hid TR
    have LE := fun W (hW : Below w.heap.size w W) => lent_any A cap n l hn hsz hrm W B (Nat.le_trans hB hW.size) (hs.below (hW.mono hB))
    have HLE := Lib.hid LE
    have e0 : ((n : Int) == 0) = false := by rw [beq_eq_false_iff_ne]; omega
    have e1 : ¬ n = 0 := hpos
    have HS0 := Lib.hid hs
    have HN := Lib.hid hn
    clear TR LE hs hs0 hb0 r0 hn
    obtain ⟨k, hkd, hkn⟩ : ∃ k : Nat, (RowKit.wrap64 (I.tmod (n : Int) + (n : Int))).tmod (n : Int) = (k : Int) ∧ k < n := by
      have h1 := Int.tmod_lt_of_pos I (b := (n : Int)) (by omega)
      have h2 := Int.lt_tmod_of_pos I (b := (n : Int)) (by omega)
      rw [IntWalk.wrap64_in _ (by omega)]
      have h3 := Int.tmod_lt_of_pos (I.tmod (n : Int) + (n : Int)) (b := (n : Int)) (by omega)
      have h4 := Int.tmod_nonneg (n : Int) (show 0 ≤ I.tmod (n : Int) + (n : Int) by omega)
      exact ⟨_, (Int.toNat_of_nonneg h4).symm, by omega⟩
    have HU := Lib.hid hu
    have HSH := Lib.hid hshort
    have HT := Lib.hid ht
    have HSZ := Lib.hid hsz
    clear hu hshort ht hsz hrm
    subst hw0
    go_enter Try.func3, Try.ntmps3
    go_upto_region 8 with (first
      | (go_at_call 7; refine HTR.out.mono ?_; rintro e w1 ⟨rfl, hb1⟩
         have HB1 := Lib.hid (HB0.out.trans (hb1.mono (Nat.le_of_lt hlt0)))
         have R1 := Lib.hid (R0.out.keep (hb1.block _ hlt0))
         clear hb1)
      | (go_at_call 10; refine (HLE.out _ HB1.out).mono ?_; rintro e w2 ⟨A2, c2, L, rfl, hdL, hle, hb2⟩
         have HB2 := Lib.hid (below_next HB1.out hb2)
         have r2 := R1.out.keep (hb2.block _ R1.out.lt)
         have R2 := Lib.hid r2
         have HDL := Lib.hid hdL
         have HLEN := Lib.hid hle
         have c1 := r2.cell (k := 1) (by simp)
         simp only [List.getElem?_cons_zero, List.getElem?_cons_succ] at c1
         clear hb2 hdL hle r2)
      | fail)
    have hln : n = L.length := HLEN.out.len
    have hszL := sized_dat HDL.out HSZ.out
    have hdl := HDL.out
    obtain ⟨D, hD⟩ : ∃ D, D = dat l := ⟨_, rfl⟩
    rw [← hD] at hdl
    have hDL : dat L = D := hdl
    have hkD : k < D.length := by rw [← hDL, dat_len, ← hln]; exact hkn
    have hun : Ups D := by rw [hD]; exact HU.out
    have hshn : ShortL D := by rw [hD]; exact HSH.out
    have htD : treeB D = true := by rw [hD]; exact HT.out
    have AP : ∀ W, Below w.heap.size w W → Calls Try.prog 11 #[.slice A n cap, .int .i64 (k : Nat)] W fun e w' => e = .returned (.bool (apartB D k)) ∧ Below W.heap.size W w' := fun W hW => by
      have := apart_any A cap n l HN.out HSZ.out HSH.out HU.out hlen k hkn W B (Nat.le_trans hB hW.size) (HS0.out.below (hW.mono hB))
      rw [← hD] at this; exact this
    have OU : ∀ (b s : Nat), b + s ≤ 18446744073709551616 → b < 18446744073709551616 → s < 18446744073709551616 → ∀ W, Below w2.heap.size w2 W → Calls Try.prog 8 #[.slice A2 n c2, .int .i64 (k : Nat), .agg #[.int .u64 (b : Nat), .int .u64 (s : Nat)]] W fun e w' => e = .returned (.tuple #[.int .u64 ((outF D k b s).1 : Nat), .int .i64 (outF D k b s).2]) ∧ Below W.heap.size W w' := fun b s hbs hb hs W hW => by
      have := pout_any A2 c2 n L hln hszL k b s hb hs W w2.heap.size hW.size (HLEN.out.nodes.below hW)
      rw [hDL, outE_of htD hkD hbs] at this; exact this
    have DN : ∀ (b : Nat), b < 18446744073709551616 → ∀ W, Below w2.heap.size w2 W → Calls Try.prog 12 #[.slice A2 n c2, .int .i64 (k : Nat), .int .u64 (b : Nat)] W fun e w' => e = .returned (.tuple #[.int .u64 ((downF D k b).1 : Nat), .int .i64 (downF D k b).2]) ∧ Below W.heap.size W w' := fun b hb W hW => by
      have := pdown_any A2 c2 n L hln hszL k b hb W w2.heap.size hW.size (HLEN.out.nodes.below hW)
      rw [hDL, downE_of htD hkD] at this; exact this
    have HAP := Lib.hid AP
    have HOU := Lib.hid OU
    have HDN := Lib.hid DN
    have HUD := Lib.hid hun
    have HKD := Lib.hid hkD
    have hsz2 := HB2.out.size
    clear AP OU DN hun hshn htD hkD hdl hDL hD hszL hln HU HSH HT HSZ HDL HLEN HTR HLE HS0 HN
    cases hap : apartB D k with
    | false =>
      rw [hap] at HAP
      clear hap
      go_wp2_with (first
        | (go_at_call 11; refine (HAP.out _ HB2.out).mono ?_; rintro e w3 ⟨rfl, hb3⟩
           have HB3 := Lib.hid (below_next HB2.out hb3)
           clear hb3)
        | (go_at_call 9; refine (awake_any _).mono ?_; rintro e w4 ⟨rfl, hb4⟩
           have HB4 := Lib.hid (below_next HB3.out hb4)
           clear hb4)
        | fail)
      go_ret
      exact ⟨rfl, HB4.out⟩
    | true =>
      rw [hap] at HAP
      have HA := Lib.hid hap
      clear hap
      obtain ⟨a, ha⟩ : ∃ a, a = if at_ = 18446744073709551615 then at_ - 1 else at_ := ⟨_, rfl⟩
      have hal : a < 18446744073709551615 := by
        rw [ha]; split <;> omega
      go_upto_if 64 with (first
        | (go_at_call 11; refine (HAP.out _ HB2.out).mono ?_; rintro e w3 ⟨rfl, hb3⟩
           have HB3 := Lib.hid hb3
           clear hb3)
        | fail)
      go_cut [4] (fun av wx => av = .int .u64 (a : Nat) ∧ w3 = wx)
      case first =>
        by_cases hmx : at_ = 18446744073709551615
        · rw [if_pos hmx] at ha
          subst hmx
          subst ha
          go_wp2_with fail
          go_meet
          exact ⟨rfl, rfl⟩
        · rw [if_neg hmx] at ha
          subst ha
          have e3 : ((a : Int) == 18446744073709551615) = false := by rw [beq_eq_false_iff_ne]; omega
          have e4 : ¬ (a : Int) = 18446744073709551615 := by omega
          go_wp2_with fail
          go_meet
          exact ⟨rfl, rfl⟩
      case rest =>
        obtain ⟨rfl, rfl⟩ := hcut
        clear ha
        have OA := HOU.out a 1 (by omega) (by omega) (by omega)
        have hbo := fun u => back_out HUD.out k HKD.out HA.out a u
        have hul := outF_lt D k a 1 (by omega)
        obtain ⟨X, hX⟩ : ∃ X, X = outF D k a 1 := ⟨_, rfl⟩
        rw [← hX] at OA hul
        simp only [← hX] at hbo
        obtain ⟨u, e⟩ := X
        have HX := Lib.hid hX
        have HBO := Lib.hid hbo
        have HOA := Lib.hid OA
        have hul : u < 18446744073709551616 := hul
        clear hX hbo OA
        go_upto_if 76 with (first
          | (go_at_call 8; refine (HOA.out _ HB3.out).mono ?_; rintro e9 w4 ⟨rfl, hb4⟩
             have HB4 := Lib.hid (below_next HB3.out hb4)
             clear hb4)
          | fail)
        go_cut [4] (fun av wx => av = .int .u64 (a : Nat) ∧ Below w2.heap.size w2 wx)
        case first =>
          by_cases he : e = 0
          · subst he
            have DU := HDN.out u hul
            rw [HBO.out u rfl] at DU
            have HDU := Lib.hid DU
            clear DU
            go_wp2_with (first
              | (go_at_call 12; refine (HDU.out _ HB4.out).mono ?_; rintro e9 w5 ⟨rfl, hb5⟩
                 have HB5 := Lib.hid (below_next HB4.out hb5)
                 clear hb5)
              | fail)
            go_meet
            exact ⟨rfl, HB5.out⟩
          · have e5 : (e == 0) = false := by rw [beq_eq_false_iff_ne]; exact he
            go_wp2_with fail
            go_meet
            exact ⟨rfl, HB4.out⟩
        case rest =>
          obtain ⟨rfl, hbc⟩ := hcut
          have HBC := Lib.hid hbc
          clear hbc HB4 HB3 HBO
          have DA := HDN.out a (by omega)
          have hbd := fun c => back_down HUD.out k HKD.out HA.out a c
          have hcl := down_lt D k a (by omega)
          generalize downF D k a = Y at *
          obtain ⟨c, f⟩ := Y
          have HBD := Lib.hid hbd
          have HDA := Lib.hid DA
          have hcl : c < 18446744073709551616 := hcl
          clear hbd DA
          go_upto_if 99 with (first
            | (go_at_call 12; refine (HDA.out _ HBC.out).mono ?_; rintro e9 w6 ⟨rfl, hb6⟩
               have HB6 := Lib.hid (below_next HBC.out hb6)
               clear hb6)
            | fail)
          go_cut [4] (fun av wx => av = .int .u64 (a : Nat) ∧ Below w2.heap.size w2 wx)
          case first =>
            by_cases hf : f = 0
            · subst hf
              have OC := HOU.out c 1 (by omega) (by omega) (by omega)
              rw [HBD.out c rfl] at OC
              have HOC := Lib.hid OC
              clear OC
              go_wp2_with (first
                | (go_at_call 8; refine (HOC.out _ HB6.out).mono ?_; rintro e9 w7 ⟨rfl, hb7⟩
                   have HB7 := Lib.hid (below_next HB6.out hb7)
                   clear hb7)
                | fail)
              go_meet
              exact ⟨rfl, HB7.out⟩
            · have e5 : (f == 0) = false := by rw [beq_eq_false_iff_ne]; exact hf
              go_wp2_with fail
              go_meet
              exact ⟨rfl, HB6.out⟩
          case rest =>
            obtain ⟨rfl, hbe⟩ := hcut
            have HBE := Lib.hid hbe
            have re := R2.out.keep (hbe.block _ R2.out.lt)
            have c3 := re.cell (k := 3) (by simp)
            simp only [List.getElem?_cons_zero, List.getElem?_cons_succ] at c3
            clear hbe HB6 HBC re HBD
            obtain ⟨z, hz⟩ : ∃ z, z = far % 4096 := ⟨_, rfl⟩
            have hz1 : (far : Int) % 4096 = (z : Int) := by omega
            have hz2 : z < 4096 := by omega
            have HZ := Lib.hid hz
            clear hz
            by_cases hz0 : z = 0
            · subst hz0
              go_wp2_with (first
                | (go_at_call 9; refine (awake_any _).mono ?_; rintro e9 w8 ⟨rfl, hb8⟩
                   have HB8 := Lib.hid (below_next HBE.out hb8)
                   clear hb8)
                | fail)
              go_ret
              exact ⟨rfl, HB2.out.trans (HB8.out.mono hsz2)⟩
            have e6 : ((z : Int) == 0) = false := by rw [beq_eq_false_iff_ne]; omega
            have e7 : ¬ (z : Int) = 0 := by omega
            by_cases hmz : 18446744073709551615 - z < a
            · have d1 : (18446744073709551615 : Int) - (z : Int) < (a : Int) := by omega
              clear hmz
              go_wp2_with (first
                | (go_at_call 9; refine (awake_any _).mono ?_; rintro e9 w8 ⟨rfl, hb8⟩
                   have HB8 := Lib.hid (below_next HBE.out hb8)
                   clear hb8)
                | fail)
              go_ret
              exact ⟨rfl, HB2.out.trans (HB8.out.mono hsz2)⟩
            have d1 : ¬ (18446744073709551615 : Int) - (z : Int) < (a : Int) := by omega
            have OZ := HOU.out a z (by omega) (by omega) (by omega)
            have hfar := fun b2 => back_far HUD.out k HKD.out HA.out a z b2 (by omega)
            generalize outF D k a z = G at *
            obtain ⟨b2, g2⟩ := G
            have HOZ := Lib.hid OZ
            clear OZ hmz
            by_cases hg2 : g2 = 0
            case neg =>
              have e8 : (g2 == 0) = false := by rw [beq_eq_false_iff_ne]; exact hg2
              clear hfar
              go_wp2_with (first
                | (go_at_call 8; refine (HOZ.out _ HBE.out).mono ?_; rintro e9 w8 ⟨rfl, hb8⟩
                   have HB8 := Lib.hid (below_next HBE.out hb8)
                   clear hb8)
                | (go_at_call 9; refine (awake_any _).mono ?_; rintro e9 w9 ⟨rfl, hb9⟩
                   have HB9 := Lib.hid (below_next HB8.out hb9)
                   clear hb9)
                | fail)
              go_ret
              exact ⟨rfl, HB2.out.trans (HB9.out.mono hsz2)⟩
            subst hg2
            obtain ⟨h1, h2⟩ := hfar b2 rfl
            have hue : (u, e) = (b2, 0) := by rw [HX.out]; exact h1
            injection hue with hu1 he1
            subst hu1 he1
            have hlz := outF_lt D k (a + z - 1) 1 (by omega)
            rw [h2] at hlz
            have hlz : u + z - 1 < 18446744073709551616 := hlz
            have OE := HOU.out (a + z - 1) 1 (by omega) (by omega) (by omega)
            rw [h2] at OE
            have k1 : ((a + z - 1 : Nat) : Int) = (a : Int) + (z : Int) - 1 := by omega
            have k2 : ((u + z - 1 : Nat) : Int) = (u : Int) + ((z : Int) - 1) := by omega
            simp only [k1, k2] at OE
            have OE2 : ∀ W, Below w2.heap.size w2 W → Calls Try.prog 8 #[.slice A2 n c2, .int .i64 (k : Int), .agg #[.int .u64 ((a : Int) + (z : Int) - 1), .int .u64 1]] W fun e w' => e = .returned (.tuple #[.int .u64 ((u : Int) + ((z : Int) - 1)), .int .i64 0]) ∧ Below W.heap.size W w' := OE
            have HOE := Lib.hid OE2
            clear OE2
            have d2 : (a : Int) + (z : Int) < 18446744073709551616 := by omega
            have d3 : (0 : Int) ≤ (a : Int) + (z : Int) - 1 := by omega
            have d4 : (u : Int) + ((z : Int) - 1) < 18446744073709551616 := by omega
            have d5 : (0 : Int) ≤ (z : Int) - 1 := by omega
            clear OE h1 h2 k1 k2 hfar hlz hul
            go_wp2_with (first
              | (go_at_call 9; refine (awake_any _).mono ?_; rintro e9 w9 ⟨rfl, hb9⟩
                 have HB10 := Lib.hid (below_next HB9.out hb9)
                 clear hb9)
              | (go_at_call 8; (with_reducible refine (HOE.out _ HB8.out).mono ?_); rintro e9 w9 ⟨rfl, hb9⟩
                 have HB9 := Lib.hid (below_next HB8.out hb9)
                 clear hb9)
              | (go_at_call 8; (with_reducible refine (HOZ.out _ HBE.out).mono ?_); rintro e9 w8 ⟨rfl, hb8⟩
                 have HB8 := Lib.hid (below_next HBE.out hb8)
                 clear hb8)
              | fail)
            go_ret
            exact ⟨rfl, HB2.out.trans (HB10.out.mono hsz2)⟩
end Go.Proofs.Ytndocngkganpdaa
