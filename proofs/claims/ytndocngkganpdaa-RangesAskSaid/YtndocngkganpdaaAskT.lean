/- carries and tells: the contracts. -/
import Derived.Test.YtndocngkganpdaaAskC
set_option linter.unusedVariables false
namespace Go.Proofs.Ytndocngkganpdaa
open Go.RowKit
set_option maxRecDepth 100000 in
set_option maxHeartbeats 16000000 in
theorem carries_any (A A2 : Option Addr) (cap c2 n : Nat) (l L : List Nm) (hn : n = l.length) (hL : n = L.length) (hsz : Sized l) (hd : dat L = dat l) (i : Int) (b s : Nat) (hb64 : b < 18446744073709551616) (hs64 : s < 18446744073709551616) (w : World) (B : Nat) (hB : B ≤ w.heap.size) (hs : Nodes w B A l) (hs2 : Nodes w w.heap.size A2 L) :
    Calls Try.prog 18 #[.slice A2 n c2, .slice A n cap, .int .i64 i, .agg #[.int .u64 (b : Nat), .int .u64 (s : Nat)]] w fun e w' => e = .returned (.bool true) ∧ Below w.heap.size w w' := by
  have hszL := sized_dat hd hsz
  have hb0 : Below w.heap.size w (w.alloc (.cells #[.int .u64 (b : Int), .int .u64 (s : Int)] 37)) := (Below.refl _ w).alloc (Nat.le_refl _) _
  have HB0 := Lib.hid hb0
  have R0 := Lib.hid (rowAt_box w 37 [.int .u64 (b : Int), .int .u64 (s : Int)])
  have C1 := fun W (hW : Below w.heap.size w W) => pup_any A2 c2 n L hL hszL i b s hb64 hs64 W w.heap.size hW.size (hs2.below hW)
  rw [hd] at C1
  have C2 := fun W (hW : Below w.heap.size w W) => rup2_any A cap n l hn hsz i b s hb64 hs64 W B (Nat.le_trans hB hW.size) (hs.below (hW.mono hB))
  have C3 := fun W (hW : Below w.heap.size w W) => pout_any A2 c2 n L hL hszL i b s hb64 hs64 W w.heap.size hW.size (hs2.below hW)
  rw [hd] at C3
  have C4 := fun W (hW : Below w.heap.size w W) => rout2_any A cap n l hn hsz i b s hb64 hs64 W B (Nat.le_trans hB hW.size) (hs.below (hW.mono hB))
  have C5 := fun W (hW : Below w.heap.size w W) => pdown_any A2 c2 n L hL hszL i b hb64 W w.heap.size hW.size (hs2.below hW)
  rw [hd] at C5
  have C6 := fun W (hW : Below w.heap.size w W) => rdown2_any A cap n l hn hsz i b hb64 W B (Nat.le_trans hB hW.size) (hs.below (hW.mono hB))
  generalize upE (dat l) i b s = U at *
  generalize outE (dat l) i b s = O at *
  generalize downE (dat l) i b = Dn at *
  obtain ⟨u1, u2⟩ := U
  obtain ⟨o1, o2⟩ := O
  obtain ⟨d1, d2⟩ := Dn
  have H1 := Lib.hid C1
  have H2 := Lib.hid C2
  have H3 := Lib.hid C3
  have H4 := Lib.hid C4
  have H5 := Lib.hid C5
  have H6 := Lib.hid C6
  clear C1 C2 C3 C4 C5 C6 hn hL hsz hszL hd hs hs2 hb0
  go_enter Try.func18, Try.ntmps18
  have q0 := R0.out.cell (k := 0) (by simp)
  have q1 := R0.out.cell (k := 1) (by simp)
  simp only [List.getElem?_cons_zero, List.getElem?_cons_succ] at q0 q1
  go_wp2_with (first
    | (go_at_call 45; refine (H6.out _ HB5.out).mono ?_; rintro e w6 ⟨rfl, hb⟩
       have HB6 := Lib.hid (below_next HB5.out hb)
       have r6 := R5.out.keep (hb.block _ R5.out.lt)
       have R6 := Lib.hid r6
       have k60 := r6.cell (k := 0) (by simp)
       have k61 := r6.cell (k := 1) (by simp)
       simp only [List.getElem?_cons_zero, List.getElem?_cons_succ] at k60 k61
       clear hb r6)
    | (go_at_call 12; refine (H5.out _ HB4.out).mono ?_; rintro e w5 ⟨rfl, hb⟩
       have HB5 := Lib.hid (below_next HB4.out hb)
       have r5 := R4.out.keep (hb.block _ R4.out.lt)
       have R5 := Lib.hid r5
       have k50 := r5.cell (k := 0) (by simp)
       have k51 := r5.cell (k := 1) (by simp)
       simp only [List.getElem?_cons_zero, List.getElem?_cons_succ] at k50 k51
       clear hb r5)
    | (go_at_call 44; refine (H4.out _ HB3.out).mono ?_; rintro e w4 ⟨rfl, hb⟩
       have HB4 := Lib.hid (below_next HB3.out hb)
       have r4 := R3.out.keep (hb.block _ R3.out.lt)
       have R4 := Lib.hid r4
       have k40 := r4.cell (k := 0) (by simp)
       have k41 := r4.cell (k := 1) (by simp)
       simp only [List.getElem?_cons_zero, List.getElem?_cons_succ] at k40 k41
       clear hb r4)
    | (go_at_call 8; refine (H3.out _ HB2.out).mono ?_; rintro e w3 ⟨rfl, hb⟩
       have HB3 := Lib.hid (below_next HB2.out hb)
       have r3 := R2.out.keep (hb.block _ R2.out.lt)
       have R3 := Lib.hid r3
       have k30 := r3.cell (k := 0) (by simp)
       have k31 := r3.cell (k := 1) (by simp)
       simp only [List.getElem?_cons_zero, List.getElem?_cons_succ] at k30 k31
       clear hb r3)
    | (go_at_call 43; refine (H2.out _ HB1.out).mono ?_; rintro e w2 ⟨rfl, hb⟩
       have HB2 := Lib.hid (below_next HB1.out hb)
       have r2 := R1.out.keep (hb.block _ R1.out.lt)
       have R2 := Lib.hid r2
       have k20 := r2.cell (k := 0) (by simp)
       have k21 := r2.cell (k := 1) (by simp)
       simp only [List.getElem?_cons_zero, List.getElem?_cons_succ] at k20 k21
       clear hb r2)
    | (go_at_call 14; refine (H1.out _ HB0.out).mono ?_; rintro e w1 ⟨rfl, hb⟩
       have HB1 := Lib.hid (below_next HB0.out hb)
       have r1 := R0.out.keep (hb.block _ R0.out.lt)
       have R1 := Lib.hid r1
       have k10 := r1.cell (k := 0) (by simp)
       have k11 := r1.cell (k := 1) (by simp)
       simp only [List.getElem?_cons_zero, List.getElem?_cons_succ] at k10 k11
       clear hb r1)
    | fail)
  go_ret
  exact ⟨rfl, HB6.out⟩
theorem own_max {w : World} {base e size n c : Nat} {A : Option Addr} {xs : List Value} (h : w.ownsRow base e size (.slice A n c) n xs) : n ≤ maxLen := by
  rcases h.2 with ⟨_, h⟩ | ⟨g, cap, cur, hv, h1, h2, h3, h4, _⟩
  · rw [h]; exact Nat.zero_le _
  · exact Nat.le_trans h3 h4
set_option maxRecDepth 100000 in
set_option maxHeartbeats 16000000 in
theorem tells_any (A A2 : Option Addr) (cap c2 n : Nat) (l L : List Nm) (hn : n = l.length) (hL : n = L.length) (hsz : Sized l) (hd : dat L = dat l) (i : Int) (w : World) (B : Nat) (hB : B ≤ w.heap.size) (hs : Nodes w B A l) (hs2 : Nodes w w.heap.size A2 L) :
    Calls Try.prog 17 #[.slice A2 n c2, .slice A n cap, .int .i64 i] w fun e w' => e = .returned (.bool true) ∧ Below w.heap.size w w' := by
  have hszL := sized_dat hd hsz
  have HB0 := Lib.hid (Below.refl w.heap.size w)
  have CE := fun W (hW : Below w.heap.size w W) => pcells_any A2 c2 n L hL hszL i W w.heap.size hW.size (hs2.below hW)
  rw [hd] at CE
  have CR := fun W (hW : Below w.heap.size w W) => rcells_any A cap n l hn hsz i W B (Nat.le_trans hB hW.size) (hs.below (hW.mono hB))
  have RE := fun W (hW : Below w.heap.size w W) => preg2_any A2 c2 n L hL hszL i W w.heap.size hW.size (hs2.below hW)
  rw [hd] at RE
  have RR := fun W (hW : Below w.heap.size w W) => rreg2_any A cap n l hn hsz i W B (Nat.le_trans hB hW.size) (hs.below (hW.mono hB))
  have ME := fun W (hW : Below w.heap.size w W) => pmaps_any A2 c2 n L hL hszL i W w.heap.size hW.size (hs2.below hW)
  rw [hd] at ME
  have MR := fun W (hW : Below w.heap.size w W) => rmaps2_any A cap n l hn hsz i W B (Nat.le_trans hB hW.size) (hs.below (hW.mono hB))
  have WE := fun W (hW : Below w.heap.size w W) => pwindows_any A2 c2 n L hL hszL i W w.heap.size hW.size (hs2.below hW)
  rw [hd] at WE
  have WR := fun W (hW : Below w.heap.size w W) => rwindows2_any A cap n l hn hsz i W B (Nat.le_trans hB hW.size) (hs.below (hW.mono hB))
  generalize cellsE (dat l) i = Ce at *
  generalize regE (dat l) i = Re at *
  generalize mapsE (dat l) i = Me at *
  generalize winE (dat l) i = We at *
  obtain ⟨ca, cb, ce⟩ := Ce
  obtain ⟨RL, re⟩ := Re
  obtain ⟨ML, ms, me⟩ := Me
  obtain ⟨WL, we⟩ := We
  obtain ⟨N1, hN1⟩ : ∃ N, N = RL.length := ⟨_, rfl⟩
  obtain ⟨N2, hN2⟩ : ∃ N, N = ML.length := ⟨_, rfl⟩
  obtain ⟨N3, hN3⟩ : ∃ N, N = WL.length := ⟨_, rfl⟩
  have RE' : ∀ W, Below w.heap.size w W → Calls Try.prog 22 #[.slice A2 n c2, .int .i64 i] W fun e w' => (∃ A c, e = .returned (.tuple #[.slice A RL.length c, .int .i64 re]) ∧ w'.ownsRow W.heap.size 31 2 (.slice A RL.length c) RL.length (winCells RL)) ∧ Below W.heap.size W w' := RE
  rw [← hN1] at RE'
  have RR' : ∀ W, Below w.heap.size w W → Calls Try.prog 38 #[.slice A n cap, .int .i64 i] W fun e w' => (∃ A c, e = .returned (.tuple #[.slice A RL.length c, .int .i64 re]) ∧ w'.ownsRow W.heap.size 37 2 (.slice A RL.length c) RL.length (winCells RL)) ∧ Below W.heap.size W w' := RR
  rw [← hN1] at RR'
  have ME' : ∀ W, Below w.heap.size w W → Calls Try.prog 23 #[.slice A2 n c2, .int .i64 i] W fun e w' => (∃ A c, e = .returned (.tuple #[.slice A ML.length c, .bool ms, .int .i64 me]) ∧ w'.ownsRow W.heap.size 79 3 (.slice A ML.length c) ML.length (mpCells ML)) ∧ Below W.heap.size W w' := ME
  rw [← hN2] at ME'
  have MR' : ∀ W, Below w.heap.size w W → Calls Try.prog 40 #[.slice A n cap, .int .i64 i] W fun e w' => (∃ A c, e = .returned (.tuple #[.slice A ML.length c, .bool ms, .int .i64 me]) ∧ w'.ownsRow W.heap.size 84 3 (.slice A ML.length c) ML.length (mpCells ML)) ∧ Below W.heap.size W w' := MR
  rw [← hN2] at MR'
  have WE' : ∀ W, Below w.heap.size w W → Calls Try.prog 15 #[.slice A2 n c2, .int .i64 i] W fun e w' => (∃ A c, e = .returned (.tuple #[.slice A WL.length c, .int .i64 we]) ∧ w'.ownsRow W.heap.size 31 2 (.slice A WL.length c) WL.length (winCells WL)) ∧ Below W.heap.size W w' := WE
  rw [← hN3] at WE'
  have WR' : ∀ W, Below w.heap.size w W → Calls Try.prog 41 #[.slice A n cap, .int .i64 i] W fun e w' => (∃ A c, e = .returned (.tuple #[.slice A WL.length c, .int .i64 we]) ∧ w'.ownsRow W.heap.size 37 2 (.slice A WL.length c) WL.length (winCells WL)) ∧ Below W.heap.size W w' := WR
  rw [← hN3] at WR'
  have HCE := Lib.hid CE
  have HCR := Lib.hid CR
  have HRE := Lib.hid RE'
  have HRR := Lib.hid RR'
  have HME := Lib.hid ME'
  have HMR := Lib.hid MR'
  have HWE := Lib.hid WE'
  have HWR := Lib.hid WR'
  have HN1 := Lib.hid hN1
  have HN2 := Lib.hid hN2
  have HN3 := Lib.hid hN3
  clear CE CR RE RR ME MR WE WR RE' RR' ME' MR' WE' WR' hn hL hsz hszL hd hs hs2 hN1 hN2 hN3
  have fms : (ms != ms) = false := bne_self_eq_false _
  go_enter Try.func17, Try.ntmps17
  go_wp2_with (first
    | (go_at_call 39; refine (cmpw_any WL N3 HN3.out (own_max HOx.out) Ax Ay cx cy _ _ (Nat.le_refl _) (own_seg HOx.out) (own_seg HOy.out)).mono ?_; rintro e w13 ⟨rfl, hb⟩
       have HB13 := Lib.hid (below_next HB12.out hb)
       have HOr := Lib.hid (own_keep HOr.out fun g _ hlt => hb.block g hlt)
       have HOs := Lib.hid (own_keep HOs.out fun g _ hlt => hb.block g hlt)
       have HOa := Lib.hid (own_keep HOa.out fun g _ hlt => hb.block g hlt)
       have HOt := Lib.hid (own_keep HOt.out fun g _ hlt => hb.block g hlt)
       have HOu := Lib.hid (own_keep HOu.out fun g _ hlt => hb.block g hlt)
       have HOv := Lib.hid (own_keep HOv.out fun g _ hlt => hb.block g hlt)
       have HOx := Lib.hid (own_keep HOx.out fun g _ hlt => hb.block g hlt)
       have HOy := Lib.hid (own_keep HOy.out fun g _ hlt => hb.block g hlt)
       have HZ13 := Lib.hid hb.size
       clear hb)
    | (go_at_call 42; refine (cmpm_any ML N2 HN2.out (own_max HOt.out) At Au ct cu _ _ (Nat.le_refl _) (own_seg HOt.out) (own_seg HOu.out)).mono ?_; rintro e w12 ⟨rfl, hb⟩
       have HB12 := Lib.hid (below_next HB11.out hb)
       have HOr := Lib.hid (own_keep HOr.out fun g _ hlt => hb.block g hlt)
       have HOs := Lib.hid (own_keep HOs.out fun g _ hlt => hb.block g hlt)
       have HOa := Lib.hid (own_keep HOa.out fun g _ hlt => hb.block g hlt)
       have HOt := Lib.hid (own_keep HOt.out fun g _ hlt => hb.block g hlt)
       have HOu := Lib.hid (own_keep HOu.out fun g _ hlt => hb.block g hlt)
       have HOv := Lib.hid (own_keep HOv.out fun g _ hlt => hb.block g hlt)
       have HOx := Lib.hid (own_keep HOx.out fun g _ hlt => hb.block g hlt)
       have HOy := Lib.hid (own_keep HOy.out fun g _ hlt => hb.block g hlt)
       have HZ12 := Lib.hid hb.size
       clear hb)
    | (go_at_call 41; refine (HWR.out _ HB10.out).mono ?_; rintro e w11 ⟨⟨Ay, cy, rfl, hown⟩, hb⟩
       have HB11 := Lib.hid (below_next HB10.out hb)
       have HOr := Lib.hid (own_keep HOr.out fun g _ hlt => hb.block g hlt)
       have HOs := Lib.hid (own_keep HOs.out fun g _ hlt => hb.block g hlt)
       have HOa := Lib.hid (own_keep HOa.out fun g _ hlt => hb.block g hlt)
       have HOt := Lib.hid (own_keep HOt.out fun g _ hlt => hb.block g hlt)
       have HOu := Lib.hid (own_keep HOu.out fun g _ hlt => hb.block g hlt)
       have HOv := Lib.hid (own_keep HOv.out fun g _ hlt => hb.block g hlt)
       have HOx := Lib.hid (own_keep HOx.out fun g _ hlt => hb.block g hlt)
       have HOy := Lib.hid hown
       have HUy := Lib.hid (fun g (hg : (Value.slice Ay N3 cy).ownBlock = some g) => (hown.lt g hg).2)
       have HZ11 := Lib.hid hb.size
       clear hb hown)
    | (go_at_call 15; refine (HWE.out _ HB9.out).mono ?_; rintro e w10 ⟨⟨Ax, cx, rfl, hown⟩, hb⟩
       have HB10 := Lib.hid (below_next HB9.out hb)
       have HOr := Lib.hid (own_keep HOr.out fun g _ hlt => hb.block g hlt)
       have HOs := Lib.hid (own_keep HOs.out fun g _ hlt => hb.block g hlt)
       have HOa := Lib.hid (own_keep HOa.out fun g _ hlt => hb.block g hlt)
       have HOt := Lib.hid (own_keep HOt.out fun g _ hlt => hb.block g hlt)
       have HOu := Lib.hid (own_keep HOu.out fun g _ hlt => hb.block g hlt)
       have HOv := Lib.hid (own_keep HOv.out fun g _ hlt => hb.block g hlt)
       have HOx := Lib.hid hown
       have HUx := Lib.hid (fun g (hg : (Value.slice Ax N3 cx).ownBlock = some g) => (hown.lt g hg).2)
       have HZ10 := Lib.hid hb.size
       clear hb hown)
    | (go_at_call 23; refine (HME.out _ HB8.out).mono ?_; rintro e w9 ⟨⟨Av, cv, rfl, hown⟩, hb⟩
       have HB9 := Lib.hid (below_next HB8.out hb)
       have HOr := Lib.hid (own_keep HOr.out fun g _ hlt => hb.block g hlt)
       have HOs := Lib.hid (own_keep HOs.out fun g _ hlt => hb.block g hlt)
       have HOa := Lib.hid (own_keep HOa.out fun g _ hlt => hb.block g hlt)
       have HOt := Lib.hid (own_keep HOt.out fun g _ hlt => hb.block g hlt)
       have HOu := Lib.hid (own_keep HOu.out fun g _ hlt => hb.block g hlt)
       have HOv := Lib.hid hown
       have HUv := Lib.hid (fun g (hg : (Value.slice Av N2 cv).ownBlock = some g) => (hown.lt g hg).2)
       have HZ9 := Lib.hid hb.size
       clear hb hown)
    | (go_at_call 40; refine (HMR.out _ HB7.out).mono ?_; rintro e w8 ⟨⟨Au, cu, rfl, hown⟩, hb⟩
       have HB8 := Lib.hid (below_next HB7.out hb)
       have HOr := Lib.hid (own_keep HOr.out fun g _ hlt => hb.block g hlt)
       have HOs := Lib.hid (own_keep HOs.out fun g _ hlt => hb.block g hlt)
       have HOa := Lib.hid (own_keep HOa.out fun g _ hlt => hb.block g hlt)
       have HOt := Lib.hid (own_keep HOt.out fun g _ hlt => hb.block g hlt)
       have HOu := Lib.hid hown
       have HUu := Lib.hid (fun g (hg : (Value.slice Au N2 cu).ownBlock = some g) => (hown.lt g hg).2)
       have HZ8 := Lib.hid hb.size
       clear hb hown)
    | (go_at_call 23; refine (HME.out _ HB6.out).mono ?_; rintro e w7 ⟨⟨At, ct, rfl, hown⟩, hb⟩
       have HB7 := Lib.hid (below_next HB6.out hb)
       have HOr := Lib.hid (own_keep HOr.out fun g _ hlt => hb.block g hlt)
       have HOs := Lib.hid (own_keep HOs.out fun g _ hlt => hb.block g hlt)
       have HOa := Lib.hid (own_keep HOa.out fun g _ hlt => hb.block g hlt)
       have HOt := Lib.hid hown
       have HUt := Lib.hid (fun g (hg : (Value.slice At N2 ct).ownBlock = some g) => (hown.lt g hg).2)
       have HZ7 := Lib.hid hb.size
       clear hb hown)
    | (go_at_call 39; refine (cmpw_any RL N1 HN1.out (own_max HOr.out) Ar As cr cs _ _ (Nat.le_refl _) (own_seg HOr.out) (own_seg HOs.out)).mono ?_; rintro e w6 ⟨rfl, hb⟩
       have HB6 := Lib.hid (below_next HB5.out hb)
       have HOr := Lib.hid (own_keep HOr.out fun g _ hlt => hb.block g hlt)
       have HOs := Lib.hid (own_keep HOs.out fun g _ hlt => hb.block g hlt)
       have HOa := Lib.hid (own_keep HOa.out fun g _ hlt => hb.block g hlt)
       have HZ6 := Lib.hid hb.size
       clear hb)
    | (go_at_call 22; refine (HRE.out _ HB4.out).mono ?_; rintro e w5 ⟨⟨Aa, ca, rfl, hown⟩, hb⟩
       have HB5 := Lib.hid (below_next HB4.out hb)
       have HOr := Lib.hid (own_keep HOr.out fun g _ hlt => hb.block g hlt)
       have HOs := Lib.hid (own_keep HOs.out fun g _ hlt => hb.block g hlt)
       have HOa := Lib.hid hown
       have HUa := Lib.hid (fun g (hg : (Value.slice Aa N1 ca).ownBlock = some g) => (hown.lt g hg).2)
       have HZ5 := Lib.hid hb.size
       clear hb hown)
    | (go_at_call 38; refine (HRR.out _ HB3.out).mono ?_; rintro e w4 ⟨⟨As, cs, rfl, hown⟩, hb⟩
       have HB4 := Lib.hid (below_next HB3.out hb)
       have HOr := Lib.hid (own_keep HOr.out fun g _ hlt => hb.block g hlt)
       have HOs := Lib.hid hown
       have HUs := Lib.hid (fun g (hg : (Value.slice As N1 cs).ownBlock = some g) => (hown.lt g hg).2)
       have HZ4 := Lib.hid hb.size
       clear hb hown)
    | (go_at_call 22; refine (HRE.out _ HB2.out).mono ?_; rintro e w3 ⟨⟨Ar, cr, rfl, hown⟩, hb⟩
       have HB3 := Lib.hid (below_next HB2.out hb)
       have HOr := Lib.hid hown
       have HUr := Lib.hid (fun g (hg : (Value.slice Ar N1 cr).ownBlock = some g) => (hown.lt g hg).2)
       have HZ3 := Lib.hid hb.size
       clear hb hown)
    | (go_at_call 37; refine (HCR.out _ HB1.out).mono ?_; rintro e w2 ⟨rfl, hb⟩
       have HB2 := Lib.hid (below_next HB1.out hb)
       clear hb)
    | (go_at_call 21; refine (HCE.out _ HB0.out).mono ?_; rintro e w1 ⟨rfl, hb⟩
       have HB1 := Lib.hid (below_next HB0.out hb)
       clear hb)
    | fail)
  have HSZ := Lib.hid (show w2.heap.size ≤ w3.heap.size ∧ w3.heap.size ≤ w4.heap.size ∧ w4.heap.size ≤ w5.heap.size ∧ w5.heap.size ≤ w6.heap.size ∧ w6.heap.size ≤ w7.heap.size ∧ w7.heap.size ≤ w8.heap.size ∧ w8.heap.size ≤ w9.heap.size ∧ w9.heap.size ≤ w10.heap.size ∧ w10.heap.size ≤ w11.heap.size from ⟨HZ3.out, HZ4.out, HZ5.out, HZ6.out, HZ7.out, HZ8.out, HZ9.out, HZ10.out, HZ11.out⟩)
  have hNm1 := own_max HOr.out
  have hNm2 := own_max HOt.out
  have hNm3 := own_max HOx.out
  unfold maxLen at hNm1 hNm2 hNm3
  have HBL := HB13
  have HLOr := Lib.hid (show w.heap.size ≤ w2.heap.size from HB2.out.size)
  have HLOt := Lib.hid (show w.heap.size ≤ w6.heap.size from HB6.out.size)
  have HLOx := Lib.hid (show w.heap.size ≤ w9.heap.size from HB9.out.size)
  go_loopw [28] (fun kv wx => ∃ (k : Nat) (ys : List Value), k ≤ N1 ∧ kv = .int .i64 k ∧ wx.ownsRow w2.heap.size 31 2 (.slice Ar N1 cr) N1 ys ∧ (∀ g, (Value.slice Ar N1 cr).ownBlock ≠ some g → wx.heap[g]? = w13.heap[g]?) ∧ Below w.heap.size w wx) (fun kv _ => N1 - (intOf kv).toNat)
  case atStart => exact ⟨0, _, by omega, rfl, HOr.out, fun g _ => rfl, HBL.out⟩
  case round =>
    obtain ⟨k, ys, hk, rfl, hrow, hkeep, hbl⟩ := hrel
    by_cases hkN : k < N1
    · have hki : (k : Int) < (N1 : Int) := by omega
      obtain ⟨g, eA, hg1, hg2, hrA⟩ := RowAt.of_own hrow (Nat.lt_of_le_of_lt (Nat.zero_le _) hkN)
      have hylen : ys.length = N1 * 2 := hrow.1
      have hyk : k * 2 + 0 < ys.length := by omega
      have u0 : wr.cell? ⟨g, k * 2 + 0, none⟩ = some (ys[k * 2 + 0]) := by rw [hrA.cell hyk, List.getElem?_eq_getElem hyk]
      have f0 := hrA.frozen (k * 2 + 0)
      generalize ys[k * 2 + 0] = yv at u0
      subst eA
      have hnew := own_set hrow (k * 2 + 0) (.int .u64 99)
      have hkeep2 : ∀ g', (Value.slice (some ⟨g, 0, none⟩) N1 cr).ownBlock ≠ some g' → (wr.setCell ⟨g, k * 2 + 0, none⟩ (.int .u64 99)).heap[g']? = w13.heap[g']? := fun g' hg' => (Below.heap_setCell _ _ _ _ (by intro e; apply hg'; rw [e]; rfl)).trans (hkeep g' hg')
      have hbn := hbl.setCell (p := ⟨g, k * 2 + 0, none⟩) (by have := HLOr.out; show w.heap.size ≤ g; omega) (.int .u64 99)
      have HNEW := Lib.hid hnew
      have HK2 := Lib.hid hkeep2
      have HBN := Lib.hid hbn
      clear hrow hkeep hbl hrA hylen hyk hnew hkeep2 hbn
      simp only [Nat.add_zero] at u0 f0 HNEW HK2 HBN
      go_wp2_with fail
      exact ⟨⟨k + 1, _, by omega, by go_num, HNEW.out, HK2.out, HBN.out⟩, by simp [intOf]; omega⟩
    have hkl : k = N1 := by omega
    have HPs := Lib.hid (own_keep HOs.out fun g hg _ => hkeep g (own_types HOs.out HOr.out (by decide) g hg))
    have HPa := Lib.hid (own_keep HOa.out fun g hg _ => hkeep g (fun e => absurd (HUr.out g e) (by have := (HOa.out.lt g hg).1; have := HSZ.out; omega)))
    have HPt := Lib.hid (own_keep HOt.out fun g hg _ => hkeep g (own_types HOt.out HOr.out (by decide) g hg))
    have HPu := Lib.hid (own_keep HOu.out fun g hg _ => hkeep g (own_types HOu.out HOr.out (by decide) g hg))
    have HPv := Lib.hid (own_keep HOv.out fun g hg _ => hkeep g (own_types HOv.out HOr.out (by decide) g hg))
    have HPx := Lib.hid (own_keep HOx.out fun g hg _ => hkeep g (fun e => absurd (HUr.out g e) (by have := (HOx.out.lt g hg).1; have := HSZ.out; omega)))
    have HPy := Lib.hid (own_keep HOy.out fun g hg _ => hkeep g (own_types HOy.out HOr.out (by decide) g hg))
    have HBX := Lib.hid hbl
    clear HOs HOa HOt HOu HOv HOx HOy HOr hrow hkeep hbl HBL
    have HOs := HPs
    have HOa := HPa
    have HOt := HPt
    have HOu := HPu
    have HOv := HPv
    have HOx := HPx
    have HOy := HPy
    clear HPs HPa HPt HPu HPv HPx HPy
    have HBL := HBX
    clear HBX
    have hki : ¬ (k : Int) < (N1 : Int) := by omega
    clear hkN hk hkl
    obtain ⟨vr, hvr⟩ : ∃ x : World, x = wr := ⟨_, rfl⟩
    rw [← hvr] at HBL HOs HOa HOt HOu HOv HOx HOy ⊢
    clear hvr
    go_wp2_with fail
    go_loopw [29] (fun kv wx => ∃ (k : Nat) (ys : List Value), k ≤ N2 ∧ kv = .int .i64 k ∧ wx.ownsRow w6.heap.size 79 3 (.slice At N2 ct) N2 ys ∧ (∀ g, (Value.slice At N2 ct).ownBlock ≠ some g → wx.heap[g]? = vr.heap[g]?) ∧ Below w.heap.size w wx) (fun kv _ => N2 - (intOf kv).toNat)
    case atStart => exact ⟨0, _, by omega, rfl, HOt.out, fun g _ => rfl, HBL.out⟩
    case round =>
      obtain ⟨k, ys, hk, rfl, hrow, hkeep, hbl⟩ := hrel
      by_cases hkN : k < N2
      · have hki : (k : Int) < (N2 : Int) := by omega
        obtain ⟨g, eA, hg1, hg2, hrA⟩ := RowAt.of_own hrow (Nat.lt_of_le_of_lt (Nat.zero_le _) hkN)
        have hylen : ys.length = N2 * 3 := hrow.1
        have hyk : k * 3 + 0 < ys.length := by omega
        have u0 : wr.cell? ⟨g, k * 3 + 0, none⟩ = some (ys[k * 3 + 0]) := by rw [hrA.cell hyk, List.getElem?_eq_getElem hyk]
        have f0 := hrA.frozen (k * 3 + 0)
        generalize ys[k * 3 + 0] = yv at u0
        subst eA
        have hnew := own_set hrow (k * 3 + 0) (.int .u64 99)
        have hkeep2 : ∀ g', (Value.slice (some ⟨g, 0, none⟩) N2 ct).ownBlock ≠ some g' → (wr.setCell ⟨g, k * 3 + 0, none⟩ (.int .u64 99)).heap[g']? = vr.heap[g']? := fun g' hg' => (Below.heap_setCell _ _ _ _ (by intro e; apply hg'; rw [e]; rfl)).trans (hkeep g' hg')
        have hbn := hbl.setCell (p := ⟨g, k * 3 + 0, none⟩) (by have := HLOt.out; show w.heap.size ≤ g; omega) (.int .u64 99)
        have HNEW := Lib.hid hnew
        have HK2 := Lib.hid hkeep2
        have HBN := Lib.hid hbn
        clear hrow hkeep hbl hrA hylen hyk hnew hkeep2 hbn
        simp only [Nat.add_zero] at u0 f0 HNEW HK2 HBN
        go_wp2_with fail
        exact ⟨⟨k + 1, _, by omega, by go_num, HNEW.out, HK2.out, HBN.out⟩, by simp [intOf]; omega⟩
      have hkl : k = N2 := by omega
      have HPs := Lib.hid (own_keep HOs.out fun g hg _ => hkeep g (own_types HOs.out HOt.out (by decide) g hg))
      have HPa := Lib.hid (own_keep HOa.out fun g hg _ => hkeep g (own_types HOa.out HOt.out (by decide) g hg))
      have HPu := Lib.hid (own_keep HOu.out fun g hg _ => hkeep g (own_types HOu.out HOt.out (by decide) g hg))
      have HPv := Lib.hid (own_keep HOv.out fun g hg _ => hkeep g (fun e => absurd (HUt.out g e) (by have := (HOv.out.lt g hg).1; have := HSZ.out; omega)))
      have HPx := Lib.hid (own_keep HOx.out fun g hg _ => hkeep g (own_types HOx.out HOt.out (by decide) g hg))
      have HPy := Lib.hid (own_keep HOy.out fun g hg _ => hkeep g (own_types HOy.out HOt.out (by decide) g hg))
      have HBX := Lib.hid hbl
      clear HOs HOa HOu HOv HOx HOy HOt hrow hkeep hbl HBL
      have HOs := HPs
      have HOa := HPa
      have HOu := HPu
      have HOv := HPv
      have HOx := HPx
      have HOy := HPy
      clear HPs HPa HPu HPv HPx HPy
      have HBL := HBX
      clear HBX
      have hki : ¬ (k : Int) < (N2 : Int) := by omega
      clear hkN hk hkl
      obtain ⟨vt, hvt⟩ : ∃ x : World, x = wr := ⟨_, rfl⟩
      rw [← hvt] at HBL HOs HOa HOu HOv HOx HOy ⊢
      clear hvt
      go_wp2_with fail
      go_loopw [30] (fun kv wx => ∃ (k : Nat) (ys : List Value), k ≤ N3 ∧ kv = .int .i64 k ∧ wx.ownsRow w9.heap.size 31 2 (.slice Ax N3 cx) N3 ys ∧ (∀ g, (Value.slice Ax N3 cx).ownBlock ≠ some g → wx.heap[g]? = vt.heap[g]?) ∧ Below w.heap.size w wx) (fun kv _ => N3 - (intOf kv).toNat)
      case atStart => exact ⟨0, _, by omega, rfl, HOx.out, fun g _ => rfl, HBL.out⟩
      case round =>
        obtain ⟨k, ys, hk, rfl, hrow, hkeep, hbl⟩ := hrel
        by_cases hkN : k < N3
        · have hki : (k : Int) < (N3 : Int) := by omega
          obtain ⟨g, eA, hg1, hg2, hrA⟩ := RowAt.of_own hrow (Nat.lt_of_le_of_lt (Nat.zero_le _) hkN)
          have hylen : ys.length = N3 * 2 := hrow.1
          have hyk : k * 2 + 1 < ys.length := by omega
          have u0 : wr.cell? ⟨g, k * 2 + 1, none⟩ = some (ys[k * 2 + 1]) := by rw [hrA.cell hyk, List.getElem?_eq_getElem hyk]
          have f0 := hrA.frozen (k * 2 + 1)
          generalize ys[k * 2 + 1] = yv at u0
          subst eA
          have hnew := own_set hrow (k * 2 + 1) (.int .u64 99)
          have hkeep2 : ∀ g', (Value.slice (some ⟨g, 0, none⟩) N3 cx).ownBlock ≠ some g' → (wr.setCell ⟨g, k * 2 + 1, none⟩ (.int .u64 99)).heap[g']? = vt.heap[g']? := fun g' hg' => (Below.heap_setCell _ _ _ _ (by intro e; apply hg'; rw [e]; rfl)).trans (hkeep g' hg')
          have hbn := hbl.setCell (p := ⟨g, k * 2 + 1, none⟩) (by have := HLOx.out; show w.heap.size ≤ g; omega) (.int .u64 99)
          have HNEW := Lib.hid hnew
          have HK2 := Lib.hid hkeep2
          have HBN := Lib.hid hbn
          clear hrow hkeep hbl hrA hylen hyk hnew hkeep2 hbn
          go_wp2_with fail
          exact ⟨⟨k + 1, _, by omega, by go_num, HNEW.out, HK2.out, HBN.out⟩, by simp [intOf]; omega⟩
        have hkl : k = N3 := by omega
        have HPs := Lib.hid (own_keep HOs.out fun g hg _ => hkeep g (own_types HOs.out HOx.out (by decide) g hg))
        have HPa := Lib.hid (own_keep HOa.out fun g hg _ => hkeep g (fun e => absurd (HUa.out g hg) (by have := (HOx.out.lt g e).1; have := HSZ.out; omega)))
        have HPu := Lib.hid (own_keep HOu.out fun g hg _ => hkeep g (own_types HOu.out HOx.out (by decide) g hg))
        have HPv := Lib.hid (own_keep HOv.out fun g hg _ => hkeep g (own_types HOv.out HOx.out (by decide) g hg))
        have HPy := Lib.hid (own_keep HOy.out fun g hg _ => hkeep g (own_types HOy.out HOx.out (by decide) g hg))
        have HBX := Lib.hid hbl
        clear HOs HOa HOu HOv HOy HOx hrow hkeep hbl HBL
        have HOs := HPs
        have HOa := HPa
        have HOu := HPu
        have HOv := HPv
        have HOy := HPy
        clear HPs HPa HPu HPv HPy
        have HBL := HBX
        clear HBX
        have hki : ¬ (k : Int) < (N3 : Int) := by omega
        clear hkN hk hkl
        obtain ⟨vx, hvx⟩ : ∃ x : World, x = wr := ⟨_, rfl⟩
        rw [← hvx] at HBL HOs HOa HOu HOv HOy ⊢
        clear hvx
        go_wp2_with (first
          | (go_at_call 39; (with_reducible refine (cmpw_any WL N3 HN3.out (own_max HOz.out) Az Ay cz cy _ _ (Nat.le_refl _) (own_seg HOz.out) (own_seg HOy.out)).mono ?_); rintro e w17 ⟨rfl, hb⟩
             have HB17 := Lib.hid (below_next HB16.out hb)
             clear hb)
          | (go_at_call 42; (with_reducible refine (cmpm_any ML N2 HN2.out (own_max HOv.out) Av Au cv cu _ _ (Nat.le_refl _) (own_seg HOv.out) (own_seg HOu.out)).mono ?_); rintro e w16 ⟨rfl, hb⟩
             have HB16 := Lib.hid (below_next HB15.out hb)
             have HOy := Lib.hid (own_keep HOy.out fun g _ hlt => hb.block g hlt)
             have HOz := Lib.hid (own_keep HOz.out fun g _ hlt => hb.block g hlt)
             clear hb)
          | (go_at_call 39; (with_reducible refine (cmpw_any RL N1 HN1.out (own_max HOa.out) Aa As ca cs _ _ (Nat.le_refl _) (own_seg HOa.out) (own_seg HOs.out)).mono ?_); rintro e w15 ⟨rfl, hb⟩
             have HB15 := Lib.hid (below_next HB14.out hb)
             have HOu := Lib.hid (own_keep HOu.out fun g _ hlt => hb.block g hlt)
             have HOv := Lib.hid (own_keep HOv.out fun g _ hlt => hb.block g hlt)
             have HOy := Lib.hid (own_keep HOy.out fun g _ hlt => hb.block g hlt)
             have HOz := Lib.hid (own_keep HOz.out fun g _ hlt => hb.block g hlt)
             clear hb)
          | (go_at_call 15; refine (HWE.out _ HBL.out).mono ?_; rintro e w14 ⟨⟨Az, cz, rfl, hown⟩, hb⟩
             have HB14 := Lib.hid (below_next HBL.out hb)
             have HOs := Lib.hid (own_keep HOs.out fun g _ hlt => hb.block g hlt)
             have HOa := Lib.hid (own_keep HOa.out fun g _ hlt => hb.block g hlt)
             have HOu := Lib.hid (own_keep HOu.out fun g _ hlt => hb.block g hlt)
             have HOv := Lib.hid (own_keep HOv.out fun g _ hlt => hb.block g hlt)
             have HOy := Lib.hid (own_keep HOy.out fun g _ hlt => hb.block g hlt)
             have HOz := Lib.hid hown
             clear hb hown)
          | fail)
        go_ret
        exact ⟨rfl, HB17.out⟩
end Go.Proofs.Ytndocngkganpdaa
