/- The walk of RangesAsk: the call returns true. -/
import Derived.Test.YtndocngkganpdaaAskT
set_option linter.unusedVariables false
namespace Go.Proofs.Ytndocngkganpdaa
open Go.RowKit
set_option maxRecDepth 100000 in
set_option maxHeartbeats 16000000 in
theorem ask_walk (A : Option Addr) (cap n : Nat) (l : List Nm) (hn : n = l.length) (hsz : Sized l) (hrm : Roomy l) (Aw : Option Addr) (cw nw : Nat) (ws : List (Nat × Nat)) (hnw : nw = ws.length) (hcw : nw ≤ cw) (hnw2 : nw ≤ 140737488355328) (hlt : ∀ x ∈ ws, x.1 < 18446744073709551616 ∧ x.2 < 18446744073709551616) (w : World) (B : Nat) (hB : B ≤ w.heap.size) (hs : Nodes w B A l) (hw : Seg w B Aw (winCells ws)) :
    Calls Try.prog 5 #[.slice A n cap, .slice Aw nw cw] w fun e w' => e = .returned (.bool true) ∧ Below w.heap.size w w' := by
  have LE := lent_any A cap n l hn hsz hrm w B hB hs
  obtain ⟨M, hM⟩ : ∃ M, M = if 6 < nw then 6 else nw := ⟨_, rfl⟩
  have hMw : M ≤ nw := by rw [hM]; split <;> omega
  have hM6 : M ≤ 6 := by rw [hM]; split <;> omega
  have hnn : n ≤ 2932031007403 := by have := hsz.n; omega
  have HLE := Lib.hid LE
  have HN := Lib.hid hn
  have HSZ := Lib.hid hsz
  have HRM := Lib.hid hrm
  have HS := Lib.hid hs
  have HW := Lib.hid hw
  have HNW := Lib.hid hnw
  have HLT := Lib.hid hlt
  clear LE hn hsz hrm hs hw hnw hlt
  go_enter Try.func5, Try.ntmps5
  go_upto_if 17 with (first
    | (go_at_call 10; refine HLE.out.mono ?_; rintro e w1 ⟨A2, c2, L, rfl, hdL, hle, hb1⟩
       have HB1 := Lib.hid hb1
       have HDL := Lib.hid hdL
       have HL := Lib.hid hle
       clear hb1 hdL hle)
    | fail)
  go_cut [1] (fun sv wx => sv = .slice Aw M cw ∧ w1 = wx)
  case first =>
    by_cases h6 : 6 < nw
    · rw [if_pos h6] at hM
      subst hM
      have d1 : decide (6 < nw) = true := decide_eq_true h6
      have d2 : (6 : Int) < (nw : Int) := by omega
      have d3 : (6 : Int) ≤ (cw : Int) := by omega
      have d4 : 6 ≤ cw := by omega
      go_wp2_with fail
      go_meet
      exact ⟨rfl, rfl⟩
    · rw [if_neg h6] at hM
      have d1 : decide (6 < nw) = false := decide_eq_false h6
      have d2 : ¬ (6 : Int) < (nw : Int) := by omega
      subst hM
      go_wp2_with fail
      go_meet
      exact ⟨rfl, rfl⟩
  case rest =>
  obtain ⟨rfl, rfl⟩ := hcut
  clear hM
  have hLl : n = L.length := HL.out.len
  have TE : ∀ (i : Int) W, Below w1.heap.size w1 W → Calls Try.prog 17 #[.slice A2 n c2, .slice A n cap, .int .i64 i] W fun e w' => e = .returned (.bool true) ∧ Below W.heap.size W w' := fun i W hW =>
    tells_any A A2 cap c2 n l L HN.out hLl HSZ.out HDL.out i W B (Nat.le_trans hB (Nat.le_trans HB1.out.size hW.size)) (HS.out.below ((HB1.out.trans (hW.mono HB1.out.size)).mono hB)) (HL.out.keep hW).nodes
  have CA : ∀ (i : Int) (b s : Nat), b < 18446744073709551616 → s < 18446744073709551616 → ∀ W, Below w1.heap.size w1 W → Calls Try.prog 18 #[.slice A2 n c2, .slice A n cap, .int .i64 i, .agg #[.int .u64 (b : Nat), .int .u64 (s : Nat)]] W fun e w' => e = .returned (.bool true) ∧ Below W.heap.size W w' := fun i b s hb hs W hW =>
    carries_any A A2 cap c2 n l L HN.out hLl HSZ.out HDL.out i b s hb hs W B (Nat.le_trans hB (Nat.le_trans HB1.out.size hW.size)) (HS.out.below ((HB1.out.trans (hW.mono HB1.out.size)).mono hB)) (HL.out.keep hW).nodes
  have OP : ∀ (a : Nat), a < 18446744073709551616 → ∀ W, Below w1.heap.size w1 W → Calls Try.prog 13 #[.slice A2 n c2, .int .u64 (a : Nat)] W fun e w' => e = .returned (.tuple #[.int .i64 ((ownE (dat l) a).1 : Nat), .int .i64 (ownE (dat l) a).2]) ∧ Below W.heap.size W w' := fun a ha W hW => by
    have := powner_any A2 c2 n L hLl (sized_dat HDL.out HSZ.out) a ha W W.heap.size (Nat.le_refl _) (HL.out.keep hW).nodes
    rw [HDL.out] at this; exact this
  have OR : ∀ (a : Nat), a < 18446744073709551616 → ∀ W, Below w1.heap.size w1 W → Calls Try.prog 19 #[.slice A n cap, .int .u64 (a : Nat)] W fun e w' => e = .returned (.tuple #[.int .i64 ((ownE (dat l) a).1 : Nat), .int .i64 (ownE (dat l) a).2]) ∧ Below W.heap.size W w' := fun a ha W hW =>
    rowner_any A cap n l HN.out HSZ.out a ha W B (Nat.le_trans hB (Nat.le_trans HB1.out.size hW.size)) (HS.out.below ((HB1.out.trans (hW.mono HB1.out.size)).mono hB))
  have KE : ∀ W, Below w1.heap.size w1 W → Calls Try.prog 20 #[.slice A2 n c2, .slice A n cap] W fun e w' => e = .returned (.bool true) ∧ Below W.heap.size W w' := fun W hW =>
    kept_any A A2 cap c2 n l L HN.out HSZ.out HRM.out HDL.out W w.heap.size B (Nat.le_trans hB (Nat.le_trans HB1.out.size hW.size)) (HS.out.below ((HB1.out.trans (hW.mono HB1.out.size)).mono hB)) (HL.out.keep hW)
  have CX : ∀ W, Below w1.heap.size w1 W → ∀ k (hk : k < M), ∃ b off x0 x1, Aw = some ⟨b, off, none⟩ ∧ W.cell? ⟨b, off + k * 2, none⟩ = some (.int .u64 ((x0 : Nat) : Int)) ∧ W.cell? ⟨b, off + k * 2 + 1, none⟩ = some (.int .u64 ((x1 : Nat) : Int)) ∧ b < W.heap.size ∧ x0 < 18446744073709551616 ∧ x1 < 18446744073709551616 := fun W hW k hk => by
    have hkl : k < ws.length := by rw [← HNW.out]; omega
    obtain ⟨b, off, e, hb, xa⟩ := (HW.out.below ((HB1.out.trans (hW.mono HB1.out.size)).mono hB)).thing (f := wiCells) (m := 2) wi_len (by omega) hkl
    obtain ⟨l1, l2⟩ := HLT.out ws[k] (List.getElem_mem hkl)
    exact ⟨b, off, ws[k].1, ws[k].2, e, xa 0 _ rfl, xa 1 _ rfl, Nat.lt_of_lt_of_le hb (Nat.le_trans hB (Nat.le_trans HB1.out.size hW.size)), l1, l2⟩
  have HTE := Lib.hid TE
  have HCA := Lib.hid CA
  have HOP := Lib.hid OP
  have HOR := Lib.hid OR
  have HKE := Lib.hid KE
  have HCX := Lib.hid CX
  have hsz1 := HB1.out.size
  clear TE CA OP OR KE CX hLl HLE HN HSZ HRM HS HW HNW HLT HDL HL
  go_wp2_with fail
  go_loopw [6] (fun iv wx => ∃ i : Int, -1 ≤ i ∧ i ≤ (n : Int) + 1 ∧ iv = .int .i64 i ∧ Below w1.heap.size w1 wx) (fun iv _ => ((n : Int) + 1 - intOf iv).toNat)
  case atStart => exact ⟨-1, by omega, by omega, rfl, Below.refl _ _⟩
  case round =>
    obtain ⟨i, hi1, hi2, rfl, hbi⟩ := hrel
    have HBI := Lib.hid hbi
    clear hbi
    by_cases hgo : i ≤ (n : Int) ∧ i < 20
    · obtain ⟨g1, g2⟩ := hgo
      have d1 : decide (i ≤ (n : Int)) = true := decide_eq_true g1
      have d2 : decide (i < 20) = true := decide_eq_true g2
      go_wp2_with (first
        | (go_at_call 17; refine (HTE.out i _ HBI.out).mono ?_; rintro e w2 ⟨rfl, hb2⟩
           have HB2 := Lib.hid (below_next HBI.out hb2)
           clear hb2)
        | fail)
      go_loopw [7] (fun kv wx => ∃ k : Nat, k ≤ M ∧ kv = .int .i64 k ∧ Below w1.heap.size w1 wx) (fun kv _ => M - (intOf kv).toNat)
      case atStart => exact ⟨0, by omega, rfl, HB2.out⟩
      case round =>
        obtain ⟨k, hk, rfl, hbk⟩ := hrel
        have HBK := Lib.hid hbk
        by_cases hkM : k < M
        · have hki : (k : Int) < (M : Int) := by omega
          obtain ⟨b, off, x0, x1, eA, y0, y1, _, l0, l1⟩ := HCX.out _ hbk k hkM
          subst eA
          clear hbk
          go_wp2_with (first
            | (go_at_call 18; refine (HCA.out i x0 x1 l0 l1 _ HBK.out).mono ?_; rintro e w3 ⟨rfl, hb3⟩
               have HB3 := Lib.hid (below_next HBK.out hb3)
               clear hb3)
            | fail)
          exact ⟨⟨k + 1, by omega, by go_num, HB3.out⟩, by simp [intOf]; omega⟩
        · have hki : ¬ (k : Int) < (M : Int) := by omega
          clear hbk
          go_wp2_with fail
          exact ⟨⟨i + 1, by omega, by omega, rfl, HBK.out⟩, by simp [intOf]; omega⟩
    · have hd : (¬ i ≤ (n : Int)) ∨ (i ≤ (n : Int) ∧ ¬ i < 20) := by omega
      clear hgo
      obtain ⟨D, hD⟩ : ∃ D : World, D = wr := ⟨_, rfl⟩
      rw [← hD] at HBI ⊢
      clear hD
      rcases hd with hd | ⟨hd, hd2⟩
      all_goals
        go_wp2_with fail
        go_loopw [8] (fun kv wx => ∃ k : Nat, k ≤ M ∧ kv = .int .i64 k ∧ Below w1.heap.size w1 wx) (fun kv _ => M - (intOf kv).toNat)
        case atStart => exact ⟨0, by omega, rfl, HBI.out⟩
        case round =>
          obtain ⟨k, hk, rfl, hbk⟩ := hrel
          have HBK := Lib.hid hbk
          by_cases hkM : k < M
          · have hki : (k : Int) < (M : Int) := by omega
            obtain ⟨b, off, x0, x1, eA, y0, y1, hbw, l0, l1⟩ := HCX.out _ hbk k hkM
            have O1 := HOP.out x0 l0
            have O2 := HOR.out x0 l0
            generalize ownE (dat l) x0 = OE at O1 O2
            obtain ⟨o1, o2⟩ := OE
            have HO1 := Lib.hid O1
            have HO2 := Lib.hid O2
            subst eA
            clear hbk O1 O2
            go_wp2_with (first
              | (go_at_call 13; refine (HO1.out _ HBK.out).mono ?_; rintro e w3 ⟨rfl, hb3⟩
                 have HB3 := Lib.hid (below_next HBK.out hb3)
                 have z0 := (hb3.cell (p := ⟨b, off + k * 2, none⟩) hbw).trans y0
                 clear hb3)
              | (go_at_call 19; refine (HO2.out _ HB3.out).mono ?_; rintro e w4 ⟨rfl, hb4⟩
                 have HB4 := Lib.hid (below_next HB3.out hb4)
                 clear hb4)
              | fail)
            exact ⟨⟨k + 1, by omega, by go_num, HB4.out⟩, by simp [intOf]; omega⟩
          · have hki : ¬ (k : Int) < (M : Int) := by omega
            clear hbk
            go_wp2_with (first
              | (go_at_call 20; refine (HKE.out _ HBK.out).mono ?_; rintro e w5 ⟨rfl, hb5⟩
                 have HB5 := Lib.hid (below_next HBK.out hb5)
                 clear hb5)
              | (go_at_call 9; refine (awake_any _).mono ?_; rintro e w6 ⟨rfl, hb6⟩
                 have HB6 := Lib.hid (below_next HB5.out hb6)
                 clear hb6)
              | fail)
            go_ret
            exact ⟨rfl, HB1.out.trans (HB6.out.mono hsz1)⟩
end Go.Proofs.Ytndocngkganpdaa
