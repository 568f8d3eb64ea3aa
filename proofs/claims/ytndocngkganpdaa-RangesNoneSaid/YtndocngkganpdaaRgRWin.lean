/- The document's windows: the contract. -/
import Derived.Test.YtndocngkganpdaaRgDn
set_option linter.unusedVariables false
namespace Go.Proofs.Ytndocngkganpdaa
open Go.RowKit
set_option maxRecDepth 100000 in
set_option maxHeartbeats 16000000 in
theorem rwindows_any (A : Option Addr) (cap n : Nat) (l : List Nm) (hn : n = l.length) (hn5 : n ≤ 1048576) (hsz : Sized l) (hsh : ShortL (dat l)) (hu : Ups (dat l)) (i : Nat) (h0 : 0 < i) (hi : i < n) (w : World) (B : Nat) (hB : B ≤ w.heap.size) (hs : Nodes w B A l) :
    Calls Try.prog 46 #[.slice A n cap, .int .i64 (i : Nat)] w fun e w' => WinR 37 (windowsF (dat l) i) w.heap.size e w' ∧ Below w.heap.size w w' := by
  have hil : i < l.length := by rw [← hn]; exact hi
  have hup := ups_par hu h0 (by rw [dat_len]; exact hil)
  obtain ⟨p, hp⟩ : ∃ p, p = parN (dat l) i := ⟨_, rfl⟩
  rw [← hp] at hup
  have hwf : windowsF (dat l) i = match regF (dat l) i with
    | none => ([], 4)
    | some ws => outsF (dat l) p ws := by unfold windowsF; rw [← hp]; rfl
  rw [hwf]
  have RE := rreg_any A cap n l hn hsz hsh i hi (by rw [hup.2]; omega) (by rw [hup.2]; omega) w B hB hs
  have hrl : ∀ ws, regF (dat l) i = some ws → _ := fun ws h => reg_lt h
  generalize regF (dat l) i = G at *
  have hii : (i : Int) < (n : Int) := by omega
  cases G with
  | none =>
    have RE' : Calls Try.prog 56 #[.slice A n cap, .int .i64 (i : Nat)] w fun e w' => e = .returned (.tuple #[.slice none 0 0, .int .i64 4]) ∧ Below w.heap.size w w' := RE
    have HRE := Lib.hid RE'
    clear RE RE' hrl hwf hp hup hn hsz hsh hu hs hB
    go_enter Try.func46, Try.ntmps46
    go_wp2_with (first
      | (go_at_call 56; refine HRE.out.mono ?_; rintro e w1 ⟨rfl, hb1⟩
         have HB1 := Lib.hid hb1
         clear hb1)
      | fail)
    go_ret2
    exact ⟨winR_no 4 _ _, HB1.out⟩
  | some ws =>
    have RE' : Calls Try.prog 56 #[.slice A n cap, .int .i64 (i : Nat)] w fun e w' => (∃ AL cL, e = .returned (.tuple #[.slice AL ws.length cL, .int .i64 0]) ∧ w'.ownsRow w.heap.size 37 2 (.slice AL ws.length cL) ws.length (winCells ws)) ∧ Below w.heap.size w w' := RE
    obtain ⟨N, hN⟩ : ∃ N, N = ws.length := ⟨_, rfl⟩
    rw [← hN] at RE'
    have HRE := Lib.hid RE'
    have HRL := Lib.hid (hrl ws rfl)
    obtain ⟨X, hX⟩ : ∃ X, X = outsF (dat l) p ws := ⟨_, rfl⟩
    show Calls Try.prog 46 _ _ fun e w' => WinR 37 (outsF (dat l) p ws) _ e w' ∧ _
    rw [← hX]
    have hX2 : X = if (outsF (dat l) p ws).2 ≠ 0 then ([], (outsF (dat l) p ws).2) else ([] ++ (outsF (dat l) p ws).1, 0) := by rw [hX]; exact outs_snd _ _ _
    have HX := Lib.hid hX2
    obtain ⟨b, off, rfl, hbB, x0, _⟩ := hs.at_ hil
    have hpj : l[i].d.p = (p : Nat) := by rw [← par_get l hil]; exact hup.2
    rw [hpj] at x0
    have hbw : b < w.heap.size := Nat.lt_of_lt_of_le hbB hB
    have CX : ∀ W, Below w.heap.size w W → W.cell? ⟨b, off + i * 3, none⟩ = some (.int .i64 (p : Int)) := fun W hW => (hW.cell (p := ⟨b, off + i * 3, none⟩) hbw).trans x0
    have TH : ∀ W, Below w.heap.size w W → ∀ bq sq, bq < 18446744073709551616 → sq < 18446744073709551616 → Calls Try.prog 59 #[.slice (some ⟨b, off, none⟩) n cap, .int .i64 (p : Nat), .agg #[.int .u64 (bq : Nat), .int .u64 (sq : Nat)]] W fun e w' => e = .returned (.tuple #[.int .u64 ((outF (dat l) p bq sq).1 : Nat), .int .i64 (outF (dat l) p bq sq).2]) ∧ Below W.heap.size W w' := fun W hW bq sq hbq hsq =>
      rout_any (some ⟨b, off, none⟩) cap n l hn hsz hsh hu p (by omega) bq sq hbq hsq W B (Nat.le_trans hB hW.size) (hs.below (hW.mono hB))
    have HOL : ∀ bq sq, bq < 18446744073709551616 → (outF (dat l) p bq sq).1 < 18446744073709551616 := fun bq sq hbq => by
      have := thr_lt (l := dat l) (down := false) (wayF (dat l) p) bq sq hbq
      rw [thr_out] at this
      exact this
    have HOL := Lib.hid HOL
    have HN := Lib.hid hN
    have HCX := Lib.hid CX
    have HTH := Lib.hid TH
    clear RE RE' hrl hwf hp hup hn hsz hsh hu hs hN hX hX2 x0 hpj CX TH
    go_enter Try.func46, Try.ntmps46
    go_wp2_with (first
      | (go_at_call 56; refine HRE.out.mono ?_; rintro e w1 ⟨⟨AL, cL, rfl, hown⟩, hb1⟩
         have HB1 := Lib.hid hb1
         have HO := Lib.hid hown
         clear hb1 hown)
      | fail)
    have hNb : N ≤ maxLen := by
      rcases HO.out.2 with ⟨_, h⟩ | ⟨g, cap, cur, hv, h1, h2, h3, h4, _⟩
      · rw [h]; exact Nat.zero_le _
      · injection hv with _ hv
        exact Nat.le_trans h3 h4
    unfold maxLen at hNb
    go_loopw [8] (fun iv wx => ∃ (k : Nat) (D R : List (Nat × Nat)), k ≤ N ∧ iv = .int .i64 k ∧ D.length = k ∧ ws.drop k = R ∧ (X = if (outsF (dat l) p R).2 ≠ 0 then ([], (outsF (dat l) p R).2) else (D ++ (outsF (dat l) p R).1, 0)) ∧ wx.ownsRow w.heap.size 37 2 (.slice AL N cL) N (winCells (D ++ R)) ∧ Below w.heap.size w wx) (fun iv _ => N - (intOf iv).toNat)
    case atStart => exact ⟨0, [], ws, by omega, rfl, rfl, rfl, HX.out, HO.out, HB1.out⟩
    case round =>
      obtain ⟨k, D, R, hk, rfl, hD, hR, hXk, hown, hb⟩ := hrel
      have HD := Lib.hid hD
      have HXK := Lib.hid hXk
      have HOW := Lib.hid hown
      have HB := Lib.hid hb
      have hbs := hb.size
      clear hXk hD
      by_cases hkN : k < N
      · have hkL : k < ws.length := by rw [← HN.out]; exact hkN
        have hki : (k : Int) < (N : Int) := by omega
        have hdr : ws.drop k = ws[k] :: ws.drop (k + 1) := List.drop_eq_getElem_cons hkL
        have hxl := HRL.out ws[k] (List.getElem_mem hkL)
        obtain ⟨⟨bq, sq⟩, hxe⟩ : ∃ x, x = ws[k] := ⟨_, rfl⟩
        rw [← hxe] at hdr hxl
        obtain ⟨R2, hR2⟩ : ∃ R2, R2 = ws.drop (k + 1) := ⟨_, rfl⟩
        rw [← hR2] at hdr
        obtain rfl : R = (bq, sq) :: R2 := by rw [← hR, hdr]
        have HR2 := Lib.hid hR2
        obtain ⟨hbq, hsq⟩ : bq < 18446744073709551616 ∧ sq < 18446744073709551616 := hxl
        obtain ⟨g, eA, hg1, hg2, hrA⟩ := RowAt.of_own hown (Nat.lt_of_le_of_lt (Nat.zero_le _) hkN)
        have hDl : (D ++ (bq, sq) :: R2).length = N := by
          have h1 := hown.1
          unfold winCells at h1
          rw [flat_length wiCells 2 wi_len] at h1
          omega
        have hkD : k < (D ++ (bq, sq) :: R2).length := by rw [hDl]; exact hkN
        have hge : (D ++ (bq, sq) :: R2)[k] = (bq, sq) := by
          rw [List.getElem_append_right (by rw [HD.out]; exact Nat.le_refl _)]
          simp [HD.out]
        have hcell : ∀ j u, (wiCells (bq, sq))[j]? = some u → wr.cell? ⟨g, k * 2 + j, none⟩ = some u := fun j u hu => by
          have hj : j < 2 := (List.getElem?_eq_some_iff.1 hu).1
          have hlt : k * 2 + j < (winCells (D ++ (bq, sq) :: R2)).length := by rw [hown.1]; omega
          rw [hrA.cell hlt]
          unfold winCells
          rw [flat_get wiCells 2 wi_len _ k j hkD hj, hge]
          exact hu
        have x0 : wr.cell? ⟨g, k * 2, none⟩ = some (.int .u64 (bq : Int)) := hcell 0 _ rfl
        have x1 : wr.cell? ⟨g, k * 2 + 1, none⟩ = some (.int .u64 (sq : Int)) := hcell 1 _ rfl
        have hgf := hrA.frozen (k * 2)
        subst eA
        have hst := outs_step (dat l) p (bq, sq) R2 D ws X HXK.out
        have hOL := HOL.out bq sq hbq
        have TB := fun W hW => HTH.out W hW bq sq hbq hsq
        generalize hOO : outF (dat l) p bq sq = OO at TB hOL
        have hst1 : OO.2 ≠ 0 → X = ([], OO.2) := fun h => by have := hst.1; simp only [hOO] at this; exact this h
        have hst2 : OO.2 = 0 → X = if (outsF (dat l) p R2).2 ≠ 0 then ([], (outsF (dat l) p R2).2) else ((D ++ [(OO.1, sq)]) ++ (outsF (dat l) p R2).1, 0) := fun h => by have := hst.2; simp only [hOO] at this; exact this h
        obtain ⟨ob, oe⟩ := OO
        have HST1 := Lib.hid hst1
        have HST2 := Lib.hid hst2
        have HTB := Lib.hid TB
        have hOL : ob < 18446744073709551616 := hOL
        have c0 := HCX.out wr hb
        have hrt := hrA.lt
        clear hR hdr hxe hR2 hrA hcell hge hkD hst hst1 hst2 TB hOO hown hb
        go_wp2_with fail
        refine wp_region_held_drew (S := fun W => W.cell? ⟨b, off + i * 3, none⟩ = some (.int .i64 (p : Int)) ∧ W.cell? ⟨g, k * 2, none⟩ = some (.int .u64 (bq : Int)) ∧ W.cell? ⟨g, k * 2 + 1, none⟩ = some (.int .u64 (sq : Int))) (by kernel_rfl) ⟨c0, x0, x1⟩ (fun hHeld => ?_)
        (refine held_take (i := 0) rfl rfl (by kernel_rfl) (by kernel_rfl) (by kernel_rfl) (fun _ _ _ h => h) (by rfl) (by intro w hSw; obtain ⟨hS1, hS2, hS3⟩ := hSw; go_simp; first | done | with_reducible rfl) (by assumption) ?_; try simp only [Act.put, List.setIfInBounds_toArray, List.set_cons_zero, List.set_cons_succ])
        (refine held_take (i := 1) rfl rfl (by kernel_rfl) (by kernel_rfl) (by kernel_rfl) (fun _ _ _ h => h) (by rfl) (by intro w hSw; obtain ⟨hS1, hS2, hS3⟩ := hSw; go_simp; first | done | with_reducible rfl) (by assumption) ?_; try simp only [Act.put, List.setIfInBounds_toArray, List.set_cons_zero, List.set_cons_succ])
        (refine held_take (i := 2) rfl rfl (by kernel_rfl) (by kernel_rfl) (by kernel_rfl) (fun _ _ _ h => h) (by rfl) (by intro w hSw; obtain ⟨hS1, hS2, hS3⟩ := hSw; go_simp; first | done | with_reducible rfl) (by assumption) ?_; try simp only [Act.put, List.setIfInBounds_toArray, List.set_cons_zero, List.set_cons_succ])
        (refine held_take (i := 3) rfl rfl (by kernel_rfl) (by kernel_rfl) (by kernel_rfl) (fun _ _ _ h => h) (by rfl) (by intro w hSw; obtain ⟨hS1, hS2, hS3⟩ := hSw; go_simp; first | done | with_reducible rfl) (by assumption) ?_; try simp only [Act.put, List.setIfInBounds_toArray, List.set_cons_zero, List.set_cons_succ])
        (refine held_take (i := 4) rfl rfl (by kernel_rfl) (by kernel_rfl) (by kernel_rfl) (fun _ _ _ h => h) (by rfl) (by intro w hSw; obtain ⟨hS1, hS2, hS3⟩ := hSw; go_simp; first | done | with_reducible rfl) (by assumption) ?_; try simp only [Act.put, List.setIfInBounds_toArray, List.set_cons_zero, List.set_cons_succ])
        (refine held_take (i := 5) rfl rfl (by kernel_rfl) (by kernel_rfl) (by kernel_rfl) (fun _ _ _ h => h) (by rfl) (by intro w hSw; obtain ⟨hS1, hS2, hS3⟩ := hSw; go_simp; first | done | with_reducible rfl) (by assumption) ?_; try simp only [Act.put, List.setIfInBounds_toArray, List.set_cons_zero, List.set_cons_succ])
        (refine held_take (i := 6) rfl rfl (by kernel_rfl) (by kernel_rfl) (by kernel_rfl) (fun _ _ _ h => h) (by rfl) (by intro w hSw; obtain ⟨hS1, hS2, hS3⟩ := hSw; go_simp; first | done | with_reducible rfl) (by assumption) ?_; try simp only [Act.put, List.setIfInBounds_toArray, List.set_cons_zero, List.set_cons_succ])
        (refine held_take (i := 7) rfl rfl (by kernel_rfl) (by kernel_rfl) (by kernel_rfl) (fun _ _ _ h => h) (by rfl) (by intro w hSw; obtain ⟨hS1, hS2, hS3⟩ := hSw; go_simp; first | done | with_reducible rfl) (by assumption) ?_; try simp only [Act.put, List.setIfInBounds_toArray, List.set_cons_zero, List.set_cons_succ])
        (refine held_take (i := 8) rfl rfl (by kernel_rfl) (by kernel_rfl) (by kernel_rfl) (fun _ _ _ h => h) (by rfl) (by intro w hSw; obtain ⟨hS1, hS2, hS3⟩ := hSw; go_simp; first | done | with_reducible rfl) (by assumption) ?_; try simp only [Act.put, List.setIfInBounds_toArray, List.set_cons_zero, List.set_cons_succ])
        (refine held_take (i := 9) rfl rfl (by kernel_rfl) (by kernel_rfl) (by kernel_rfl) (fun _ _ _ h => h) (by rfl) (by intro w hSw; obtain ⟨hS1, hS2, hS3⟩ := hSw; go_simp; first | done | with_reducible rfl) (by assumption) ?_; try simp only [Act.put, List.setIfInBounds_toArray, List.set_cons_zero, List.set_cons_succ])
        refine wpAnyH_ready (rs := [10]) (by kernel_rfl) (by simp) ?_
        refine AllReadyH.cons rfl (fun K hK => ?_) AllReadyH.nil
        go_simp
        go_at_call 59
        refine (HTB.out _ HB.out.drew).mono ?_
        rintro e w3 ⟨rfl, hb3⟩
        have hb4 : Below wr.heap.size wr w3 := ⟨hb3.os, hb3.tape, hb3.output, hb3.size, hb3.block⟩
        have HB3 := Lib.hid hb4
        have x03 : w3.cell? ⟨g, k * 2, none⟩ = some (.int .u64 (bq : Int)) := (hb4.cell (p := ⟨g, k * 2, none⟩) hrt).trans x0
        have x13 : w3.cell? ⟨g, k * 2 + 1, none⟩ = some (.int .u64 (sq : Int)) := (hb4.cell (p := ⟨g, k * 2 + 1, none⟩) hrt).trans x1
        have f03 : w3.frozen? ⟨g, k * 2, none⟩ = false := (hb4.frozen (p := ⟨g, k * 2, none⟩) hrt).trans hgf
        refine hK.out _ _ ⟨(hb4.cell (p := ⟨b, off + i * 3, none⟩) (Nat.lt_of_lt_of_le hbw hbs)).trans c0, x03, x13⟩ (fun hHeld => ?_)
        clear hK K hb3 hb4
        try simp only [Act.put, List.setIfInBounds_toArray, List.set_cons_zero, List.set_cons_succ]
        (refine held_take (i := 11) rfl rfl (by kernel_rfl) (by kernel_rfl) (by kernel_rfl) (fun _ _ _ h => h) (by rfl) (by intro w hSw; obtain ⟨hS1, hS2, hS3⟩ := hSw; go_simp; first | done | with_reducible rfl) (by assumption) ?_; try simp only [Act.put, List.setIfInBounds_toArray, List.set_cons_zero, List.set_cons_succ])
        (refine held_take (i := 12) rfl rfl (by kernel_rfl) (by kernel_rfl) (by kernel_rfl) (fun _ _ _ h => h) (by rfl) (by intro w hSw; obtain ⟨hS1, hS2, hS3⟩ := hSw; go_simp; first | done | with_reducible rfl) (by assumption) ?_; try simp only [Act.put, List.setIfInBounds_toArray, List.set_cons_zero, List.set_cons_succ])
        (refine held_take (i := 13) rfl rfl (by kernel_rfl) (by kernel_rfl) (by kernel_rfl) (fun _ _ _ h => h) (by rfl) (by intro w hSw; obtain ⟨hS1, hS2, hS3⟩ := hSw; go_simp; first | done | with_reducible rfl) (by assumption) ?_; try simp only [Act.put, List.setIfInBounds_toArray, List.set_cons_zero, List.set_cons_succ])
        (refine held_take (i := 14) rfl rfl (by kernel_rfl) (by kernel_rfl) (by kernel_rfl) (fun _ _ _ h => h) (by rfl) (by intro w hSw; obtain ⟨hS1, hS2, hS3⟩ := hSw; go_simp; first | done | with_reducible rfl) (by assumption) ?_; try simp only [Act.put, List.setIfInBounds_toArray, List.set_cons_zero, List.set_cons_succ])
        (refine held_take (i := 15) rfl rfl (by kernel_rfl) (by kernel_rfl) (by kernel_rfl) (fun _ _ _ h => h) (by rfl) (by intro w hSw; obtain ⟨hS1, hS2, hS3⟩ := hSw; go_simp; first | done | with_reducible rfl) (by assumption) ?_; try simp only [Act.put, List.setIfInBounds_toArray, List.set_cons_zero, List.set_cons_succ])
        refine wpAnyH_done (by kernel_rfl) ?_ _
        by_cases hoe : oe = 0
        · subst hoe
          have HX3 := Lib.hid (HST2.out rfl)
          have HD3 := Lib.hid (show (D ++ [(ob, sq)]).length = k + 1 by rw [List.length_append, HD.out]; rfl)
          go_wp2_with fail
          have hown3 : w3.ownsRow w.heap.size 37 2 (.slice (some ⟨g, 0, none⟩) N cL) N (winCells (D ++ (bq, sq) :: R2)) := own_keep HOW.out fun g' _ hlt => HB3.out.block g' hlt
          have hset := own_set hown3 (k * 2) (.int .u64 (ob : Int))
          rw [show k * 2 = D.length * 2 from by rw [HD.out], win_set] at hset
          rw [show D.length * 2 = k * 2 from by rw [HD.out]] at hset
          have HSET := Lib.hid hset
          have HBS := Lib.hid ((HB.out.trans (HB3.out.mono hbs)).setCell (p := ⟨g, k * 2, none⟩) hg1 (.int .u64 (ob : Int)))
          clear hown3 hset x03 f03
          exact ⟨⟨k + 1, D ++ [(ob, sq)], R2, by omega, by go_num, HD3.out, HR2.out.symm, HX3.out, HSET.out, HBS.out⟩, by simp [intOf]; omega⟩
        · have d1 : (oe == 0) = false := by rw [beq_eq_false_iff_ne]; exact hoe
          obtain rfl := HST1.out hoe
          go_wp2_with fail
          go_ret2
          exact ⟨winR_no oe _ _, HB.out.trans (HB3.out.mono hbs)⟩
      · obtain rfl : k = N := by omega
        obtain rfl : R = [] := by rw [← hR]; exact List.drop_eq_nil_of_le (by rw [HN.out]; exact Nat.le_refl _)
        have hX3 : X = (D, 0) := by rw [HXK.out]; show (if (0 : Int) ≠ 0 then _ else _) = _; rw [if_neg (fun h => h rfl)]; show (D ++ [], (0 : Int)) = _; rw [List.append_nil]
        subst hX3
        have HO2 := HOW.out
        rw [List.append_nil] at HO2
        have HO3 := Lib.hid HO2
        have HB4 := Lib.hid hb
        clear hR hown hb HO2 HXK HX
        go_wp2_with fail
        go_ret2
        refine ⟨?_, HB4.out⟩
        show ∃ A c, _ = Ending.returned (.tuple #[.slice A D.length c, .int .i64 0]) ∧ _
        rw [HD.out]
        exact ⟨AL, cL, rfl, HO3.out⟩
end Go.Proofs.Ytndocngkganpdaa
