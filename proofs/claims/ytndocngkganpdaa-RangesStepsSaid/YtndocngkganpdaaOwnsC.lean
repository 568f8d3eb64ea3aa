/- owns: the contract. -/
import Derived.Test.YtndocngkganpdaaStepLaw
set_option linter.unusedVariables false
namespace Go.Proofs.Ytndocngkganpdaa
open Go.RowKit
theorem winE_err (l : List Nd) (i : Int) (h : (winE l i).2 ≠ 0) : (winE l i).1 = [] := by
  unfold winE at h ⊢
  by_cases hw : wrongF l i 1 ≠ 0
  · rw [if_pos hw]
  · rw [if_neg hw] at h ⊢
    exact wins_err l _ h
theorem winE_lt (l : List Nd) (i : Int) : ∀ x ∈ (winE l i).1, x.1 < 18446744073709551616 ∧ x.2 < 18446744073709551616 := by
  unfold winE
  by_cases hw : wrongF l i 1 ≠ 0
  · rw [if_pos hw]; intro x hx; cases hx
  · rw [if_neg hw]; exact wins_lt l _
set_option maxRecDepth 100000 in
set_option maxHeartbeats 16000000 in
theorem owns_any (A : Option Addr) (cap n : Nat) (l : List Nm) (hn : n = l.length) (hsz : Sized l) (o at_ most : Nat) (hat : at_ < 18446744073709551616) (hmo : most < 18446744073709551616) (w : World) (B : Nat) (hB : B ≤ w.heap.size) (hs : Nodes w B A l) :
    Calls Try.prog 16 #[.slice A n cap, .int .i64 (o : Nat), .int .u64 (at_ : Nat), .int .u64 (most : Nat)] w fun e w' => e = .returned (.bool (ownsB (dat l) o at_ most)) ∧ Below w.heap.size w w' := by
  have WI := pwindows_any A cap n l hn hsz (o : Int) w B hB hs
  have hlt := winE_lt (dat l) (o : Int)
  have herr := winE_err (dat l) (o : Int)
  unfold ownsB
  generalize winE (dat l) (o : Int) = X at *
  obtain ⟨L, we⟩ := X
  have WI' : Calls Try.prog 15 #[.slice A n cap, .int .i64 (o : Nat)] w fun e w' => (∃ AL cL, e = .returned (.tuple #[.slice AL L.length cL, .int .i64 we]) ∧ w'.ownsRow w.heap.size 31 2 (.slice AL L.length cL) L.length (winCells L)) ∧ Below w.heap.size w w' := WI
  obtain ⟨N, hN⟩ : ∃ N, N = L.length := ⟨_, rfl⟩
  rw [← hN] at WI'
  have hNE : N ≠ 0 → we = 0 := fun h => by
    by_cases h2 : we = 0
    · exact h2
    · exact absurd (by rw [hN, show L = [] from herr h2]; rfl) h
  obtain ⟨r, hr⟩ : ∃ r, r = (we == 0 && L.any fun w => withinB at_ 1 w.1 w.2 && decide (w.2 ≤ most)) := ⟨_, rfl⟩
  show Calls Try.prog 16 _ _ fun e w' => e = .returned (.bool (we == 0 && L.any fun w => withinB at_ 1 w.1 w.2 && decide (w.2 ≤ most))) ∧ _
  rw [← hr]
  have hbad : (∀ (j : Nat) (hj : j < L.length), (withinB at_ 1 L[j].1 L[j].2 && decide (L[j].2 ≤ most)) = false) → r = false := fun h => by
    rw [hr]
    have : (L.any fun w => withinB at_ 1 w.1 w.2 && decide (w.2 ≤ most)) = false := by
      rw [List.any_eq_false]
      intro x hx
      obtain ⟨j, hj, rfl⟩ := List.mem_iff_getElem.1 hx
      rw [h j hj]; simp
    rw [this, Bool.and_false]
  have hgood : ∀ (j : Nat) (hj : j < L.length), (withinB at_ 1 L[j].1 L[j].2 && decide (L[j].2 ≤ most)) = true → r = true := fun j hj h => by
    rw [hr, hNE (by omega)]
    show (true && _) = true
    rw [Bool.true_and, List.any_eq_true]
    exact ⟨L[j], List.getElem_mem hj, h⟩
  have HWI := Lib.hid WI'
  have HLT := Lib.hid hlt
  have HN := Lib.hid hN
  have HNE := Lib.hid hNE
  have HBAD := Lib.hid hbad
  have HGOOD := Lib.hid hgood
  clear WI WI' hlt herr hN hNE hr hbad hgood hn hsz hs
  go_enter Try.func16, Try.ntmps16
  go_wp2_with (first
    | (go_at_call 15; refine HWI.out.mono ?_; rintro e w1 ⟨⟨AL, cL, rfl, hown⟩, hb1⟩
       have HB1 := Lib.hid hb1
       have HO := Lib.hid hown
       clear hb1 hown)
    | fail)
  have hNb : N ≤ maxLen := by
    rcases HO.out.2 with ⟨_, h⟩ | ⟨g, cap, cur, hv, h1, h2, h3, h4, _⟩
    · rw [h]; exact Nat.zero_le _
    · injection hv with _ hv
      exact Nat.le_trans h3 h4
  unfold maxLen at hNb
  go_loopw [11] (fun iv wx => ∃ k : Nat, k ≤ N ∧ iv = .int .i64 k ∧ (∀ (j : Nat) (hj : j < L.length), j < k → (withinB at_ 1 L[j].1 L[j].2 && decide (L[j].2 ≤ most)) = false) ∧ wx.ownsRow w.heap.size 31 2 (.slice AL N cL) N (winCells L) ∧ Below w.heap.size w wx) (fun iv _ => N - (intOf iv).toNat)
  case atStart => exact ⟨0, by omega, rfl, fun j _ h => absurd h (Nat.not_lt_zero j), HO.out, HB1.out⟩
  case round =>
    obtain ⟨k, hk, rfl, hno, hown, hb⟩ := hrel
    have HNO := Lib.hid hno
    have HOW := Lib.hid hown
    have HB := Lib.hid hb
    clear hno hb
    by_cases hkN : k < N
    · have hkL : k < L.length := by rw [← HN.out]; exact hkN
      have hki : (k : Int) < (N : Int) := by omega
      obtain rfl : we = 0 := HNE.out (by omega)
      obtain ⟨g, off, eA, hg, xa⟩ := (own_seg hown).thing (f := wiCells) (m := 2) wi_len (by omega) hkL
      subst eA
      have x0 : wr.cell? ⟨g, off + k * 2, none⟩ = some (.int .u64 (L[k].1 : Int)) := xa 0 _ rfl
      have x1 : wr.cell? ⟨g, off + k * 2 + 1, none⟩ = some (.int .u64 (L[k].2 : Int)) := xa 1 _ rfl
      obtain ⟨hx1, hx2⟩ := HLT.out L[k] (List.getElem_mem hkL)
      have hgd := HGOOD.out k hkL
      have hnx : (withinB at_ 1 L[k].1 L[k].2 && decide (L[k].2 ≤ most)) = false → ∀ (j : Nat) (hj : j < L.length), j < k + 1 → (withinB at_ 1 L[j].1 L[j].2 && decide (L[j].2 ≤ most)) = false := fun h j hj hjk => by
        rcases (show j < k ∨ j = k by omega) with h2 | rfl
        · exact HNO.out j hj h2
        · exact h
      rw [within_one] at hgd hnx
      have HGD := Lib.hid hgd
      have HNX := Lib.hid hnx
      clear hgd hnx xa hown
      generalize L[k].1 = wb at *
      generalize L[k].2 = ws at *
      by_cases c1 : wb ≤ at_
      case neg =>
        have e1 : decide ((wb : Int) ≤ (at_ : Int)) = false := decide_eq_false (by omega)
        have e1n : decide (wb ≤ at_) = false := decide_eq_false c1
        have HF2 := Lib.hid (HNX.out (by rw [decide_eq_false c1]; rfl))
        clear c1 HNX HGD
        go_wp2_with fail
        go_quiet (fail)
        go_wp2_with fail
        exact ⟨⟨k + 1, by omega, by go_num, HF2.out, HOW.out, below_drewN HB.out _⟩, by simp [intOf]; omega⟩
      have e1 : decide ((wb : Int) ≤ (at_ : Int)) = true := decide_eq_true (by omega)
      have e1n : decide (wb ≤ at_) = true := decide_eq_true c1
      have w1 : IntKind.u64.wrap ((at_ : Int) - (wb : Int)) = (at_ : Int) - (wb : Int) := by rw [IntKind.wrap_u64]; omega
      by_cases c2 : at_ - wb < ws
      case neg =>
        have e2 : decide ((at_ : Int) - (wb : Int) < (ws : Int)) = false := decide_eq_false (by omega)
        have HF2 := Lib.hid (HNX.out (by rw [decide_eq_false c2]; simp))
        clear c1 c2 HNX HGD
        go_wp2_with fail
        go_quiet (fail)
        go_wp2_with fail
        exact ⟨⟨k + 1, by omega, by go_num, HF2.out, HOW.out, below_drewN HB.out _⟩, by simp [intOf]; omega⟩
      have e2 : decide ((at_ : Int) - (wb : Int) < (ws : Int)) = true := decide_eq_true (by omega)
      by_cases c3 : ws ≤ most
      · have e3 : decide ((ws : Int) ≤ (most : Int)) = true := decide_eq_true (by omega)
        have e3n : decide (ws ≤ most) = true := decide_eq_true c3
        obtain rfl : r = true := HGD.out (by rw [decide_eq_true c1, decide_eq_true c2, decide_eq_true c3]; rfl)
        clear c1 c2 c3 HNX HGD HBAD HGOOD
        go_wp2_with fail
        go_quiet (fail)
        go_wp2_with fail
        go_ret
        exact ⟨rfl, below_drewN HB.out _⟩
      · have e3 : decide ((ws : Int) ≤ (most : Int)) = false := decide_eq_false (by omega)
        have e3n : decide (ws ≤ most) = false := decide_eq_false c3
        have HF2 := Lib.hid (HNX.out (by rw [decide_eq_false c3]; simp))
        clear c1 c2 c3 HNX HGD
        go_wp2_with fail
        go_quiet (fail)
        go_wp2_with fail
        exact ⟨⟨k + 1, by omega, by go_num, HF2.out, HOW.out, below_drewN HB.out _⟩, by simp [intOf]; omega⟩
    · obtain rfl : k = N := by omega
      obtain rfl : r = false := HBAD.out (fun j hj => HNO.out j hj (by rw [HN.out]; exact hj))
      clear HBAD HGOOD hown
      go_wp2_with fail
      go_ret
      exact ⟨rfl, HB.out⟩
end Go.Proofs.Ytndocngkganpdaa
