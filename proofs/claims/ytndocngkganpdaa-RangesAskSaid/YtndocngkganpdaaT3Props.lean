/- The 3rd document's props: the contract. -/
import Derived.Test.YtndocngkganpdaaT3Name
set_option linter.unusedVariables false
namespace Go.Proofs.Ytndocngkganpdaa
open Go.RowKit
set_option maxRecDepth 100000 in
set_option maxHeartbeats 4000000 in
theorem props3_any (A : Option Addr) (c n : Nat) (ps : List Pr) (hn : n = ps.length) (hl : n ≤ 1125899906842624) (hz : ∀ y ∈ ps, y.n.size ≤ 1125899906842624 ∧ y.v.size ≤ 1125899906842624) (w : World) (B : Nat) (hB : B ≤ w.heap.size) (hs : Seg w B A (prCells ps)) :
    Calls Try.prog 24 #[.slice A n c] w fun e w' => e = .returned (.bool (propsB ps)) ∧ Below w.heap.size w w' := by
  obtain ⟨r, hr⟩ : ∃ r, r = propsB ps := ⟨_, rfl⟩
  rw [← hr]
  have HR := Lib.hid hr
  have HN := Lib.hid hn
  have HS := Lib.hid hs
  have HZ := Lib.hid hz
  clear hn hs hr hz
  go_enter Try.func24, Try.ntmps24
  go_wp2
  go_loopw [3] (fun i wr => ∃ k : Nat, k ≤ n ∧ i = .int .i64 k ∧ (∀ i, i < k → propOkB ps i = true) ∧ Below w.heap.size w wr) (fun i _ => n - (intOf i).toNat)
  case atStart => exact ⟨0, by omega, rfl, fun i hi => absurd hi (Nat.not_lt_zero i), Below.refl _ _⟩
  case round =>
    obtain ⟨k, hk, rfl, hok, hb⟩ := hrel
    have HOK := Lib.hid hok
    have HB := Lib.hid hb
    clear hok hb
    by_cases hlt : k < n
    · have hkl : k < ps.length := by rw [← HN.out]; exact hlt
      obtain ⟨b, off, rfl, hbB, x0, x1⟩ := (HS.out.below (HB.out.mono hB)).pr hkl
      have hki : (k : Int) < (n : Int) := by omega
      obtain ⟨z1, z2⟩ := HZ.out _ (List.getElem_mem hkl)
      have g1 := prop_name hkl
      have g2 := prop_val hkl
      have g3 := fun (j : Nat) (hj : j < k) => prop_twin hkl hj
      have g4 := prop_good hkl
      have hnm := fun w => name3_any ps[k].n w (by unfold maxLen; omega)
      have hno := fun h => props_no hkl h
      obtain ⟨s, hs⟩ : ∃ s, s = ps[k].n := ⟨_, rfl⟩
      rw [← hs] at x0 g1 z1 g4
      simp only [← hs] at hnm g3
      have HSS := Lib.hid hs
      obtain ⟨v, hv⟩ : ∃ v, v = ps[k].v := ⟨_, rfl⟩
      rw [← hv] at x1 g2 z2 g4
      have HVV := Lib.hid hv
      generalize nameB s.data.toList = bn at *
      have G1 := Lib.hid g1
      have G2 := Lib.hid g2
      have G3 := Lib.hid g3
      have G4 := Lib.hid g4
      have HNM := Lib.hid hnm
      have HNO := Lib.hid hno
      clear g1 g2 g3 g4 hnm hno hs hv
      rcases bn with _ | _
      · obtain rfl : r = false := by rw [HR.out]; exact HNO.out (G1.out rfl)
        go_wp2_with (first
          | (go_at_call 25; refine (HNM.out _).mono ?_; rintro e w1 ⟨rfl, hb1⟩
             have HB1 := Lib.hid (HB.out.trans (hb1.mono HB.out.size))
             obtain ⟨b9, off9, e9, _, y0, y1⟩ := (HS.out.below (HB1.out.mono hB)).pr hkl
             injection e9 with e9
             injection e9 with e91 e92
             subst e91 e92
             rw [← HVV.out] at y1
             clear hb1 y0 x0 x1)
          | fail)
        go_ret
        exact ⟨rfl, HB1.out⟩
      · by_cases hvs : 1024 < v.size
        · obtain rfl : r = false := by rw [HR.out]; exact HNO.out (G2.out (by omega))
          go_wp2_with (first
            | (go_at_call 25; refine (HNM.out _).mono ?_; rintro e w1 ⟨rfl, hb1⟩
               have HB1 := Lib.hid (HB.out.trans (hb1.mono HB.out.size))
               obtain ⟨b9, off9, e9, _, y0, y1⟩ := (HS.out.below (HB1.out.mono hB)).pr hkl
               injection e9 with e9
               injection e9 with e91 e92
               subst e91 e92
               rw [← HVV.out] at y1
               clear hb1 y0 x0 x1)
            | fail)
          go_ret
          exact ⟨rfl, HB1.out⟩
        · go_wp2_with (first
            | (go_at_call 25; refine (HNM.out _).mono ?_; rintro e w1 ⟨rfl, hb1⟩
               have HB1 := Lib.hid (HB.out.trans (hb1.mono HB.out.size))
               obtain ⟨b9, off9, e9, _, y0, y1⟩ := (HS.out.below (HB1.out.mono hB)).pr hkl
               injection e9 with e9
               injection e9 with e91 e92
               subst e91 e92
               rw [← HVV.out] at y1
               clear hb1 y0 x0 x1)
            | fail)
          go_loopw [4] (fun i wx => ∃ j : Nat, j ≤ k ∧ i = .int .i64 j ∧ (∀ (i : Nat) (h : i < ps.length), i < j → ps[i].n ≠ s) ∧ Below w.heap.size w wx) (fun i _ => k - (intOf i).toNat)
          case atStart => exact ⟨0, by omega, rfl, fun i _ hi => absurd hi (Nat.not_lt_zero i), HB1.out⟩
          case round =>
            obtain ⟨j, hj, rfl, hap, hbx⟩ := hrel
            have HAP := Lib.hid hap
            have HX := Lib.hid hbx
            clear hap hbx y1
            by_cases hjk : j < k
            · have hjl : j < ps.length := by omega
              have hjn : j < n := by omega
              obtain ⟨b', off', e', _, y0, _⟩ := (HS.out.below (HX.out.mono hB)).pr hjl
              injection e' with e'
              injection e' with e1 e2
              subst e1 e2
              obtain ⟨b', off', e', _, y1, _⟩ := (HS.out.below (HX.out.mono hB)).pr hkl
              injection e' with e'
              injection e' with e1 e2
              subst e1 e2
              rw [← HSS.out] at y1
              have h3 := G3.out j hjk
              obtain ⟨t, ht⟩ : ∃ t, t = ps[j].n := ⟨_, rfl⟩
              rw [← ht] at y0 h3
              have HT := Lib.hid ht
              have H3 := Lib.hid h3
              have hji : (j : Int) < (k : Int) := by omega
              have hjn2 : (j : Int) < (n : Int) := by omega
              clear ht h3
              by_cases hts : t = s
              · obtain rfl : r = false := by rw [HR.out]; exact HNO.out (H3.out hts)
                subst hts
                go_wp2_with fail
                go_quiet (fail)
                go_wp2_with fail
                go_ret
                exact ⟨rfl, below_drewN HX.out _⟩
              · have hap2 : ∀ (i : Nat) (h : i < ps.length), i < j + 1 → ps[i].n ≠ s := fun i h hi => by
                  rcases (show i < j ∨ i = j by omega) with h2 | rfl
                  · exact HAP.out i h h2
                  · rw [← HT.out]; exact hts
                have HAP2 := Lib.hid hap2
                have hne := str_ne hts
                clear hap2 hts
                go_wp2_with fail
                go_quiet (fail)
                go_wp2_with fail
                exact ⟨⟨j + 1, by omega, by go_num, HAP2.out, below_drewN HX.out _⟩, by simp [intOf]; omega⟩
            · obtain rfl : j = k := by omega
              have hkok := G4.out (by trivial) (by omega) (fun i h hi => HAP.out i h hi)
              have hok2 : ∀ i, i < j + 1 → propOkB ps i = true := fun i hi => by
                rcases (show i < j ∨ i = j by omega) with h2 | rfl
                · exact HOK.out i h2
                · exact hkok
              have HOK2 := Lib.hid hok2
              clear hok2 hkok
              go_wp2_with fail
              go_roundw
              case rel => exact ⟨j + 1, by omega, by go_num, HOK2.out, HX.out⟩
              case measure => simp [intOf]; omega
    · obtain rfl : k = n := by omega
      by_cases h32 : k ≤ 32
      · obtain rfl : r = true := by rw [HR.out]; exact props_yes (by rw [← HN.out]; exact h32) (fun i hi => HOK.out i (by rw [HN.out]; exact hi))
        have d1 : decide ((k : Int) ≤ 32) = true := decide_eq_true (by omega)
        go_wp2_with fail
        go_ret
        exact ⟨rfl, HB.out⟩
      · obtain rfl : r = false := by rw [HR.out]; unfold propsB; rw [decide_eq_false (by rw [← HN.out]; exact h32)]; rfl
        have d1 : decide ((k : Int) ≤ 32) = false := decide_eq_false (by omega)
        go_wp2_with fail
        go_ret
        exact ⟨rfl, HB.out⟩
end Go.Proofs.Ytndocngkganpdaa
