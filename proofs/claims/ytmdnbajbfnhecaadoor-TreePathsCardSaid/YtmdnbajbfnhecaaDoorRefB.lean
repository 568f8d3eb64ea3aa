/- The document's props: the contract. -/
import Derived.Test.YtmdnbajbfnhecaaDoorRefA
set_option linter.unusedVariables false
namespace Go.Proofs.YtmdnbajbfnhecaaDoor
open Go.RowKit
theorem str_inj {t s : ByteArray} (h : t.toList = s.toList) : t = s := by
  rw [ByteArray.toList_eq, ByteArray.toList_eq] at h
  obtain ⟨a⟩ := t
  obtain ⟨b⟩ := s
  have : a = b := Array.toList_inj.1 h
  rw [this]
theorem str_ne {t s : ByteArray} (h : t ≠ s) : (t.toList == s.toList) = false := by
  rw [beq_eq_false_iff_ne]
  exact fun e => h (str_inj e)
theorem props_no {ps : List Pr} {k : Nat} (hk : k < ps.length) (h : propOkB ps k = false) : propsB ps = false := by
  unfold propsB
  rw [Bool.and_eq_false_iff]
  right
  rw [Bool.eq_false_iff]
  intro hh
  have := all_range.1 hh k hk
  rw [h] at this
  cases this
theorem props_yes {ps : List Pr} (h1 : ps.length ≤ 32) (h : ∀ i, i < ps.length → propOkB ps i = true) : propsB ps = true := by
  unfold propsB
  rw [decide_eq_true h1, Bool.true_and]
  exact all_range.2 h
theorem prop_name {ps : List Pr} {k : Nat} (hk : k < ps.length) (h : nameB ps[k].n.data.toList = false) : propOkB ps k = false := by
  rw [prop_some hk, h]; rfl
theorem prop_val {ps : List Pr} {k : Nat} (hk : k < ps.length) (h : ¬ ps[k].v.size ≤ 1024) : propOkB ps k = false := by
  rw [prop_some hk, decide_eq_false h]; simp
theorem prop_twin {ps : List Pr} {k j : Nat} (hk : k < ps.length) (hj : j < k) (h : ps[j].n = ps[k].n) : propOkB ps k = false := by
  rw [prop_some hk, Bool.and_eq_false_iff]
  right
  rw [Bool.eq_false_iff]
  intro hh
  exact (apart_iff (by omega) _).1 hh j (by omega) hj h
theorem prop_good {ps : List Pr} {k : Nat} (hk : k < ps.length) (h1 : nameB ps[k].n.data.toList = true) (h2 : ps[k].v.size ≤ 1024) (h3 : ∀ (j : Nat) (h : j < ps.length), j < k → ps[j].n ≠ ps[k].n) : propOkB ps k = true := by
  rw [prop_some hk, h1, decide_eq_true h2, (apart_iff (by omega) _).2 h3]
  rfl
set_option maxRecDepth 100000 in
set_option maxHeartbeats 4000000 in
theorem rprops_any (A : Option Addr) (c n : Nat) (ps : List Pr) (hn : n = ps.length) (hl : n ≤ 1125899906842624) (hz : ∀ y ∈ ps, y.n.size ≤ 1125899906842624 ∧ y.v.size ≤ 1125899906842624) (w : World) (B : Nat) (hB : B ≤ w.heap.size) (hs : Seg w B A (prCells ps)) :
    Calls Tryd.prog 95 #[.slice A n c] w fun e w' => e = .returned (.bool (propsB ps)) ∧ Below w.heap.size w w' := by
  obtain ⟨r, hr⟩ : ∃ r, r = propsB ps := ⟨_, rfl⟩
  rw [← hr]
  have HR := Lib.hid hr
  have HN := Lib.hid hn
  have HS := Lib.hid hs
  have HZ := Lib.hid hz
  clear hn hs hr hz
  by_cases h32 : 32 < n
  · have hf : r = false := by rw [HR.out]; unfold propsB; rw [decide_eq_false (by rw [← HN.out]; omega)]; rfl
    subst hf
    go_enter Tryd.func95, Tryd.ntmps95
    go_wp2
    go_ret
    exact ⟨rfl, Below.refl _ _⟩
  · go_enter Tryd.func95, Tryd.ntmps95
    go_wp2
    go_loopw [3] (fun i wr => ∃ k : Nat, k ≤ n ∧ i = .int .i64 k ∧ (∀ i, i < k → propOkB ps i = true) ∧ Below w.heap.size w wr) (fun i _ => n - (intOf i).toNat)
    case atStart => exact ⟨0, by omega, rfl, fun i hi => absurd hi (Nat.not_lt_zero i), Below.refl _ _⟩
    case round =>
      obtain ⟨k, hk, rfl, hok, hb⟩ := hrel
      have HOK := Lib.hid hok
      have HB := Lib.hid hb
      clear hok hb
      by_cases hlt : k < n
      · have hkl : k < ps.length := by rw [← HN.out]; exact hlt
        obtain ⟨b, off, rfl, hbB, x0, x1⟩ := (HS.out.below (HB.out.mono hB)).pr hkl
        have hki : (k : Int) < (n : Int) := by omega
        obtain ⟨z1, z2⟩ := HZ.out _ (List.getElem_mem hkl)
        have g1 := prop_name hkl
        have g2 := prop_val hkl
        have g3 := fun (j : Nat) (hj : j < k) => prop_twin hkl hj
        have g4 := prop_good hkl
        have hnm := fun w => rname_any ps[k].n w (by unfold maxLen; omega)
        have hno := fun h => props_no hkl h
        obtain ⟨s, hs⟩ : ∃ s, s = ps[k].n := ⟨_, rfl⟩
        rw [← hs] at x0 g1 z1 g4
        simp only [← hs] at hnm g3
        have HSS := Lib.hid hs
        obtain ⟨v, hv⟩ : ∃ v, v = ps[k].v := ⟨_, rfl⟩
        rw [← hv] at x1 g2 z2 g4
        generalize nameB s.data.toList = bn at *
        have G1 := Lib.hid g1
        have G2 := Lib.hid g2
        have G3 := Lib.hid g3
        have G4 := Lib.hid g4
        have HNM := Lib.hid hnm
        have HNO := Lib.hid hno
        clear g1 g2 g3 g4 hnm hno hs hv
        rcases bn with _ | _
        · obtain rfl : r = false := by rw [HR.out]; exact HNO.out (G1.out rfl)
          go_wp2_with (go_at_call 96; refine (HNM.out _).mono ?_; rintro e w' ⟨rfl, rfl⟩)
          go_ret
          exact ⟨rfl, HB.out⟩
        · by_cases hvs : 1024 < v.size
          · obtain rfl : r = false := by rw [HR.out]; exact HNO.out (G2.out (by omega))
            go_wp2_with (go_at_call 96; refine (HNM.out _).mono ?_; rintro e w' ⟨rfl, rfl⟩)
            go_ret
            exact ⟨rfl, HB.out⟩
          · go_wp2_with (go_at_call 96; refine (HNM.out _).mono ?_; rintro e w' ⟨rfl, rfl⟩)
            go_loopw [4] (fun i wx => ∃ j : Nat, j ≤ k ∧ i = .int .i64 j ∧ (∀ (i : Nat) (h : i < ps.length), i < j → ps[i].n ≠ s) ∧ Below w.heap.size w wx) (fun i _ => k - (intOf i).toNat)
            case atStart => exact ⟨0, by omega, rfl, fun i _ hi => absurd hi (Nat.not_lt_zero i), HB.out⟩
            case round =>
              obtain ⟨j, hj, rfl, hap, hbx⟩ := hrel
              have HAP := Lib.hid hap
              have HX := Lib.hid hbx
              clear hap hbx x0 x1
              by_cases hjk : j < k
              · have hjl : j < ps.length := by omega
                have hjn : j < n := by omega
                obtain ⟨b', off', e', _, y0, _⟩ := (HS.out.below (HX.out.mono hB)).pr hjl
                injection e' with e'
                injection e' with e1 e2
                subst e1 e2
                obtain ⟨b', off', e', _, y1, _⟩ := (HS.out.below (HX.out.mono hB)).pr hkl
                injection e' with e'
                injection e' with e1 e2
                subst e1 e2
                rw [← HSS.out] at y1
                have h3 := G3.out j hjk
                obtain ⟨t, ht⟩ : ∃ t, t = ps[j].n := ⟨_, rfl⟩
                rw [← ht] at y0 h3
                have HT := Lib.hid ht
                have H3 := Lib.hid h3
                have hji : (j : Int) < (k : Int) := by omega
                have hjn2 : (j : Int) < (n : Int) := by omega
                clear ht h3
                by_cases hts : t = s
                · obtain rfl : r = false := by rw [HR.out]; exact HNO.out (H3.out hts)
                  subst hts
                  go_wp2_with fail
                  go_quiet (fail)
                  go_wp2_with fail
                  go_ret
                  exact ⟨rfl, below_drewN HX.out _⟩
                · have hap2 : ∀ (i : Nat) (h : i < ps.length), i < j + 1 → ps[i].n ≠ s := fun i h hi => by
                    rcases (show i < j ∨ i = j by omega) with h2 | rfl
                    · exact HAP.out i h h2
                    · rw [← HT.out]; exact hts
                  have HAP2 := Lib.hid hap2
                  have hne := str_ne hts
                  clear hap2 hts
                  go_wp2_with fail
                  go_quiet (fail)
                  go_wp2_with fail
                  exact ⟨⟨j + 1, by omega, by go_num, HAP2.out, below_drewN HX.out _⟩, by simp [intOf]; omega⟩
              · obtain rfl : j = k := by omega
                have hkok := G4.out (by trivial) (by omega) (fun i h hi => HAP.out i h hi)
                have hok2 : ∀ i, i < j + 1 → propOkB ps i = true := fun i hi => by
                  rcases (show i < j ∨ i = j by omega) with h2 | rfl
                  · exact HOK.out i h2
                  · exact hkok
                have HOK2 := Lib.hid hok2
                clear hok2 hkok
                go_wp2_with fail
                go_roundw
                case rel => exact ⟨j + 1, by omega, by go_num, HOK2.out, HX.out⟩
                case measure => simp [intOf]; omega
      · obtain rfl : k = n := by omega
        obtain rfl : r = true := by rw [HR.out]; exact props_yes (by rw [← HN.out]; omega) (fun i hi => HOK.out i (by rw [HN.out]; exact hi))
        go_wp2
        go_ret
        exact ⟨rfl, HB.out⟩
end Go.Proofs.YtmdnbajbfnhecaaDoor
