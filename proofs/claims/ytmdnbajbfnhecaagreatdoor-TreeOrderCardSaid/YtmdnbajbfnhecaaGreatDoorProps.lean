/- The program's props: the contract. -/
import Derived.Test.YtmdnbajbfnhecaaGreatDoorRSame
import Derived.Test.YtmdnbajbfnhecaaGreatDoorSets
import Derived.Maps.OwnOps
set_option linter.unusedVariables false
namespace Go.Proofs.YtmdnbajbfnhecaaGreatDoor
open Go.RowKit
set_option maxRecDepth 100000 in
set_option maxHeartbeats 4000000 in
theorem pprops_any (A : Option Addr) (c n : Nat) (ps : List Pr) (hn : n = ps.length) (hl : n ≤ 1125899906842624) (hz : ∀ y ∈ ps, y.n.size ≤ 1125899906842624 ∧ y.v.size ≤ 1125899906842624) (w : World) (B : Nat) (hB : B ≤ w.heap.size) (hs : Seg w B A (prCells ps)) :
    Calls Tryz.prog 63 #[.slice A n c] w fun e w' => e = .returned (.bool (propsB ps)) ∧ Below w.heap.size w w' := by
  obtain ⟨r, hr⟩ : ∃ r, r = propsB ps := ⟨_, rfl⟩
  rw [← hr]
  have HR := Lib.hid hr
  have HN := Lib.hid hn
  have HS := Lib.hid hs
  have HZ := Lib.hid hz
  clear hn hs hr hz
  by_cases h32 : 32 < n
  · have hf : r = false := by rw [HR.out]; unfold propsB; rw [decide_eq_false (by rw [← HN.out]; omega)]; rfl
    subst hf
    go_enter Tryz.func63, Tryz.ntmps63
    go_wp2
    go_ret
    exact ⟨rfl, Below.refl _ _⟩
  have hmm := @run_makeMap Tryz.prog
  go_enter Tryz.func63, Tryz.ntmps63
  go_wp2
  have hset0 : SetAt Tryz.prog 9 4 (w.alloc (.map #[] 0)) w.heap.size 0 (fun v => ∃ (j : Nat) (h : j < ps.length), j < 0 ∧ v = .string ps[j].n) := (set_made w Tryz.prog 9 4).congr fun v => ⟨False.elim, fun ⟨j, _, h, _⟩ => absurd h (Nat.not_lt_zero j)⟩
  have HSET0 := Lib.hid hset0
  clear hset0
  go_loopw [12] (fun iv wr => ∃ k : Nat, k ≤ n ∧ iv = .int .i64 k ∧ (∀ i, i < k → propOkB ps i = true) ∧ SetAt Tryz.prog 9 4 wr w.heap.size k (fun v => ∃ (j : Nat) (h : j < ps.length), j < k ∧ v = .string ps[j].n) ∧ Below w.heap.size w wr) (fun iv _ => n - (intOf iv).toNat)
  case atStart => exact ⟨0, by omega, rfl, fun i h => absurd h (Nat.not_lt_zero i), HSET0.out, (Below.refl _ _).alloc (Nat.le_refl _) _⟩
  case round =>
    obtain ⟨k, hk, rfl, hok, hset, hb⟩ := hrel
    have HOK := Lib.hid hok
    have HB := Lib.hid hb
    by_cases hlt : k < n
    · have hkl : k < ps.length := by rw [← HN.out]; exact hlt
      have hki : (k : Int) < (n : Int) := by omega
      obtain ⟨b, off, rfl, hbB, x0, x1⟩ := (HS.out.below (HB.out.mono hB)).pr hkl
      obtain ⟨z1, z2⟩ := HZ.out _ (List.getElem_mem hkl)
      have g1 := prop_name hkl
      have g2 := prop_val hkl
      have g3 := fun (j : Nat) (hj : j < k) => prop_twin hkl hj
      have g4 := prop_good hkl
      have hnm := fun w => pname_any ps[k].n w (by unfold maxLen; omega)
      have hno := fun h => props_no hkl h
      have hstep : ∀ v : Value, (v = .string ps[k].n ∨ ∃ (j : Nat) (h : j < ps.length), j < k ∧ v = .string ps[j].n) ↔ ∃ (j : Nat) (h : j < ps.length), j < k + 1 ∧ v = .string ps[j].n := fun v => by
        constructor
        · rintro (h | ⟨j, h1, h2, h3⟩)
          · exact ⟨k, hkl, by omega, h⟩
          · exact ⟨j, h1, by omega, h3⟩
        · rintro ⟨j, h1, h2, h3⟩
          rcases (show j < k ∨ j = k by omega) with h4 | rfl
          · exact .inr ⟨j, h1, h4, h3⟩
          · exact .inl h3
      have hkey : keyOf Tryz.prog 9 (.string ps[k].n) = some (.string ps[k].n.data.toList) := Go.WideMaps.keyOf_string_mk Tryz.underlying9 (by unfold maxLen; omega)
      obtain ⟨s, hs⟩ : ∃ s, s = ps[k].n := ⟨_, rfl⟩
      rw [← hs] at x0 g1 z1 g4 hkey
      simp only [← hs] at hnm g3 hstep
      obtain ⟨v, hv⟩ : ∃ v, v = ps[k].v := ⟨_, rfl⟩
      rw [← hv] at x1 g2 z2 g4
      simp only [nameE] at hnm
      generalize nameB s.data.toList = bn at *
      have esz : (wr.alloc (.cells #[.string s, .string v] 57)).heap.size = wr.heap.size + 1 := by simp
      have hwlt : w.heap.size < wr.heap.size := hset.lt
      have hq : ∀ w1, Below (wr.heap.size + 1) (wr.alloc (.cells #[.string s, .string v] 57)) w1 → w1.cell? ⟨wr.heap.size, 0, none⟩ = some (.string s) ∧ w1.cell? ⟨wr.heap.size, 1, none⟩ = some (.string v) ∧ Below w.heap.size w w1 ∧ SetAt Tryz.prog 9 4 w1 w.heap.size k (fun v => ∃ (j : Nat) (h : j < ps.length), j < k ∧ v = .string ps[j].n) ∧ w.heap.size ≤ w1.heap.size := fun w1 h1 => by
        have h2 : Below w.heap.size w w1 := (HB.out.alloc (by omega) _).trans (h1.mono (by omega))
        refine ⟨?_, ?_, h2, hset.block ?_, h2.size⟩
        · rw [h1.cell (p := ⟨wr.heap.size, 0, none⟩) (by show wr.heap.size < wr.heap.size + 1; omega), cell_of_row _ _ _ _ _ (0, 0) (heap_alloc_new wr _)]; rfl
        · rw [h1.cell (p := ⟨wr.heap.size, 1, none⟩) (by show wr.heap.size < wr.heap.size + 1; omega), cell_of_row _ _ _ _ _ (0, 0) (heap_alloc_new wr _)]; rfl
        · rw [h1.block _ (by omega), Below.heap_alloc _ _ _ hwlt]
      have G1 := Lib.hid g1
      have G2 := Lib.hid g2
      have G3 := Lib.hid g3
      have G4 := Lib.hid g4
      have HNM := Lib.hid hnm
      have HNO := Lib.hid hno
      have HQ := Lib.hid hq
      have HST := Lib.hid hstep
      have HKEY := Lib.hid hkey
      have HVS := Lib.hid hs
      clear g1 g2 g3 g4 hnm hno hs hv hq hstep hkey hset hok hb
      rcases bn with _ | _
      · obtain rfl : r = false := by rw [HR.out]; exact HNO.out (G1.out rfl)
        go_wp2_with (first
          | (go_at_call 44
             refine (HNM.out _).mono ?_
             rintro e w1 ⟨rfl, hb1⟩
             rw [esz] at hb1
             obtain ⟨y0, y1, y2, y3, y4⟩ := HQ.out w1 hb1
             have HY2 := Lib.hid y2
             have HY3 := Lib.hid y3
             have HY4 := Lib.hid y4
             clear hb1 y2 y3 y4))
        go_ret
        exact ⟨rfl, HY2.out⟩
      by_cases hvs : 1024 < v.size
      · obtain rfl : r = false := by rw [HR.out]; exact HNO.out (G2.out (by omega))
        have e1 : decide (1024 < (v.size : Int)) = true := by simp; omega
        go_wp2_with (first
          | (go_at_call 44
             refine (HNM.out _).mono ?_
             rintro e w1 ⟨rfl, hb1⟩
             rw [esz] at hb1
             obtain ⟨y0, y1, y2, y3, y4⟩ := HQ.out w1 hb1
             have HY2 := Lib.hid y2
             have HY3 := Lib.hid y3
             have HY4 := Lib.hid y4
             clear hb1 y2 y3 y4))
        go_ret
        exact ⟨rfl, HY2.out⟩
      have e1 : decide (1024 < (v.size : Int)) = false := by simp; omega
      by_cases htw : ∃ (j : Nat) (h : j < ps.length), j < k ∧ ps[j].n = s
      · have htw2 : ∃ (j : Nat) (h : j < ps.length), j < k ∧ Value.string s = .string ps[j].n := by
          obtain ⟨j, h1, h2, h3⟩ := htw
          exact ⟨j, h1, h2, by rw [h3]⟩
        obtain rfl : r = false := by
          obtain ⟨j, h1, h2, h3⟩ := htw
          rw [HR.out]; exact HNO.out (G3.out j h2 h3)
        have HT := Lib.hid htw2
        clear htw htw2
        go_wp2_with (first
            | (go_at_call 44
               refine (HNM.out _).mono ?_
               rintro e w1 ⟨rfl, hb1⟩
               rw [esz] at hb1
               obtain ⟨y0, y1, y2, y3, y4⟩ := HQ.out w1 hb1
               have HY2 := Lib.hid y2
               have HY3 := Lib.hid y3
               have HY4 := Lib.hid y4
               obtain ⟨cc, hrun, hcc⟩ := y3.look (Go.Maps.string_keyed Tryz.underlying9) Tryz.underlying130 Tryz.underlying4 (by kernel_rfl) HKEY.out
               obtain rfl : cc = true := hcc.2 HT.out
               clear hb1 y2 y3 y4 hcc))
        go_ret
        exact ⟨rfl, HY2.out⟩
      have htw2 : ¬ ∃ (j : Nat) (h : j < ps.length), j < k ∧ Value.string s = .string ps[j].n := by
        rintro ⟨j, h1, h2, h3⟩
        injection h3 with h3
        exact htw ⟨j, h1, h2, h3.symm⟩
      have hkok : propOkB ps k = true := G4.out (by trivial) (by omega) (fun j h hj e => htw ⟨j, h, hj, e⟩)
      have hok2 : ∀ i, i < k + 1 → propOkB ps i = true := fun i hi => by
        rcases (show i < k ∨ i = k by omega) with h2 | rfl
        · exact HOK.out i h2
        · exact hkok
      have HOK2 := Lib.hid hok2
      have HT := Lib.hid htw2
      clear htw htw2 hkok hok2
      go_wp2_with (first
          | (go_at_call 44
             refine (HNM.out _).mono ?_
             rintro e w1 ⟨rfl, hb1⟩
             rw [esz] at hb1
             obtain ⟨y0, y1, y2, y3, y4⟩ := HQ.out w1 hb1
             have HY2 := Lib.hid y2
             have HY3 := Lib.hid y3
             have HY4 := Lib.hid y4
             obtain ⟨cc, hrun, hcc⟩ := y3.look (Go.Maps.string_keyed Tryz.underlying9) Tryz.underlying130 Tryz.underlying4 (by kernel_rfl) HKEY.out
             obtain rfl : cc = false := by rw [Bool.eq_false_iff]; exact fun h => HT.out (hcc.1 h)
             clear hb1 y2 y3 y4 hcc)
          | (at_mapUpdate; refine wpList_add_set _ rfl (.tmp 32) (.tmp 34) (.const (.bool true)) 130 rfl 9 4 (Go.Maps.string_keyed Tryz.underlying9) Tryz.underlying130 Tryz.underlying4 w.heap.size k _ rfl HY3.out (by unfold maxLen; omega) _ _ rfl rfl HKEY.out ?_; intro w3 hset3 hg3))
      have hset4 := hset3.congr HST.out
      have hb4 := HY2.out.grown hg3 HY4.out (fun g hg => by injection hg; omega)
      have HSET4 := Lib.hid hset4
      have HB4 := Lib.hid hb4
      clear hset3 hg3 hset4 hb4
      go_wp2_with fail
      exact ⟨⟨k + 1, by omega, by go_num, HOK2.out, HSET4.out, HB4.out⟩, by simp [intOf]; omega⟩
    · obtain rfl : k = n := by omega
      obtain rfl : r = true := by rw [HR.out]; exact props_yes (by rw [← HN.out]; omega) (fun i hi => HOK.out i (by rw [HN.out]; exact hi))
      clear hset hok hb
      go_wp2
      go_ret
      exact ⟨rfl, HB.out⟩
end Go.Proofs.YtmdnbajbfnhecaaGreatDoor
