/- The program's Check: the contract. -/
import Derived.Test.YtiheibcookcbdaaDoorRCheck
import Derived.Test.YtiheibcookcbdaaDoorSets
set_option linter.unusedVariables false
namespace Go.Proofs.YtiheibcookcbdaaDoor
open Go.RowKit
set_option maxRecDepth 100000 in
set_option maxHeartbeats 8000000 in
theorem ccheck_any (A : Option Addr) (cap n : Nat) (l : List Cd) (hn : n = l.length) (hz : CSized l) (w : World) (B : Nat) (hB : B ≤ w.heap.size) (hs : Cards w B A l) :
    Calls Tryd.prog 26 #[.slice A n cap] w fun e w' => ChkRet (allOk (cdat l)) e ∧ Below w.heap.size w w' := by
  have hl : n ≤ 1466015503701 := by have := hz.n; omega
  have hno : ∀ (i : Nat) (h : i < l.length), ¬ (i < 64 ∧ mayB l[i].d = true ∧ namedB (cdat (l.take i)) l[i].d.nm = false) → allOk (cdat l) = false := fun i h hh =>
    ok_no (i := i) (by rw [cdat_len]; exact h) (by rw [cdat_get l h, ← cdat_take]; exact hh)
  have hyes : (∀ (i : Nat) (h : i < l.length), i < 64 ∧ mayB l[i].d = true ∧ namedB (cdat (l.take i)) l[i].d.nm = false) → allOk (cdat l) = true := fun h =>
    ok_iff.2 fun i hi => by
      have hi2 : i < l.length := by rw [← cdat_len]; exact hi
      have := h i hi2
      rw [cdat_get l hi2, ← cdat_take]; exact this
  obtain ⟨r, hr⟩ : ∃ r, r = allOk (cdat l) := ⟨_, rfl⟩
  rw [← hr] at hyes ⊢
  simp only [← hr] at hno
  have HN := Lib.hid hn
  have HS := Lib.hid hs
  have HZ := Lib.hid hz
  have HNO := Lib.hid hno
  have HYES := Lib.hid hyes
  clear hn hs hz hno hyes hr
  have hmm := @run_makeMap Tryd.prog
  go_enter Tryd.func26, Tryd.ntmps26
  go_wp2_with fail
  have hset0 : SetAt Tryd.prog 9 4 (w.alloc (.map #[] 0)) w.heap.size 0 (fun v => ∃ (j : Nat) (h : j < l.length), j < 0 ∧ v = .string l[j].d.nm) := (set_made w Tryd.prog 9 4).congr fun v => ⟨False.elim, fun ⟨j, _, h, _⟩ => absurd h (Nat.not_lt_zero j)⟩
  have HSET0 := Lib.hid hset0
  clear hset0
  go_loopw [10] (fun iv wr => ∃ k : Nat, k ≤ n ∧ iv = .int .i64 k ∧ (∀ (i : Nat) (h : i < l.length), i < k → i < 64 ∧ mayB l[i].d = true ∧ namedB (cdat (l.take i)) l[i].d.nm = false) ∧ SetAt Tryd.prog 9 4 wr w.heap.size k (fun v => ∃ (j : Nat) (h : j < l.length), j < k ∧ v = .string l[j].d.nm) ∧ Below w.heap.size w wr) (fun iv _ => n - (intOf iv).toNat)
  case atStart => exact ⟨0, by omega, rfl, fun i _ h => by omega, HSET0.out, (Below.refl _ _).alloc (Nat.le_refl _) _⟩
  case round =>
    obtain ⟨k, hk, rfl, hok, hset, hb⟩ := hrel
    have HOK := Lib.hid hok
    have HB := Lib.hid hb
    clear hok hb
    by_cases hlt : k < n
    · have hkl : k < l.length := by rw [← HN.out]; exact hlt
      have hki : (k : Int) < (n : Int) := by omega
      have hnok := HNO.out k hkl
      obtain ⟨b, off, rfl, hbB, x0, x1, x2, x3, x4, x5, x6, hseg⟩ := (HS.out.below (HB.out.mono hB)).at_ hkl
      have hwlt : w.heap.size < wr.heap.size := hset.lt
      by_cases h64 : 64 ≤ k
      · obtain rfl : r = false := hnok fun h => by omega
        have HNOK := Lib.hid hnok
        clear hnok hset
        have e1 : decide ((64 : Int) ≤ (k : Int)) = true := by simp; omega
        go_wp2_with fail
        go_ret2
        exact ⟨⟨k, rfl⟩, HB.out.alloc (by omega) _⟩
      have e1 : decide ((64 : Int) ≤ (k : Int)) = false := by simp; omega
      have hfit := HZ.out.fits _ (List.getElem_mem hkl)
      have hcp := HS.out.cap _ (List.getElem_mem hkl)
      have hmay := cmay_any l[k].d.nm l[k].d.fam l[k].d.qk l[k].d.lv l[k].d.sc l[k].d.en l[k].A l[k].d.ts.length l[k].c l[k].d.ts rfl hcp hfit (wr.alloc (.cells #[.string l[k].d.nm, .string l[k].d.fam, .int .u8 (l[k].d.lv : Int), .slice l[k].A l[k].d.ts.length l[k].c, .int .i8 l[k].d.sc, .string l[k].d.qk, .int .i16 l[k].d.en] 26)) B (by simp; have := HB.out.size; omega) (hseg.alloc (Nat.le_trans hB HB.out.size) _)
      have hgo : mayB l[k].d = true → namedB (cdat (l.take k)) l[k].d.nm = false → ∀ (i : Nat) (h : i < l.length), i < k + 1 → i < 64 ∧ mayB l[i].d = true ∧ namedB (cdat (l.take i)) l[i].d.nm = false := fun h1 h2 i hi hik => by
        rcases (show i < k ∨ i = k by omega) with h | rfl
        · exact HOK.out i hi h
        · exact ⟨by omega, h1, h2⟩
      have hstep : ∀ v : Value, (v = .string l[k].d.nm ∨ ∃ (j : Nat) (h : j < l.length), j < k ∧ v = .string l[j].d.nm) ↔ ∃ (j : Nat) (h : j < l.length), j < k + 1 ∧ v = .string l[j].d.nm := fun v => by
        constructor
        · rintro (h | ⟨j, h1, h2, h3⟩)
          · exact ⟨k, hkl, by omega, h⟩
          · exact ⟨j, h1, by omega, h3⟩
        · rintro ⟨j, h1, h2, h3⟩
          rcases (show j < k ∨ j = k by omega) with h4 | rfl
          · exact .inr ⟨j, h1, h4, h3⟩
          · exact .inl h3
      have hkey : keyOf Tryd.prog 9 (.string l[k].d.nm) = some (.string l[k].d.nm.data.toList) := Go.WideMaps.keyOf_string_mk Tryd.underlying9 hfit.nm
      have htwin : namedB (cdat (l.take k)) l[k].d.nm = true ↔ ∃ (j : Nat) (h : j < l.length), j < k ∧ Value.string l[k].d.nm = .string l[j].d.nm := by
        rw [named_iff]
        constructor
        · rintro ⟨j, hj, e⟩
          have hj2 : j < (l.take k).length := by rw [← cdat_len]; exact hj
          rw [cdat_get _ hj2] at e
          simp at hj2
          refine ⟨j, by omega, by omega, ?_⟩
          rw [← e]; simp
        · rintro ⟨j, hj, hjk, e⟩
          have hj2 : j < (l.take k).length := by simp; omega
          refine ⟨j, by rw [cdat_len]; exact hj2, ?_⟩
          rw [cdat_get _ hj2]
          injection e with e
          rw [e]; simp
      have hmm2 : mayB l[k].d = mayB ⟨l[k].d.nm, l[k].d.fam, l[k].d.lv, l[k].d.ts, l[k].d.sc, l[k].d.qk, l[k].d.en⟩ := rfl
      rw [← hmm2] at hmay
      generalize mayB l[k].d = bm at *
      generalize namedB (cdat (l.take k)) l[k].d.nm = bn at *
      obtain ⟨x, hx⟩ : ∃ x, x = l[k] := ⟨_, rfl⟩
      simp only [← hx] at x0 x1 x2 x3 x4 x5 x6 hmay hstep hkey htwin
      obtain ⟨⟨nm, fam, lv, ts, sc, qk, en⟩, xA, xc⟩ := x
      simp only at x0 x1 x2 x3 x4 x5 x6 hmay hstep hkey htwin
      obtain ⟨m, hm⟩ : ∃ m, m = ts.length := ⟨_, rfl⟩
      rw [← hm] at x3 hmay
      have hq : ∀ w1, Below (wr.heap.size + 1) (wr.alloc (.cells #[.string nm, .string fam, .int .u8 (lv : Int), .slice xA m xc, .int .i8 sc, .string qk, .int .i16 en] 26)) w1 → (w1.cell? ⟨wr.heap.size, 0, none⟩ = some (.string nm)) ∧ Below w.heap.size w w1 ∧ SetAt Tryd.prog 9 4 w1 w.heap.size k (fun v => ∃ (j : Nat) (h : j < l.length), j < k ∧ v = .string l[j].d.nm) ∧ w.heap.size ≤ w1.heap.size := fun w1 h1 => by
        obtain ⟨⟨z0, _⟩, hbw⟩ := box_cells h1
        refine ⟨z0, HB.out.trans (hbw.mono HB.out.size), hset.block ?_, ?_⟩
        · exact hbw.block _ hwlt
        · exact Nat.le_trans HB.out.size hbw.size
      have esz : (wr.alloc (.cells #[.string nm, .string fam, .int .u8 (lv : Int), .slice xA m xc, .int .i8 sc, .string qk, .int .i16 en] 26)).heap.size = wr.heap.size + 1 := by simp
      rw [esz] at hmay
      have HMAY := Lib.hid hmay
      have HGO := Lib.hid hgo
      have HNOK := Lib.hid hnok
      have HQ := Lib.hid hq
      have HST := Lib.hid hstep
      have HKEY := Lib.hid hkey
      have HTW := Lib.hid htwin
      clear hmay hgo hnok hm hmm2 hfit hseg hq hstep hkey htwin hset hcp hx
      rcases bm with _ | _
      · obtain rfl : r = false := HNOK.out fun h => by cases h.2.1
        go_wp2_with (first
          | (go_at_call 33; refine HMAY.out.mono ?_; rintro e w1 ⟨rfl, hb1⟩; obtain ⟨y0, y2, y3, y4⟩ := HQ.out w1 hb1; have HY2 := Lib.hid y2; clear hb1 y2 y3 y4))
        go_ret2
        exact ⟨⟨k, rfl⟩, HY2.out⟩
      rcases bn with _ | _
      · have hgo2 := HGO.out rfl rfl
        have HGO2 := Lib.hid hgo2
        clear hgo2
        go_wp2_with (first
          | (go_at_call 33; refine HMAY.out.mono ?_; rintro e w1 ⟨rfl, hb1⟩; obtain ⟨y0, y2, y3, y4⟩ := HQ.out w1 hb1; have HY2 := Lib.hid y2; have HY3 := Lib.hid y3; have HY4 := Lib.hid y4
             obtain ⟨cc, hrun, hcc⟩ := y3.look (Go.Maps.string_keyed Tryd.underlying9) Tryd.underlying64 Tryd.underlying4 (by kernel_rfl) HKEY.out
             obtain rfl : cc = false := by rw [Bool.eq_false_iff]; exact fun h => by cases HTW.out.2 (hcc.1 h)
             clear hb1 y2 y3 y4 hcc)
          | (at_mapUpdate; refine wpList_add_set _ rfl (.tmp 29) (.tmp 31) (.const (.bool true)) 64 rfl 9 4 (Go.Maps.string_keyed Tryd.underlying9) Tryd.underlying64 Tryd.underlying4 w.heap.size k _ rfl HY3.out (by unfold maxLen; omega) _ _ rfl rfl HKEY.out ?_; intro w3 hset3 hg3))
        have hset4 := hset3.congr HST.out
        have hb4 := HY2.out.grown hg3 HY4.out (fun g hg => by injection hg; omega)
        have HSET4 := Lib.hid hset4
        have HB4 := Lib.hid hb4
        clear hset3 hg3 hset4 hb4
        go_wp2_with fail
        exact ⟨⟨k + 1, by omega, by go_num, HGO2.out, HSET4.out, HB4.out⟩, by simp [intOf]; omega⟩
      · obtain rfl : r = false := HNOK.out fun h => by cases h.2.2
        go_wp2_with (first
          | (go_at_call 33; refine HMAY.out.mono ?_; rintro e w1 ⟨rfl, hb1⟩; obtain ⟨y0, y2, y3, y4⟩ := HQ.out w1 hb1; have HY2 := Lib.hid y2
             obtain ⟨cc, hrun, hcc⟩ := y3.look (Go.Maps.string_keyed Tryd.underlying9) Tryd.underlying64 Tryd.underlying4 (by kernel_rfl) HKEY.out
             obtain rfl : cc = true := hcc.2 (HTW.out.1 rfl)
             clear hb1 y2 y3 y4 hcc))
        go_ret2
        exact ⟨⟨k, rfl⟩, HY2.out⟩
    · obtain rfl : k = n := by omega
      obtain rfl : r = true := HYES.out fun i h => HOK.out i h (by rw [HN.out]; exact h)
      clear hset
      go_wp2_with fail
      go_ret2
      exact ⟨⟨0, rfl⟩, HB.out⟩
end Go.Proofs.YtiheibcookcbdaaDoor
