/- The program's fits: the contract. -/
import Derived.Test.YtiheibcookcbdaaFitLaw
import Derived.Test.YtiheibcookcbdaaNoFit
set_option linter.unusedVariables false
namespace Go.Proofs.Ytiheibcookcbdaa
open Go.RowKit
set_option maxRecDepth 100000 in
set_option maxHeartbeats 16000000 in
theorem cfits_any (A : Option Addr) (cap n : Nat) (l : List Cd) (hn : n = l.length) (hz : CSized l) (A' : Option Addr) (cap' m : Nat) (ts : List ByteArray) (hm : m = ts.length) (hml : m ≤ 8796093022208) (w : World) (B : Nat) (hB : B ≤ w.heap.size) (hs : Cards w B A l) (ht : Seg w B A' (strs ts)) :
    Calls Try.prog 15 #[.slice A n cap, .slice A' m cap'] w fun e w' => e = .returned (.agg #[.int .i64 (fitsF (cdat l) ts).1, .int .i64 (fitsF (cdat l) ts).2]) ∧ Below w.heap.size w w' := by
  have hl : n ≤ 1466015503701 := by have := hz.n; omega
  have hyes := fun (k : Nat) (hk : k < ts.length) => from_yes (l := cdat l) (ts := ts) hk
  have hno := fun (k : Nat) (hk : k < ts.length) => from_no (l := cdat l) (ts := ts) hk
  have hend := fun (k : Nat) (hk : ts.length ≤ k) => from_end (l := cdat l) (ts := ts) hk
  rw [cdat_len, ← hn] at hyes hno
  have hb0 : Below (w.heap.size + 1) (w.alloc (.cells #[.int .i64 0, .int .i64 0] 30)) (w.alloc (.cells #[.int .i64 0, .int .i64 0] 30)) := Below.refl _ _
  have hbx := fun w1 (hb : Below (w.heap.size + 1) (w.alloc (.cells #[.int .i64 0, .int .i64 0] 30)) w1) => (((Below.refl w.heap.size w).alloc (Nat.le_refl _) (.cells #[.int .i64 0, .int .i64 0] 30)).trans (hb.mono (Nat.le_succ _)))
  have hrw := fun w1 (hb : Below (w.heap.size + 1) (w.alloc (.cells #[.int .i64 0, .int .i64 0] 30)) w1) => (RowAt.keep (w := w.alloc (.cells #[.int .i64 0, .int .i64 0] 30)) (g := w.heap.size) (e := 30) (xs := [.int .i64 0, .int .i64 0]) ⟨_, heap_alloc_new _ _, rfl⟩ (hb.block _ (Nat.lt_succ_self _)))
  have hsz := fun w1 (hb : Below (w.heap.size + 1) (w.alloc (.cells #[.int .i64 0, .int .i64 0] 30)) w1) => (show w.heap.size + 1 ≤ w1.heap.size by have := hb.size; simp at this; omega)
  have HSZ := Lib.hid hsz
  have HN := Lib.hid hn
  have HM := Lib.hid hm
  have HS := Lib.hid hs
  have HT := Lib.hid ht
  have HZ := Lib.hid hz
  have HYES := Lib.hid hyes
  have HNO := Lib.hid hno
  have HEND := Lib.hid hend
  have HB0 := Lib.hid hb0
  have HBX := Lib.hid hbx
  have HRW := Lib.hid hrw
  have HF0 : Hid (fitsF (cdat l) ts = fitsFrom (cdat l) 0 (ts.drop 0)) := Lib.hid rfl
  generalize fitsF (cdat l) ts = R at *
  clear hn hm hs ht hz hyes hno hend hb0 hbx hrw hsz
  go_enter Try.func15, Try.ntmps15
  go_wp2_with fail
  go_loopw [12] (fun iv wr => ∃ j : Nat, j ≤ m ∧ iv = .int .i64 j ∧ R = fitsFrom (cdat l) j (ts.drop j) ∧ Below (w.heap.size + 1) (w.alloc (.cells #[.int .i64 0, .int .i64 0] 30)) wr) (fun iv _ => m - (intOf iv).toNat)
  case atStart => exact ⟨0, by omega, rfl, HF0.out, HB0.out⟩
  case round =>
    obtain ⟨j, hj, rfl, hR, hb⟩ := hrel
    have HR := Lib.hid hR
    have HB1 := Lib.hid hb
    clear hR hb HF0 HB0
    by_cases hlt : j < m
    · have hjl : j < ts.length := by rw [← HM.out]; exact hlt
      have hji : (j : Int) < (m : Int) := by omega
      obtain ⟨tb, to_, rfl, htB, t0⟩ := (HT.out.below ((HBX.out _ HB1.out).mono hB)).strs hjl
      have hy := HYES.out j hjl
      have hn := HNO.out j hjl
      obtain ⟨t, htt⟩ : ∃ t, t = ts[j] := ⟨_, rfl⟩
      rw [← htt] at t0 hy hn
      have HY := Lib.hid hy
      have HNN := Lib.hid hn
      clear hy hn htt
      obtain ⟨wo, rfl⟩ : ∃ wo : World, wo = wr := ⟨_, rfl⟩
      go_wp2_with fail
      go_loopw [19, 7] (fun kv bv wx => ∃ k : Nat, k ≤ n ∧ kv = .int .i64 k ∧ bv = .int .i64 (bestF (cdat l) t k) ∧ Below (w.heap.size + 1) (w.alloc (.cells #[.int .i64 0, .int .i64 0] 30)) wx) (fun kv _ _ => n - (intOf kv).toNat)
      case atStart => exact ⟨0, by omega, rfl, by rfl, HB1.out⟩
      case round =>
        obtain ⟨k, hk, rfl, rfl, hb2⟩ := hrel
        have HB2 := Lib.hid hb2
        clear hb2 t0
        by_cases hkn : k < n
        · skip
          have hkl : k < l.length := by rw [← HN.out]; exact hkn
          have hkll : k < (cdat l).length := by rw [cdat_len]; exact hkl
          have hkii : (k : Int) < (n : Int) := by omega
          have hbd := best_bd (cdat l) t k
          have hbn := best_no (l := cdat l) (t := t) hkll
          have hbf := best_first (l := cdat l) (t := t) hkll
          have hbo := fun (i : Nat) (hi : i < l.length) => best_on (l := cdat l) (t := t) (j := i) hkll (by rw [cdat_len]; exact hi)
          rw [cdat_get l hkl] at hbn hbf
          have hbo2 : ∀ (i : Nat) (hi : i < l.length), hasB l[k].d.ts t = true → bestF (cdat l) t k = (i : Int) → bestF (cdat l) t (k + 1) = if betterB l[k].d.sc l[i].d.sc l[k].d.nm l[i].d.nm then (k : Int) else (i : Int) := fun i hi => by
            have := hbo i hi
            rw [cdat_get l hkl, cdat_get l hi] at this
            exact this
          have hcards := HS.out.below (HBX.out _ HB2.out |>.mono hB)
          obtain ⟨b, off, rfl, hbB, x0, x1, x2, x3, x4, x5, x6, hseg⟩ := hcards.at_ hkl
          have hfit := HZ.out.tn _ (List.getElem_mem hkl)
          have hsev := fun (i : Nat) (hi : i < l.length) => hcards.seven rfl hi
          obtain ⟨bst, hbst⟩ : ∃ bst, bst = bestF (cdat l) t k := ⟨_, rfl⟩
          obtain ⟨nxt, hnxt⟩ : ∃ nxt, nxt = bestF (cdat l) t (k + 1) := ⟨_, rfl⟩
          rw [← hbst] at hbd hbn hbf hbo2 ⊢
          rw [← hnxt] at hbn hbf hbo2
          obtain ⟨x, hx⟩ : ∃ x, x = l[k] := ⟨_, rfl⟩
          simp only [← hx] at x0 x1 x2 x3 x4 x5 x6 hseg hfit hbn hbf hbo2
          obtain ⟨⟨nm, fam, lv, xs, sc, qk, en⟩, xA, xc⟩ := x
          simp only at x0 x1 x2 x3 x4 x5 x6 hseg hfit hbn hbf hbo2
          obtain ⟨q, hq⟩ : ∃ q, q = xs.length := ⟨_, rfl⟩
          rw [← hq] at x3 hfit
          have hb1 : b < wr.heap.size := by have := (HBX.out _ HB2.out).size; omega
          have HNXT := Lib.hid hnxt
          have HQ := Lib.hid hq
          have HSG := Lib.hid hseg
          have HBN := Lib.hid hbn
          have HBF := Lib.hid hbf
          have HBO := Lib.hid hbo2
          have HSEV := Lib.hid hsev
          have hb1' : (0 : Int) ≤ (k : Int) := by omega
          clear hx hbst hnxt hq hseg hbn hbf hbo hbo2 hsev hcards hkll
          have hct := fun w1 (hs1 : Seg w1 B xA (strs xs)) => contains_str xA xc xs q HQ.out (by omega) t w1 B hs1
          have HCT := Lib.hid hct
          clear hct
          generalize hasB xs t = has at *
          rcases has with _ | _
          · have hnx := HBN.out rfl
            subst hnx
            go_wp2_with fail
            go_quiet ((go_at_call 23; exact Calls.quiet_of_same (turn_same (HCT.out _ ((HSG.out.alloc (Nat.le_trans hB (HBX.out _ HB2.out).size) _).drewN _)))))
            go_wp2_with fail
            exact ⟨⟨k + 1, by omega, by go_num, by rw [← HNXT.out], below_drewN (HB2.out.alloc (by have := (HB2.out).size; simp at this; omega) _) _⟩, by simp [intOf]; omega⟩
          by_cases hneg : bst < 0
          · have hnx := HBF.out rfl hneg
            subst hnx
            have e1 : decide (bst < 0) = true := by simp; omega
            go_wp2_with fail
            go_quiet ((go_at_call 23; exact Calls.quiet_of_same (turn_same (HCT.out _ ((HSG.out.alloc (Nat.le_trans hB (HBX.out _ HB2.out).size) _).drewN _)))))
            go_wp2_with fail
            exact ⟨⟨k + 1, by omega, by go_num, by rw [← HNXT.out], below_drewN (HB2.out.alloc (by have := (HB2.out).size; simp at this; omega) _) _⟩, by simp [intOf]; omega⟩
          obtain ⟨i, rfl⟩ : ∃ i : Nat, bst = (i : Int) := ⟨bst.toNat, by omega⟩
          have hil : i < l.length := by rw [← HN.out]; omega
          have hii : (i : Int) < (n : Int) := by omega
          have hnx := HBO.out i hil rfl rfl
          obtain ⟨_, v0, v1, v2, v3, v4, v5, v6⟩ := HSEV.out i hil
          obtain ⟨y, hy⟩ : ∃ y, y = l[i] := ⟨_, rfl⟩
          simp only [← hy] at v0 v1 v2 v3 v4 v5 v6 hnx
          obtain ⟨⟨nm', fam', lv', ys, sc', qk', en'⟩, yA, yc⟩ := y
          simp only at v0 v1 v2 v3 v4 v5 v6 hnx
          obtain ⟨q', hq'⟩ : ∃ q', q' = ys.length := ⟨_, rfl⟩
          rw [← hq'] at v3
          clear hq' hy
          have hbt := fun w1 => better_any (.string nm) (.string fam) (.int .u8 (lv : Int)) (.slice xA q xc) (.string qk) (.int .i16 en) (.string fam') (.int .u8 (lv' : Int)) (.slice yA q' yc) (.string qk') (.int .i16 en') nm nm' sc sc' w1
          have HBT := Lib.hid hbt
          clear hbt
          generalize betterB sc sc' nm nm' = bet at *
          have e1 : decide ((i : Int) < 0) = false := by simp
          have HBW : Hid (Below (w.heap.size + 1) (w.alloc (.cells #[.int .i64 0, .int .i64 0] 30)) (wr.alloc (.cells #[.string nm, .string fam, .int .u8 (lv : Int), .slice xA q xc, .int .i8 sc, .string qk, .int .i16 en] 37))) := Lib.hid (HB2.out.alloc (by have := (HB2.out).size; simp at this; omega) _)
          have hk2 : ∀ j u, wr.cell? ⟨b, j, none⟩ = some u → (wr.alloc (.cells #[.string nm, .string fam, .int .u8 (lv : Int), .slice xA q xc, .int .i8 sc, .string qk, .int .i16 en] 37)).cell? ⟨b, j, none⟩ = some u := fun j u h => (World.cell?_alloc_lt _ _ _ hb1).trans h
          have u0 := hk2 _ _ v0
          have u1 := hk2 _ _ v1
          have u2 := hk2 _ _ v2
          have u3 := hk2 _ _ v3
          have u4 := hk2 _ _ v4
          have u5 := hk2 _ _ v5
          have u6 := hk2 _ _ v6
          clear hk2 v0 v1 v2 v3 v4 v5 v6
          have hbk : ∀ j u, #[(.string nm : Value), (.string fam : Value), (.int .u8 (lv : Int) : Value), (.slice xA q xc : Value), (.int .i8 sc : Value), (.string qk : Value), (.int .i16 en : Value)][j]? = some u → (wr.alloc (.cells #[.string nm, .string fam, .int .u8 (lv : Int), .slice xA q xc, .int .i8 sc, .string qk, .int .i16 en] 37)).cell? ⟨wr.heap.size, j, none⟩ = some u := fun j u h => by rw [cell_of_row _ _ _ _ _ (0, 0) (heap_alloc_new wr _)]; exact h
          have b0 := hbk 0 _ rfl
          have b1 := hbk 1 _ rfl
          have b2 := hbk 2 _ rfl
          have b3 := hbk 3 _ rfl
          have b4 := hbk 4 _ rfl
          have b5 := hbk 5 _ rfl
          have b6 := hbk 6 _ rfl
          have hkp : ∀ w5, Below (wr.alloc (.cells #[.string nm, .string fam, .int .u8 (lv : Int), .slice xA q xc, .int .i8 sc, .string qk, .int .i16 en] 37)).drew.heap.size (wr.alloc (.cells #[.string nm, .string fam, .int .u8 (lv : Int), .slice xA q xc, .int .i8 sc, .string qk, .int .i16 en] 37)).drew w5 → w5.cell? ⟨wr.heap.size, 0, none⟩ = some (.string nm) ∧ w5.cell? ⟨wr.heap.size, 1, none⟩ = some (.string fam) ∧ w5.cell? ⟨wr.heap.size, 2, none⟩ = some (.int .u8 (lv : Int)) ∧ w5.cell? ⟨wr.heap.size, 3, none⟩ = some (.slice xA q xc) ∧ w5.cell? ⟨wr.heap.size, 4, none⟩ = some (.int .i8 sc) ∧ w5.cell? ⟨wr.heap.size, 5, none⟩ = some (.string qk) ∧ w5.cell? ⟨wr.heap.size, 6, none⟩ = some (.int .i16 en) ∧ w5.cell? ⟨b, off + i * 7, none⟩ = some (.string nm') ∧ w5.cell? ⟨b, off + i * 7 + 1, none⟩ = some (.string fam') ∧ w5.cell? ⟨b, off + i * 7 + 2, none⟩ = some (.int .u8 (lv' : Int)) ∧ w5.cell? ⟨b, off + i * 7 + 3, none⟩ = some (.slice yA q' yc) ∧ w5.cell? ⟨b, off + i * 7 + 4, none⟩ = some (.int .i8 sc') ∧ w5.cell? ⟨b, off + i * 7 + 5, none⟩ = some (.string qk') ∧ w5.cell? ⟨b, off + i * 7 + 6, none⟩ = some (.int .i16 en') := fun w5 h5 => by
            have hs1 : wr.heap.size < (wr.alloc (.cells #[.string nm, .string fam, .int .u8 (lv : Int), .slice xA q xc, .int .i8 sc, .string qk, .int .i16 en] 37)).drew.heap.size := by show wr.heap.size < (wr.alloc (.cells _ 37)).heap.size; simp
            have hs2 : b < (wr.alloc (.cells #[.string nm, .string fam, .int .u8 (lv : Int), .slice xA q xc, .int .i8 sc, .string qk, .int .i16 en] 37)).drew.heap.size := Nat.lt_trans hb1 hs1
            exact ⟨(h5.cell (p := ⟨wr.heap.size, 0, none⟩) hs1).trans b0, (h5.cell (p := ⟨wr.heap.size, 1, none⟩) hs1).trans b1, (h5.cell (p := ⟨wr.heap.size, 2, none⟩) hs1).trans b2, (h5.cell (p := ⟨wr.heap.size, 3, none⟩) hs1).trans b3, (h5.cell (p := ⟨wr.heap.size, 4, none⟩) hs1).trans b4, (h5.cell (p := ⟨wr.heap.size, 5, none⟩) hs1).trans b5, (h5.cell (p := ⟨wr.heap.size, 6, none⟩) hs1).trans b6, (h5.cell (p := ⟨b, off + i * 7, none⟩) hs2).trans u0, (h5.cell (p := ⟨b, off + i * 7 + 1, none⟩) hs2).trans u1, (h5.cell (p := ⟨b, off + i * 7 + 2, none⟩) hs2).trans u2, (h5.cell (p := ⟨b, off + i * 7 + 3, none⟩) hs2).trans u3, (h5.cell (p := ⟨b, off + i * 7 + 4, none⟩) hs2).trans u4, (h5.cell (p := ⟨b, off + i * 7 + 5, none⟩) hs2).trans u5, (h5.cell (p := ⟨b, off + i * 7 + 6, none⟩) hs2).trans u6⟩
          have HKP := Lib.hid hkp
          clear hbk hkp
          rcases bet with _ | _
          all_goals
            simp only [if_true, Bool.false_eq_true, if_false] at hnx
            subst hnx
            go_wp2_with fail
            go_region_held3 (fun W => W.cell? ⟨wr.heap.size, 0, none⟩ = some (.string nm) ∧ W.cell? ⟨wr.heap.size, 1, none⟩ = some (.string fam) ∧ W.cell? ⟨wr.heap.size, 2, none⟩ = some (.int .u8 (lv : Int)) ∧ W.cell? ⟨wr.heap.size, 3, none⟩ = some (.slice xA q xc) ∧ W.cell? ⟨wr.heap.size, 4, none⟩ = some (.int .i8 sc) ∧ W.cell? ⟨wr.heap.size, 5, none⟩ = some (.string qk) ∧ W.cell? ⟨wr.heap.size, 6, none⟩ = some (.int .i16 en) ∧ W.cell? ⟨b, off + i * 7, none⟩ = some (.string nm') ∧ W.cell? ⟨b, off + i * 7 + 1, none⟩ = some (.string fam') ∧ W.cell? ⟨b, off + i * 7 + 2, none⟩ = some (.int .u8 (lv' : Int)) ∧ W.cell? ⟨b, off + i * 7 + 3, none⟩ = some (.slice yA q' yc) ∧ W.cell? ⟨b, off + i * 7 + 4, none⟩ = some (.int .i8 sc') ∧ W.cell? ⟨b, off + i * 7 + 5, none⟩ = some (.string qk') ∧ W.cell? ⟨b, off + i * 7 + 6, none⟩ = some (.int .i16 en')) (first | exact ⟨b0, b1, b2, b3, b4, b5, b6, u0, u1, u2, u3, u4, u5, u6⟩ | exact HSW.out) (first
              | (go_at_call 23; refine (HCT.out _ ((HSG.out.alloc (Nat.le_trans hB (HBX.out _ HB2.out).size) _).drew)).mono ?_; rintro e w4 ⟨rfl, rfl⟩)
              | (go_at_call 24; refine (HBT.out _).mono ?_; rintro e w5 ⟨rfl, hb5⟩
                 have hsw := HKP.out w5 hb5
                 have HSW := Lib.hid hsw
                 have HB5 := Lib.hid (HBW.out.drew.trans (hb5.mono (HSZ.out _ HBW.out.drew)))
                 clear hb5 hsw)
              | fail)
            go_wp2_with fail
            exact ⟨⟨k + 1, by omega, by go_num, by rw [← HNXT.out], HB5.out⟩, by simp [intOf]; omega⟩
        · obtain rfl : k = n := by omega
          obtain ⟨bst, hbst⟩ : ∃ bst, bst = bestF (cdat l) t k := ⟨_, rfl⟩
          have hbd := best_bd (cdat l) t k
          have hy := HY.out
          have hn := HNN.out
          rw [← hbst] at hbd hy hn ⊢
          clear hbst
          by_cases hge : 0 ≤ bst
          · have hRR := HR.out.trans (hy hge)
            subst hRR
            have e1 : decide (0 ≤ bst) = true := by simp; omega
            clear hy hn
            have hr3 := HRW.out _ HB2.out
            have c0 := hr3.cell (k := 0) (by simp)
            have c1 := hr3.cell (k := 1) (by simp)
            have f0 := hr3.frozen 0
            have f1 := hr3.frozen 1
            simp only [List.getElem?_cons_succ, List.getElem?_cons_zero] at c0 c1
            have hr4 := (hr3.store 0 (.int .i64 bst)).store 1 (.int .i64 j)
            have d0 := hr4.cell (k := 0) (by simp)
            have d1 := hr4.cell (k := 1) (by simp)
            simp only [List.set_cons_zero, List.set_cons_succ, List.getElem?_cons_succ, List.getElem?_cons_zero] at d0 d1
            clear hr3 hr4
            go_wp2_with fail
            exact bodyPost_ret (v := .agg #[.int .i64 bst, .int .i64 (j : Int)]) (by simp [results, Try.results15, go_sem, d0, d1]) rfl ⟨rfl, ((HBX.out _ HB2.out).setCell (Nat.le_refl _) _).setCell (Nat.le_refl _) _⟩
          · have hRR := HR.out.trans (hn (by omega))
            have e1 : decide (0 ≤ bst) = false := by simp; omega
            have HRR := Lib.hid hRR
            clear hy hn hRR
            go_wp2_with fail
            exact ⟨⟨j + 1, by omega, by go_num, HRR.out, HB2.out⟩, by simp [intOf]; omega⟩
    · obtain rfl : j = m := by omega
      have hRR := HR.out.trans (HEND.out j (by rw [HM.out]; exact Nat.le_refl _))
      subst hRR
      go_wp2_with (go_at_call 16; refine (none_any _).mono ?_; rintro e w3 ⟨rfl, hb3⟩
                   have HB3 := Lib.hid (HB1.out.trans (hb3.mono (HSZ.out _ HB1.out)))
                   have hr3 := HRW.out _ HB3.out
                   have c0 := hr3.cell (k := 0) (by simp)
                   have c1 := hr3.cell (k := 1) (by simp)
                   have f0 := hr3.frozen 0
                   have f1 := hr3.frozen 1
                   simp only [List.getElem?_cons_succ, List.getElem?_cons_zero] at c0 c1
                   have HR3 := Lib.hid hr3
                   clear hb3 hr3)
      have hr4 := (HR3.out.store 0 (.int .i64 (-1))).store 1 (.int .i64 0)
      have d0 := hr4.cell (k := 0) (by simp)
      have d1 := hr4.cell (k := 1) (by simp)
      simp only [List.set_cons_zero, List.set_cons_succ, List.getElem?_cons_succ, List.getElem?_cons_zero] at d0 d1
      exact bodyPost_ret (v := .agg #[.int .i64 (-1), .int .i64 0]) (by simp [results, Try.results15, go_sem, d0, d1]) rfl ⟨rfl, ((HBX.out _ HB3.out).setCell (Nat.le_refl _) _).setCell (Nat.le_refl _) _⟩
end Go.Proofs.Ytiheibcookcbdaa
