/- The document's Check: the contract. -/
import Derived.Test.YtiheibcookcbdaaDoorCkLaw
set_option linter.unusedVariables false
namespace Go.Proofs.YtiheibcookcbdaaDoor
open Go.RowKit
/-- An operation whose guard says no may be passed over at once. -/
theorem held_skip {P : Program} {ops : Array Oper} {Q : Exit → Act → World → Prop} {md : Region.Mode} {S : World → Prop} {i d : Nat} {oi : Oper} {fuel : Nat} {listed : Array Bool} {a : Act} {w : World} (hi : ops[i]? = some oi) (hd : oi.dst = some d)
    (hs : Region.noSelect ops = true) (hf : Region.free md ops listed i = true) (hr : (Region.ready md ops listed).contains i = true)
    (hQ : ∀ c a w, Q (.panic c) (a.put (some d) undef) w → Q (.panic c) a w) (hw : Region.wanted oi (yielded ops a.tmps) = false) (hS : S w)
    (h : wpAnyH P md ops Q S fuel (listed.setIfInBounds i true) (a.put (some d) undef) w) : wpAnyH P md ops Q S (fuel + 1) listed a w :=
  wpAnyH_take hi hs hf hr (by rw [hd]; exact hQ) (.inr ⟨hw, rfl⟩) hS (by rw [hd]; exact h)
theorem held_take {P : Program} {ops : Array Oper} {Q : Exit → Act → World → Prop} {md : Region.Mode} {S : World → Prop} {i d : Nat} {oi : Oper} {v : Value} {fuel : Nat} {listed : Array Bool} {a : Act} {w : World} (hi : ops[i]? = some oi) (hd : oi.dst = some d)
    (hs : Region.noSelect ops = true) (hf : Region.free md ops listed i = true) (hr : (Region.ready md ops listed).contains i = true)
    (hQ : ∀ c a w, Q (.panic c) (a.put (some d) v) w → Q (.panic c) a w) (hw : Region.wanted oi (yielded ops a.tmps) = true) (hy : ∀ w, S w → (execOp a.eval oi).run P w = .ok (.value v) w) (hS : S w)
    (h : wpAnyH P md ops Q S fuel (listed.setIfInBounds i true) (a.put (some d) v) w) : wpAnyH P md ops Q S (fuel + 1) listed a w :=
  wpAnyH_take hi hs hf hr (by rw [hd]; exact hQ) (.inl ⟨hw, hy⟩) hS (by rw [hd]; exact h)
set_option maxRecDepth 100000 in
set_option maxHeartbeats 8000000 in
theorem rcheck_any (A : Option Addr) (cap n : Nat) (l : List Cd) (hn : n = l.length) (hcap : n ≤ cap) (hz : CSized l) (w : World) (B : Nat) (hB : B ≤ w.heap.size) (hs : Cards w B A l) :
    Calls Tryd.prog 25 #[.slice A n cap] w fun e w' => ChkRet (allOk (cdat l)) e ∧ Below w.heap.size w w' := by
  have hl : n ≤ 1466015503701 := by have := hz.n; omega
  have hno : ∀ (i : Nat) (h : i < l.length), ¬ (i < 64 ∧ mayB l[i].d = true ∧ namedB (cdat (l.take i)) l[i].d.nm = false) → allOk (cdat l) = false := fun i h hh =>
    ok_no (i := i) (by rw [cdat_len]; exact h) (by rw [cdat_get l h, ← cdat_take]; exact hh)
  have hyes : (∀ (i : Nat) (h : i < l.length), i < 64 ∧ mayB l[i].d = true ∧ namedB (cdat (l.take i)) l[i].d.nm = false) → allOk (cdat l) = true := fun h =>
    ok_iff.2 fun i hi => by
      have hi2 : i < l.length := by rw [← cdat_len]; exact hi
      have := h i hi2
      rw [cdat_get l hi2, ← cdat_take]; exact this
  have hnm : ∀ (k : Nat) (h : k < l.length) (A' : Option Addr) (w1 : World) (nm : ByteArray), A = A' → Below w.heap.size w w1 → Calls Tryd.prog 32 #[.slice A' k cap, .string nm] w1 fun e w' => e = .returned (.bool (namedB (cdat (l.take k)) nm)) ∧ w1 = w' := fun k h A' w1 nm e hb => by
    subst e
    exact named_any A cap k (l.take k) (by simp; omega) (by omega) nm w1 B (by rw [← cd_take]; exact (hs.seg.below (hb.mono hB)).take _)
  obtain ⟨r, hr⟩ : ∃ r, r = allOk (cdat l) := ⟨_, rfl⟩
  rw [← hr] at hyes ⊢
  simp only [← hr] at hno
  have HN := Lib.hid hn
  have HS := Lib.hid hs
  have HZ := Lib.hid hz
  have HNO := Lib.hid hno
  have HYES := Lib.hid hyes
  have HNM := Lib.hid hnm
  clear hn hs hz hno hyes hnm hr
  go_enter Tryd.func25, Tryd.ntmps25
  go_wp2_with fail
  go_loopw [4] (fun iv wr => ∃ k : Nat, k ≤ n ∧ iv = .int .i64 k ∧ (∀ (i : Nat) (h : i < l.length), i < k → i < 64 ∧ mayB l[i].d = true ∧ namedB (cdat (l.take i)) l[i].d.nm = false) ∧ Below w.heap.size w wr) (fun iv _ => n - (intOf iv).toNat)
  case atStart => exact ⟨0, by omega, rfl, fun i _ h => by omega, Below.refl _ _⟩
  case round =>
    obtain ⟨k, hk, rfl, hok, hb⟩ := hrel
    have HOK := Lib.hid hok
    have HB := Lib.hid hb
    clear hok hb
    by_cases hlt : k < n
    · have hkl : k < l.length := by rw [← HN.out]; exact hlt
      have hki : (k : Int) < (n : Int) := by omega
      have hnok := HNO.out k hkl
      by_cases h64 : 64 ≤ k
      · obtain rfl : r = false := hnok fun h => by omega
        have HNOK := Lib.hid hnok
        clear hnok
        have e1 : decide ((64 : Int) ≤ (k : Int)) = true := by simp; omega
        go_wp2_with fail
        go_quiet (fail)
        go_wp2_with fail
        go_ret2
        exact ⟨⟨k, rfl⟩, below_drewN HB.out _⟩
      have e1 : decide ((64 : Int) ≤ (k : Int)) = false := by simp; omega
      obtain ⟨b, off, rfl, hbB, x0, x1, x2, x3, x4, x5, x6, hseg⟩ := (HS.out.below (HB.out.mono hB)).at_ hkl
      have hfit := HZ.out.fits _ (List.getElem_mem hkl)
      have hcp := HS.out.cap _ (List.getElem_mem hkl)
      have hmay := rmay_any l[k].d.nm l[k].d.fam l[k].d.qk l[k].d.lv l[k].d.sc l[k].d.en l[k].A l[k].d.ts.length l[k].c l[k].d.ts rfl hfit wr.drew B (Nat.le_trans hB HB.out.size) hseg
      have hnm := fun w1 hb => HNM.out k hkl _ w1 l[k].d.nm rfl hb
      have hgo : mayB l[k].d = true → namedB (cdat (l.take k)) l[k].d.nm = false → ∀ (i : Nat) (h : i < l.length), i < k + 1 → i < 64 ∧ mayB l[i].d = true ∧ namedB (cdat (l.take i)) l[i].d.nm = false := fun h1 h2 i hi hik => by
        rcases (show i < k ∨ i = k by omega) with h | rfl
        · exact HOK.out i hi h
        · exact ⟨by omega, h1, h2⟩
      have hmm : mayB l[k].d = mayB ⟨l[k].d.nm, l[k].d.fam, l[k].d.lv, l[k].d.ts, l[k].d.sc, l[k].d.qk, l[k].d.en⟩ := rfl
      rw [← hmm] at hmay
      generalize mayB l[k].d = bm at *
      generalize namedB (cdat (l.take k)) l[k].d.nm = bn at *
      generalize l[k] = x at *
      obtain ⟨⟨nm, fam, lv, ts, sc, qk, en⟩, xA, xc⟩ := x
      simp only at x0 x1 x2 x3 x4 x5 x6 hmay hnm hfit hcp
      obtain ⟨m, hm⟩ : ∃ m, m = ts.length := ⟨_, rfl⟩
      rw [← hm] at x3 hmay
      have hw1 : ∀ w1, Below wr.drew.heap.size wr.drew w1 → (w1.cell? ⟨b, off + k * 7, none⟩ = some (.string nm) ∧ w1.cell? ⟨b, off + k * 7 + 1, none⟩ = some (.string fam) ∧ w1.cell? ⟨b, off + k * 7 + 2, none⟩ = some (.int .u8 (lv : Int)) ∧ w1.cell? ⟨b, off + k * 7 + 3, none⟩ = some (.slice xA m xc) ∧ w1.cell? ⟨b, off + k * 7 + 4, none⟩ = some (.int .i8 sc) ∧ w1.cell? ⟨b, off + k * 7 + 5, none⟩ = some (.string qk) ∧ w1.cell? ⟨b, off + k * 7 + 6, none⟩ = some (.int .i16 en)) ∧ Below w.heap.size w w1 := fun w1 h1 => by
        have hb1 : b < wr.drew.heap.size := by have := HB.out.size; show b < wr.heap.size; omega
        exact ⟨⟨(h1.cell (p := ⟨b, off + k * 7, none⟩) hb1).trans x0, (h1.cell (p := ⟨b, off + k * 7 + 1, none⟩) hb1).trans x1, (h1.cell (p := ⟨b, off + k * 7 + 2, none⟩) hb1).trans x2, (h1.cell (p := ⟨b, off + k * 7 + 3, none⟩) hb1).trans x3, (h1.cell (p := ⟨b, off + k * 7 + 4, none⟩) hb1).trans x4, (h1.cell (p := ⟨b, off + k * 7 + 5, none⟩) hb1).trans x5, (h1.cell (p := ⟨b, off + k * 7 + 6, none⟩) hb1).trans x6⟩, HB.out.drew.trans (h1.mono HB.out.size)⟩
      have HMAY := Lib.hid hmay
      have HNMK := Lib.hid hnm
      have HGO := Lib.hid hgo
      have HNOK := Lib.hid hnok
      have HW1 := Lib.hid hw1
      have hkc : (k : Int) ≤ (cap : Int) := by omega
      have hkc' : k ≤ cap := by omega
      clear hmay hnm hgo hnok hm hw1 hmm hfit hseg
      rcases bm with _ | _
      · obtain rfl : r = false := HNOK.out fun h => by cases h.2.1
        go_wp2_with fail
        refine wp_region_held_drew (S := (fun W => W.cell? ⟨b, off + k * 7, none⟩ = some (.string nm) ∧ W.cell? ⟨b, off + k * 7 + 1, none⟩ = some (.string fam) ∧ W.cell? ⟨b, off + k * 7 + 2, none⟩ = some (.int .u8 (lv : Int)) ∧ W.cell? ⟨b, off + k * 7 + 3, none⟩ = some (.slice xA m xc) ∧ W.cell? ⟨b, off + k * 7 + 4, none⟩ = some (.int .i8 sc) ∧ W.cell? ⟨b, off + k * 7 + 5, none⟩ = some (.string qk) ∧ W.cell? ⟨b, off + k * 7 + 6, none⟩ = some (.int .i16 en))) (by kernel_rfl) ⟨x0, x1, x2, x3, x4, x5, x6⟩ (fun hHeld => ?_)
        (refine held_take (i := 0) rfl rfl (by kernel_rfl) (by kernel_rfl) (by kernel_rfl) (fun _ _ _ h => h) (by rfl) (by intro w hSw; (try dsimp only at hSw); go_simp; first | done | with_reducible rfl) (by assumption) ?_; try simp only [Act.put, List.setIfInBounds_toArray, List.set_cons_zero, List.set_cons_succ])
        (refine held_take (i := 1) rfl rfl (by kernel_rfl) (by kernel_rfl) (by kernel_rfl) (fun _ _ _ h => h) (by rfl) (by intro w hSw; (try dsimp only at hSw); go_simp; first | done | with_reducible rfl) (by assumption) ?_; try simp only [Act.put, List.setIfInBounds_toArray, List.set_cons_zero, List.set_cons_succ])
        (refine held_take (i := 2) rfl rfl (by kernel_rfl) (by kernel_rfl) (by kernel_rfl) (fun _ _ _ h => h) (by rfl) (by intro w hSw; (try dsimp only at hSw); go_simp; first | done | with_reducible rfl) (by assumption) ?_; try simp only [Act.put, List.setIfInBounds_toArray, List.set_cons_zero, List.set_cons_succ])
        (refine held_take (i := 3) rfl rfl (by kernel_rfl) (by kernel_rfl) (by kernel_rfl) (fun _ _ _ h => h) (by rfl) (by intro w hSw; (try dsimp only at hSw); go_simp; first | done | with_reducible rfl) (by assumption) ?_; try simp only [Act.put, List.setIfInBounds_toArray, List.set_cons_zero, List.set_cons_succ])
        (refine held_take (i := 4) rfl rfl (by kernel_rfl) (by kernel_rfl) (by kernel_rfl) (fun _ _ _ h => h) (by rfl) (by intro w hSw; (try dsimp only at hSw); go_simp; first | done | with_reducible rfl) (by assumption) ?_; try simp only [Act.put, List.setIfInBounds_toArray, List.set_cons_zero, List.set_cons_succ])
        (refine held_take (i := 5) rfl rfl (by kernel_rfl) (by kernel_rfl) (by kernel_rfl) (fun _ _ _ h => h) (by rfl) (by intro w hSw; (try dsimp only at hSw); go_simp; first | done | with_reducible rfl) (by assumption) ?_; try simp only [Act.put, List.setIfInBounds_toArray, List.set_cons_zero, List.set_cons_succ])
        (refine held_take (i := 6) rfl rfl (by kernel_rfl) (by kernel_rfl) (by kernel_rfl) (fun _ _ _ h => h) (by rfl) (by intro w hSw; (try dsimp only at hSw); go_simp; first | done | with_reducible rfl) (by assumption) ?_; try simp only [Act.put, List.setIfInBounds_toArray, List.set_cons_zero, List.set_cons_succ])
        refine wpAnyH_ready (rs := [7]) (by kernel_rfl) (by simp) ?_
        refine AllReadyH.cons rfl (fun K hK => ?_) AllReadyH.nil
        go_simp
        go_at_call 31
        refine HMAY.out.mono ?_
        rintro e w1 ⟨rfl, hb1⟩
        obtain ⟨⟨y0, y1, y2, y3, y4, y5, y6⟩, hbb⟩ := HW1.out w1 hb1
        have HBB := Lib.hid hbb
        clear hb1 hbb
        refine hK.out _ _ ?_ (fun hHeld => ?_)
        · exact ⟨y0, y1, y2, y3, y4, y5, y6⟩
        clear hK K
        try simp only [Act.put, List.setIfInBounds_toArray, List.set_cons_zero, List.set_cons_succ]
        (refine held_take (i := 8) rfl rfl (by kernel_rfl) (by kernel_rfl) (by kernel_rfl) (fun _ _ _ h => h) (by rfl) (by intro w hSw; (try dsimp only at hSw); go_simp; first | done | with_reducible rfl) (by assumption) ?_; try simp only [Act.put, List.setIfInBounds_toArray, List.set_cons_zero, List.set_cons_succ])
        (refine held_take (i := 9) rfl rfl (by kernel_rfl) (by kernel_rfl) (by kernel_rfl) (fun _ _ _ h => h) (by rfl) (by intro w hSw; (try dsimp only at hSw); go_simp; first | done | with_reducible rfl) (by assumption) ?_; try simp only [Act.put, List.setIfInBounds_toArray, List.set_cons_zero, List.set_cons_succ])
        (refine held_take (i := 10) rfl rfl (by kernel_rfl) (by kernel_rfl) (by kernel_rfl) (fun _ _ _ h => h) (by rfl) (by intro w hSw; (try dsimp only at hSw); go_simp; first | done | with_reducible rfl) (by assumption) ?_; try simp only [Act.put, List.setIfInBounds_toArray, List.set_cons_zero, List.set_cons_succ])
        (refine held_skip (i := 11) rfl rfl (by kernel_rfl) (by kernel_rfl) (by kernel_rfl) (fun _ _ _ h => h) (by rfl) (by assumption) ?_; try simp only [Act.put, List.setIfInBounds_toArray, List.set_cons_zero, List.set_cons_succ])
        (refine held_skip (i := 12) rfl rfl (by kernel_rfl) (by kernel_rfl) (by kernel_rfl) (fun _ _ _ h => h) (by rfl) (by assumption) ?_; try simp only [Act.put, List.setIfInBounds_toArray, List.set_cons_zero, List.set_cons_succ])
        (refine held_skip (i := 13) rfl rfl (by kernel_rfl) (by kernel_rfl) (by kernel_rfl) (fun _ _ _ h => h) (by rfl) (by assumption) ?_; try simp only [Act.put, List.setIfInBounds_toArray, List.set_cons_zero, List.set_cons_succ])
        (refine held_skip (i := 14) rfl rfl (by kernel_rfl) (by kernel_rfl) (by kernel_rfl) (fun _ _ _ h => h) (by rfl) (by assumption) ?_; try simp only [Act.put, List.setIfInBounds_toArray, List.set_cons_zero, List.set_cons_succ])
        (refine held_skip (i := 15) rfl rfl (by kernel_rfl) (by kernel_rfl) (by kernel_rfl) (fun _ _ _ h => h) (by rfl) (by assumption) ?_; try simp only [Act.put, List.setIfInBounds_toArray, List.set_cons_zero, List.set_cons_succ])
        (refine held_skip (i := 16) rfl rfl (by kernel_rfl) (by kernel_rfl) (by kernel_rfl) (fun _ _ _ h => h) (by rfl) (by assumption) ?_; try simp only [Act.put, List.setIfInBounds_toArray, List.set_cons_zero, List.set_cons_succ])
        (refine held_skip (i := 17) rfl rfl (by kernel_rfl) (by kernel_rfl) (by kernel_rfl) (fun _ _ _ h => h) (by rfl) (by assumption) ?_; try simp only [Act.put, List.setIfInBounds_toArray, List.set_cons_zero, List.set_cons_succ])
        (refine held_skip (i := 18) rfl rfl (by kernel_rfl) (by kernel_rfl) (by kernel_rfl) (fun _ _ _ h => h) (by rfl) (by assumption) ?_; try simp only [Act.put, List.setIfInBounds_toArray, List.set_cons_zero, List.set_cons_succ])
        (refine held_skip (i := 19) rfl rfl (by kernel_rfl) (by kernel_rfl) (by kernel_rfl) (fun _ _ _ h => h) (by rfl) (by assumption) ?_; try simp only [Act.put, List.setIfInBounds_toArray, List.set_cons_zero, List.set_cons_succ])
        (refine held_take (i := 20) rfl rfl (by kernel_rfl) (by kernel_rfl) (by kernel_rfl) (fun _ _ _ h => h) (by rfl) (by intro w hSw; (try dsimp only at hSw); go_simp; first | done | with_reducible rfl) (by assumption) ?_; try simp only [Act.put, List.setIfInBounds_toArray, List.set_cons_zero, List.set_cons_succ])
        refine wpAnyH_done (by kernel_rfl) ?_ _
        go_wp2_with fail
        go_ret2
        exact ⟨⟨k, rfl⟩, HBB.out⟩
      rcases bn with _ | _
      · have hgo2 := HGO.out rfl rfl
        have HGO2 := Lib.hid hgo2
        clear hgo2
        go_wp2_with fail
        go_region_held3 (fun W => W.cell? ⟨b, off + k * 7, none⟩ = some (.string nm) ∧ W.cell? ⟨b, off + k * 7 + 1, none⟩ = some (.string fam) ∧ W.cell? ⟨b, off + k * 7 + 2, none⟩ = some (.int .u8 (lv : Int)) ∧ W.cell? ⟨b, off + k * 7 + 3, none⟩ = some (.slice xA m xc) ∧ W.cell? ⟨b, off + k * 7 + 4, none⟩ = some (.int .i8 sc) ∧ W.cell? ⟨b, off + k * 7 + 5, none⟩ = some (.string qk) ∧ W.cell? ⟨b, off + k * 7 + 6, none⟩ = some (.int .i16 en)) (first | exact ⟨x0, x1, x2, x3, x4, x5, x6⟩ | exact ⟨y0, y1, y2, y3, y4, y5, y6⟩) (first
          | (go_at_call 32; refine (HNMK.out _ HBB.out).mono ?_; rintro e w2 ⟨rfl, rfl⟩)
          | (go_at_call 31; refine HMAY.out.mono ?_; rintro e w1 ⟨rfl, hb1⟩; obtain ⟨⟨y0, y1, y2, y3, y4, y5, y6⟩, hbb⟩ := HW1.out w1 hb1; have HBB := Lib.hid hbb; clear hb1 hbb)
          | fail)
        go_wp2_with fail
        exact ⟨⟨k + 1, by omega, by go_num, HGO2.out, HBB.out⟩, by simp [intOf]; omega⟩
      · obtain rfl : r = false := HNOK.out fun h => by cases h.2.2
        go_wp2_with fail
        go_region_held3 (fun W => W.cell? ⟨b, off + k * 7, none⟩ = some (.string nm) ∧ W.cell? ⟨b, off + k * 7 + 1, none⟩ = some (.string fam) ∧ W.cell? ⟨b, off + k * 7 + 2, none⟩ = some (.int .u8 (lv : Int)) ∧ W.cell? ⟨b, off + k * 7 + 3, none⟩ = some (.slice xA m xc) ∧ W.cell? ⟨b, off + k * 7 + 4, none⟩ = some (.int .i8 sc) ∧ W.cell? ⟨b, off + k * 7 + 5, none⟩ = some (.string qk) ∧ W.cell? ⟨b, off + k * 7 + 6, none⟩ = some (.int .i16 en)) (first | exact ⟨x0, x1, x2, x3, x4, x5, x6⟩ | exact ⟨y0, y1, y2, y3, y4, y5, y6⟩) (first
          | (go_at_call 32; refine (HNMK.out _ HBB.out).mono ?_; rintro e w2 ⟨rfl, rfl⟩)
          | (go_at_call 31; refine HMAY.out.mono ?_; rintro e w1 ⟨rfl, hb1⟩; obtain ⟨⟨y0, y1, y2, y3, y4, y5, y6⟩, hbb⟩ := HW1.out w1 hb1; have HBB := Lib.hid hbb; clear hb1 hbb)
          | fail)
        go_wp2_with fail
        go_ret2
        exact ⟨⟨k, rfl⟩, HBB.out⟩
    · obtain rfl : k = n := by omega
      obtain rfl : r = true := HYES.out fun i h => HOK.out i h (by rw [HN.out]; exact h)
      go_wp2_with fail
      go_ret2
      exact ⟨⟨0, rfl⟩, HB.out⟩
end Go.Proofs.YtiheibcookcbdaaDoor
