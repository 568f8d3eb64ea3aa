/- The program's settled: the contract. -/
import Derived.Test.YtghcemfffhjmjaaMem
set_option linter.unusedVariables false
namespace Go.Proofs.Ytghcemfffhjmjaa
open Go.RowKit
theorem downs_take {f : Nat → Nat} {d : Nat} {us : List Nat} {j : Nat} (h : j < us.length) : downs f d (us.take (j + 1)) = down (downs f d (us.take j)) d us[j] := by
  unfold downs
  rw [List.take_succ_eq_append_getElem h, List.foldl_append]
  rfl
theorem size60 (f : Nat → Nat) : (Try.prog.info? 60).map (·.size) = some (arr f).length := by rw [arr_len]; exact Try.arr_size
theorem size60' (f : Nat → Nat) : (Try.prog.info? 60).map (·.size) = some (arr f).toArray.size := by rw [List.size_toArray]; exact size60 f
set_option maxRecDepth 100000 in
set_option maxHeartbeats 4000000 in
theorem settled_any (nb : Nat) (Ad : Option Addr) (n cd : Nat) (l : List Dmm) (hn : n = l.length) (hok : Okd (dsOf l)) (f : Nat → Nat) (hf : ∀ i, f i ≤ 255) (w : World) (B : Nat) (hB : B ≤ w.heap.size) (hnb : nb < w.heap.size) (h0 : w.cell? ⟨nb, 0, none⟩ = some (.slice Ad n cd)) (hs : Doms w B Ad l) :
    Calls Try.prog 26 #[.pointer (some ⟨nb, 0, none⟩), .agg (arr f).toArray] w fun e w' => e = .returned (.agg (arr (settle (dsOf l) f)).toArray) ∧ Below w.heap.size w w' := by
  have hz := zero60
  have hn256 : n ≤ 256 := by have := hok.len; rw [ds_len] at this; omega
  have hc0 : ∀ w1, Below w.heap.size w w1 → w1.cell? ⟨nb, 0, none⟩ = some (.slice Ad n cd) := fun w1 hb => (hb.cell (p := ⟨nb, 0, none⟩) hnb).trans h0
  have hst : settle (dsOf l) f = settleN (dsOf l) n f := by unfold settle; rw [ds_len, ← hn]
  have h0' := hc0 _ ((Below.refl _ w).alloc (Nat.le_refl _) (.cells (arr f).toArray 60))
  have HC0 := Lib.hid hc0
  have HN := Lib.hid hn
  have HS := Lib.hid hs
  have HOK := Lib.hid hok
  have HST := Lib.hid hst
  have HF := Lib.hid hf
  clear hc0 hn hs hok hst hf h0
  go_enter Try.func26, Try.ntmps26
  generalize hzz : (arr fun _ => 0).toArray = Z at hz
  have h0'' := HC0.out _ (((Below.refl _ w).alloc (Nat.le_refl _) (.cells (arr f).toArray 60)).alloc (by simp) (.cells Z 60))
  go_wp2
  have hr3 : RowAt ((w.alloc (.cells (arr f).toArray 60)).alloc (.cells Z 60)) w.heap.size 60 (arr f) := RowAt.keep (w := w.alloc (.cells (arr f).toArray 60)) ⟨_, heap_alloc_new _ _, by simp⟩ (Below.heap_alloc _ _ _ (by simp))
  have hr4 : RowAt ((w.alloc (.cells (arr f).toArray 60)).alloc (.cells Z 60)) (w.heap.size + 1) 60 (arr fun _ => 0) := by
    have := heap_alloc_new (w.alloc (.cells (arr f).toArray 60)) (.cells Z 60)
    rw [show (w.alloc (.cells (arr f).toArray 60)).heap.size = w.heap.size + 1 by simp] at this
    exact ⟨_, this, by rw [← hzz]; exact List.take_of_length_le (Nat.le_refl _)⟩
  have hb2 : Below w.heap.size w ((w.alloc (.cells (arr f).toArray 60)).alloc (.cells Z 60)) := ((Below.refl _ _).alloc (Nat.le_refl _) _).alloc (by simp) _
  have R3 := Lib.hid hr3
  have R4 := Lib.hid hr4
  have HB2 := Lib.hid hb2
  clear hr3 hr4 hb2 hzz hz h0' h0''
  go_loopw [5] (fun iv wr => ∃ (k : Nat) (fk : Nat → Nat), k ≤ n ∧ iv = .int .i64 ((k : Int) - 1) ∧ RowAt wr w.heap.size 60 (arr fk) ∧ RowAt wr (w.heap.size + 1) 60 (arr fun _ => 0) ∧ settleN (dsOf l) k fk = settle (dsOf l) f ∧ (∀ i, fk i ≤ 255) ∧ Below w.heap.size w wr) (fun iv _ => (intOf iv + 1).toNat)
  case atStart => exact ⟨n, f, Nat.le_refl _, by go_num, R3.out, R4.out, HST.out.symm, HF.out, HB2.out⟩
  case round =>
    obtain ⟨k, fk, hk, rfl, hr3, hr4, hse, hfk, hb⟩ := hrel
    clear R3 R4 HB2
    have R3 := Lib.hid hr3
    have R4 := Lib.hid hr4
    have HSE := Lib.hid hse
    have HFK := Lib.hid hfk
    have HB := Lib.hid hb
    have h0 := HC0.out _ hb
    clear hr3 hr4 hse hfk hb
    rcases k with _ | d
    · have e1 : decide ((0 : Int) ≤ ((0 : Nat) : Int) - 1) = false := by simp
      have hfs : fk = settle (dsOf l) f := HSE.out
      subst hfs
      have hth := row_there R4.out
      rw [arr_len] at hth
      have hsz : (arr (settle (dsOf l) f)).toArray.size = 256 := by rw [List.size_toArray, arr_len]
      rw [← hsz] at hth
      have HTH := Lib.hid hth
      have hfin := row_setCells (arr (settle (dsOf l) f)) 0 _ _ R4.out (by rw [arr_len, arr_len]; omega)
      have hfin2 : RowAt (wr.setCells (w.heap.size + 1) 0 (arr (settle (dsOf l) f))) (w.heap.size + 1) 60 (arr (settle (dsOf l) f)) := by
        rw [List.take_zero, List.nil_append, List.drop_of_length_le (by rw [arr_len, arr_len]; omega), List.append_nil] at hfin
        exact hfin
      have HFIN := Lib.hid hfin2
      have HBF := Lib.hid (below_setCells (arr (settle (dsOf l) f)) 0 wr HB.out (show w.heap.size ≤ w.heap.size + 1 by omega))
      clear hth hsz hfin hfin2
      go_wp2_with (first
        | (refine wpList_load_mid rfl 60 (.tmp 3) rfl w.heap.size 0 rfl (arr (settle (dsOf l) f)) _ (row_range R3.out) Try.underlying60 rfl (size60 _) ?_)
        | (refine wpList_store_mid rfl 60 (.tmp 4) (.tmp 41) rfl (w.heap.size + 1) 0 (arr (settle (dsOf l) f)).toArray rfl rfl HTH.out (size60' _) (arr_one _) ?_))
      refine bodyPost_ret (results_cell_mid (p := 4) (ty := 60) rfl _ _ _ (w.heap.size + 1) (arr (settle (dsOf l) f)) _ rfl (row_range HFIN.out) Try.underlying60 rfl (size60 _)) rfl ?_
      exact ⟨rfl, HBF.out⟩
    · have hd1 : ((d + 1 : Nat) : Int) - 1 = (d : Int) := by omega
      have hdl : d < l.length := by have := HN.out; omega
      have hdn : d < n := by omega
      have hdi : (d : Int) < (n : Int) := by omega
      obtain ⟨b, off, rfl, hbB, x0, x1, hus⟩ := (HS.out.below (HB.out.mono hB)).at_ hdl
      have hu8 := HOK.out.few d (by rw [ds_len]; exact hdl)
      have hund := und_at hdl
      have hult := fun u hu => und_lt HOK.out (d := d) (u := u) hu
      rw [ds_get l hdl] at hu8
      have hse2 : settleN (dsOf l) d (downs fk d l[d].d.u) = settle (dsOf l) f := by rw [← hund]; exact HSE.out
      rw [hund] at hult
      have husw : ∀ w1, Below w.heap.size w w1 → Seg w1 B l[d].A (nats l[d].d.u) := fun w1 h1 => (HS.out.below (h1.mono hB)).under _ (List.getElem_mem hdl)
      obtain ⟨us, hue⟩ : ∃ us, us = l[d].d.u := ⟨_, rfl⟩
      obtain ⟨ua, huA⟩ : ∃ ua, ua = l[d].A := ⟨_, rfl⟩
      obtain ⟨uc, huc⟩ : ∃ uc, uc = l[d].c := ⟨_, rfl⟩
      obtain ⟨m, hm⟩ : ∃ m, m = us.length := ⟨_, rfl⟩
      rw [← hue] at x0 hu8 hus hse2 hult
      rw [← huA] at x0 hus
      simp only [← hue, ← huA] at husw
      rw [← huc, ← hm] at x0
      rw [← hm] at hu8
      have HUS := Lib.hid husw
      have HM := Lib.hid hm
      have HSE2 := Lib.hid hse2
      have HULT := Lib.hid hult
      rw [hd1]
      clear hue huA huc hm hus husw hse2 hult hund hd1
      go_wp2
      go_loopw [27] (fun jv wx => ∃ j : Nat, j ≤ m ∧ jv = .int .i64 j ∧ RowAt wx w.heap.size 60 (arr (downs fk d (us.take j))) ∧ RowAt wx (w.heap.size + 1) 60 (arr fun _ => 0) ∧ (∀ i, downs fk d (us.take j) i ≤ 255) ∧ Below w.heap.size w wx) (fun jv _ => m - (intOf jv).toNat)
      case atStart => exact ⟨0, by omega, rfl, by simpa [downs] using R3.out, R4.out, by simpa [downs] using HFK.out, HB.out⟩
      case round =>
        obtain ⟨j, hj, rfl, hr3, hr4, hfk, hb⟩ := hrel
        clear R3 R4 HFK HB x0 x1 h0
        have R3 := Lib.hid hr3
        have R4 := Lib.hid hr4
        have HFK := Lib.hid hfk
        have HB := Lib.hid hb
        clear hr3 hr4 hfk hb
        by_cases hjm : j < m
        · have hju : j < us.length := by rw [← HM.out]; exact hjm
          have hji : (j : Int) < (m : Int) := by omega
          obtain ⟨gb, go, rfl, hgB, y0⟩ := (HUS.out _ HB.out).nat hju
          have hud := HULT.out us[j] (List.getElem_mem hju)
          have hdt := downs_take (f := fk) (d := d) hju
          obtain ⟨u, hu⟩ : ∃ u, u = us[j] := ⟨_, rfl⟩
          rw [← hu] at y0 hud hdt
          have HDT := Lib.hid hdt
          clear hu hdt
          generalize downs fk d (us.take j) = g at *
          have hu256 : u < 256 := by omega
          have hd256 : d < 256 := by omega
          have hui : (u : Int) < 256 := by omega
          have hdi2 : (d : Int) < 256 := by omega
          have c1 := (R3.out.cell (k := u) (by rw [arr_len]; exact hu256)).trans (arr_get g hu256)
          have c2 := (R3.out.cell (k := d) (by rw [arr_len]; exact hd256)).trans (arr_get g hd256)
          have f1 := R3.out.frozen u
          have hr5 := R3.out.store u (.int .u8 (if g u < g d then (g d : Int) else (g u : Int)))
          have e5 : (arr g).set u (.int .u8 (if g u < g d then (g d : Int) else (g u : Int))) = arr (down g d u) := by
            rw [show (if g u < g d then (g d : Int) else (g u : Int)) = ((max (g u) (g d) : Nat) : Int) by split <;> omega, arr_set g hu256]
            rfl
          rw [e5, ← HDT.out] at hr5
          have hr6 := R4.out.keep (w' := wr.setCell ⟨w.heap.size, u, none⟩ (.int .u8 (if g u < g d then (g d : Int) else (g u : Int)))) (Below.heap_setCell _ _ _ _ (by show w.heap.size + 1 ≠ w.heap.size; omega))
          have hb5 := HB.out.setCell (p := ⟨w.heap.size, u, none⟩) (Nat.le_refl _) (.int .u8 (if g u < g d then (g d : Int) else (g u : Int)))
          have hf5 : ∀ i, downs fk d (us.take (j + 1)) i ≤ 255 := fun i => by
            rw [HDT.out]
            have h1 := HFK.out u
            have h2 := HFK.out d
            unfold down upd
            split
            · omega
            · exact HFK.out i
          obtain ⟨p, hp⟩ : ∃ p, p = g u := ⟨_, rfl⟩
          obtain ⟨q, hq⟩ : ∃ q, q = g d := ⟨_, rfl⟩
          have R5 := Lib.hid hr5
          have R6 := Lib.hid hr6
          have HB5 := Lib.hid hb5
          have HF5 := Lib.hid hf5
          clear hr5 hr6 hb5 hf5 e5
          go_wp2_with fail
          go_region
          go_wp2_with fail
          exact ⟨⟨j + 1, by omega, by go_num, R5.out.keep rfl, R6.out.keep rfl, HF5.out, HB5.out.drew⟩, by simp [intOf]; omega⟩
        · obtain rfl : j = m := by omega
          have e1 : us.take j = us := List.take_of_length_le (by rw [← HM.out]; exact Nat.le_refl _)
          have r3 := R3.out
          have f3 := HFK.out
          rw [e1] at r3 f3
          have R3 := Lib.hid r3
          have F3 := Lib.hid f3
          clear r3 f3 e1
          go_wp2_with fail
          exact ⟨⟨d, downs fk d us, by omega, by go_num, R3.out, R4.out, HSE2.out, F3.out, HB.out⟩, by simp [intOf]⟩
end Go.Proofs.Ytghcemfffhjmjaa
