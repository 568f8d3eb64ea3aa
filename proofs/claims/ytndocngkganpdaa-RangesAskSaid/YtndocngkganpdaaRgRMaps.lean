/- The document's maps: the contract. -/
import Derived.Test.YtndocngkganpdaaRgRReg
set_option linter.unusedVariables false
namespace Go.Proofs.Ytndocngkganpdaa
open Go.RowKit
theorem info84 : (Try.prog.info? 84).map (fun i => (i.zero, i.size, i.bytes)) = some (some (.agg #[.int .u64 0, .int .u64 0, .int .u64 0]), 3, 24) := by kernel_rfl
set_option maxRecDepth 100000 in
set_option maxHeartbeats 16000000 in
theorem rmaps_any (A : Option Addr) (cap n : Nat) (l : List Nm) (hn : n = l.length) (hsz : Sized l) (hsh : ShortL (dat l)) (i : Nat) (hi : i < n) (hp : 0 ≤ parAt (dat l) i) (hp2 : parAt (dat l) i < n) (w : World) (B : Nat) (hB : B ≤ w.heap.size) (hs : Nodes w B A l) :
    Calls Try.prog 52 #[.slice A n cap, .int .i64 (i : Nat)] w fun e w' => MapsR 84 (mapsF (dat l) i) w.heap.size e w' ∧ Below w.heap.size w w' := by
  obtain ⟨i1, gi, gz0, gz1, gz2⟩ := info_parts info84
  have hil : i < l.length := by rw [← hn]; exact hi
  obtain ⟨p, hpp⟩ : ∃ p : Nat, parAt (dat l) i = (p : Int) := ⟨(parAt (dat l) i).toNat, by omega⟩
  have hpl : p < l.length := by rw [← hn]; omega
  have hpn : p < n := by omega
  have hpar : parN (dat l) i = p := by unfold parN; rw [hpp]; rfl
  have hip : l[i].d.p = (p : Int) := by rw [← par_get l hil]; exact hpp
  have hM1 : ∀ h : valF l[i].d.ps kRng = none, mapsF (dat l) i = ([], false, 6) := fun h => maps_none (by rw [ps_get l hil]; exact h)
  have hM2 : ∀ v, valF l[i].d.ps kRng = some v → cellsF l[i].d.ps = none ∨ cellsF l[p].d.ps = none → mapsF (dat l) i = ([], false, 4) := fun v h h2 => maps_form (by rw [ps_get l hil]; exact h) (by rw [hpar, ps_get l hil, ps_get l hpl]; exact h2)
  have hM3 : ∀ v a b c d, valF l[i].d.ps kRng = some v → cellsF l[i].d.ps = some (a, b) → cellsF l[p].d.ps = some (c, d) → mapsF (dat l) i = mpsF a c b v := fun v a b c d h h2 h3 => maps_some (by rw [ps_get l hil]; exact h) (by rw [ps_get l hil]; exact h2) (by rw [hpar, ps_get l hpl]; exact h3)
  generalize mapsF (dat l) i = M at *
  have hnn : n ≤ 2932031007403 := by have := hsz.n; omega
  have hii : (i : Int) < (n : Int) := by omega
  have hpi : (p : Int) < (n : Int) := by omega
  obtain ⟨b, off, rfl, hbB, x0, x1, x2, hq0⟩ := hs.at_ hil
  obtain ⟨b', off', e9, _, y0, y1, y2, hp0⟩ := hs.at_ hpl
  injection e9 with e9
  injection e9 with e91 e92
  subst e91 e92
  rw [hip] at x0
  have hszi := hsz.props l[i] (List.getElem_mem hil)
  have hszp := hsz.props l[p] (List.getElem_mem hpl)
  have hshi := hsh l[i].d (List.mem_map_of_mem (List.getElem_mem hil))
  have hshp := hsh l[p].d (List.mem_map_of_mem (List.getElem_mem hpl))
  have SP := fun W (hW : Below w.heap.size w W) => cells_any l[p].d.p l[p].d.n l[p].A l[p].c l[p].d.ps.length l[p].d.ps rfl (by omega) W B (Nat.le_trans hB hW.size) (hp0.below (hW.mono hB))
  have SI := fun W (hW : Below w.heap.size w W) => cells_any l[i].d.p l[i].d.n l[i].A l[i].c l[i].d.ps.length l[i].d.ps rfl (by omega) W B (Nat.le_trans hB hW.size) (hq0.below (hW.mono hB))
  have VA := rvalue_any l[i].d.p l[i].d.n l[i].A l[i].c l[i].d.ps.length l[i].d.ps rfl (by omega) kRng w B hB hq0
  have hbw : b < w.heap.size := by omega
  have CX : ∀ W, Below w.heap.size w W → W.cell? ⟨b, off + i * 3, none⟩ = some (.int .i64 (p : Int)) ∧ W.cell? ⟨b, off + i * 3 + 1, none⟩ = some (.string l[i].d.n) ∧ W.cell? ⟨b, off + i * 3 + 2, none⟩ = some (.slice l[i].A l[i].d.ps.length l[i].c) := fun W hW => ⟨(hW.cell (p := ⟨b, off + i * 3, none⟩) hbw).trans x0, (hW.cell (p := ⟨b, off + i * 3 + 1, none⟩) hbw).trans x1, (hW.cell (p := ⟨b, off + i * 3 + 2, none⟩) hbw).trans x2⟩
  have CY : ∀ W, Below w.heap.size w W → W.cell? ⟨b, off + p * 3, none⟩ = some (.int .i64 l[p].d.p) ∧ W.cell? ⟨b, off + p * 3 + 1, none⟩ = some (.string l[p].d.n) ∧ W.cell? ⟨b, off + p * 3 + 2, none⟩ = some (.slice l[p].A l[p].d.ps.length l[p].c) := fun W hW => ⟨(hW.cell (p := ⟨b, off + p * 3, none⟩) hbw).trans y0, (hW.cell (p := ⟨b, off + p * 3 + 1, none⟩) hbw).trans y1, (hW.cell (p := ⟨b, off + p * 3 + 2, none⟩) hbw).trans y2⟩
  rw [hip] at VA SI
  have hsv := hshi
  generalize l[i].d.n = si at *
  generalize l[i].d.ps = Q at *
  generalize l[i].A = Ai at *
  generalize l[i].c = ci at *
  generalize l[p].d.p = pp at *
  generalize l[p].d.n = sp at *
  generalize l[p].d.ps = P at *
  generalize l[p].A = Ap at *
  generalize l[p].c = cp at *
  have HCX := Lib.hid CX
  have HCY := Lib.hid CY
  clear hn hpp hpar hip hp hp2 hq0 hp0 hszi hszp hshi hshp hsz hsh hil hpl hs y0 y1 y2 CX CY
  cases hv : valF Q kRng with
  | none =>
    obtain rfl := hM1 hv
    have e : valV Q kRng = (⟨#[]⟩, false) := by unfold valV; rw [hv]
    rw [e] at VA
    have HVA := Lib.hid VA
    clear SP SI VA e hv hM1 hM2 hM3 hsv
    go_enter Try.func52, Try.ntmps52
    go_wp2_with (first
      | (go_at_call 65; refine HVA.out.mono ?_; rintro e w1 ⟨rfl, hb1⟩
         have HB1 := Lib.hid hb1
         clear hb1)
      | fail)
    go_ret3
    exact ⟨mapsR_no 6 _ _, HB1.out⟩
  | some v =>
    have e : valV Q kRng = (v, true) := by unfold valV; rw [hv]
    rw [e] at VA
    have hvs : v.size ≤ 1048576 := val_short hsv hv
    have HVA := Lib.hid VA
    have hM2 := hM2 v hv
    have hM3 := fun a b c d => hM3 v a b c d hv
    clear VA e hv hM1 hsv
    cases hca : cellsF Q with
    | none =>
      obtain rfl := hM2 (.inl hca)
      obtain ⟨c1, c2, c3, hc⟩ : ∃ a1 a2 a3, spcF P = (a1, a2, a3) := ⟨_, _, _, rfl⟩
      rw [hc] at SP
      rw [spc_none hca] at SI
      have HSI := Lib.hid SI
      have HSP := Lib.hid SP
      clear SI SP hca hc hM2 hM3
      go_enter Try.func52, Try.ntmps52
      go_wp2_with (first
        | (go_at_call 65; refine HVA.out.mono ?_; rintro e w1 ⟨rfl, hb1⟩
           have HB1 := Lib.hid hb1
           obtain ⟨z0, z1, z2⟩ := HCX.out _ hb1
           clear hb1)
        | (go_at_call 55; refine (HSP.out _ HB2.out).mono ?_; rintro e w3 ⟨rfl, hb3⟩
           have HB3 := Lib.hid (HB2.out.trans (hb3.mono HB2.out.size))
           clear hb3)
        | (go_at_call 55; refine (HSI.out _ HB1.out).mono ?_; rintro e w2 ⟨rfl, hb2⟩
           have HB2 := Lib.hid (HB1.out.trans (hb2.mono HB1.out.size))
           obtain ⟨u0, u1, u2⟩ := HCX.out _ HB2.out
           obtain ⟨t0, t1, t2⟩ := HCY.out _ HB2.out
           clear hb2)
        | fail)
      go_ret3
      exact ⟨mapsR_no 4 _ _, HB3.out⟩
    | some ab =>
    obtain ⟨a, bb⟩ := ab
    cases hcb : cellsF P with
    | none =>
      obtain rfl := hM2 (.inr hcb)
      rw [spc_none hcb] at SP
      rw [spc_some hca] at SI
      have HSI := Lib.hid SI
      have HSP := Lib.hid SP
      clear SI SP hca hcb hM2 hM3
      go_enter Try.func52, Try.ntmps52
      go_wp2_with (first
        | (go_at_call 65; refine HVA.out.mono ?_; rintro e w1 ⟨rfl, hb1⟩
           have HB1 := Lib.hid hb1
           obtain ⟨z0, z1, z2⟩ := HCX.out _ hb1
           clear hb1)
        | (go_at_call 55; refine (HSP.out _ HB2.out).mono ?_; rintro e w3 ⟨rfl, hb3⟩
           have HB3 := Lib.hid (HB2.out.trans (hb3.mono HB2.out.size))
           clear hb3)
        | (go_at_call 55; refine (HSI.out _ HB1.out).mono ?_; rintro e w2 ⟨rfl, hb2⟩
           have HB2 := Lib.hid (HB1.out.trans (hb2.mono HB1.out.size))
           obtain ⟨u0, u1, u2⟩ := HCX.out _ HB2.out
           obtain ⟨t0, t1, t2⟩ := HCY.out _ HB2.out
           clear hb2)
        | fail)
      go_ret3
      exact ⟨mapsR_no 4 _ _, HB3.out⟩
    | some cd =>
    obtain ⟨c, dd⟩ := cd
    obtain rfl := hM3 a bb c dd hca hcb
    obtain ⟨ca1, ca2, cb⟩ := cells_bd hca
    obtain ⟨cc1, cc2, _⟩ := cells_bd hcb
    rw [spc_some hca] at SI
    rw [spc_some hcb] at SP
    have HSI := Lib.hid SI
    have HSP := Lib.hid SP
    obtain ⟨m, hm4⟩ : ∃ m, m = 4 * (a + c + bb) := ⟨_, rfl⟩
    have hw : wide [a, c, bb] = m := by rw [hm4]; unfold wide; simp; omega
    have hmi : 4 * ((a : Int) + (bb : Int) + (c : Int)) = (m : Int) := by omega
    clear SI SP hca hcb hM2 hM3
    by_cases hm : v.size % m = 0
    case neg =>
      have HW : mpsF a c bb v = ([], false, 4) := mps_bad (by rw [← hm4]; exact hm)
      rw [HW]
      have hmm : ((v.size : Int) % (4 * ((a : Int) + (bb : Int) + (c : Int))) != 0) = true := by rw [hmi, bne_iff_ne]; omega
      clear HW hm hw hmi
      go_enter Try.func52, Try.ntmps52
      go_wp2_with (first
        | (go_at_call 65; refine HVA.out.mono ?_; rintro e w1 ⟨rfl, hb1⟩
           have HB1 := Lib.hid hb1
           obtain ⟨z0, z1, z2⟩ := HCX.out _ hb1
           clear hb1)
        | (go_at_call 55; refine (HSP.out _ HB2.out).mono ?_; rintro e w3 ⟨rfl, hb3⟩
           have HB3 := Lib.hid (HB2.out.trans (hb3.mono HB2.out.size))
           clear hb3)
        | (go_at_call 55; refine (HSI.out _ HB1.out).mono ?_; rintro e w2 ⟨rfl, hb2⟩
           have HB2 := Lib.hid (HB1.out.trans (hb2.mono HB1.out.size))
           obtain ⟨u0, u1, u2⟩ := HCX.out _ HB2.out
           obtain ⟨t0, t1, t2⟩ := HCY.out _ HB2.out
           clear hb2)
        | fail)
      go_ret3
      exact ⟨mapsR_no 4 _ _, HB3.out⟩
    have HW : mpsF a c bb v = if ((rowsF [a, c, bb] (nl v)).map mpOf).all mpFits then ((rowsF [a, c, bb] (nl v)).map mpOf, decide (v.size = 0), 0) else ([], false, 4) := mps_good (by rw [← hm4]; exact hm)
    rw [HW]
    have hmm : ((v.size : Int) % (4 * ((a : Int) + (bb : Int) + (c : Int))) != 0) = false := by rw [hmi, bne_eq_false_iff_eq]; omega
    have hm0 : 0 < m := by omega
    have hm24 : m ≤ 24 := by omega
    have HLN := Lib.hid (rowsF_len [a, c, bb] (nl v))
    rw [nl_len] at HLN
    have HWM := Lib.hid hw
    have HM := Lib.hid hm
    have HM4 := Lib.hid hm4
    clear HW hm hw hm4
    obtain ⟨R, hR⟩ : ∃ R, R = rowsF [a, c, bb] (nl v) := ⟨_, rfl⟩
    rw [← hR] at HLN ⊢
    have HRE := Lib.hid hR
    clear hR
    obtain ⟨r, hr⟩ : ∃ r, r = (R.map mpOf).all mpFits := ⟨_, rfl⟩
    rw [← hr]
    have HRR := Lib.hid hr
    have HMI := Lib.hid hmi
    clear hr hmi
    have ve : v.toList.isEmpty = decide (v.size = 0) := by
      by_cases h : v.size = 0
      · obtain rfl : v = ⟨#[]⟩ := by
          apply ByteArray.ext; exact Array.eq_empty_of_size_eq_zero h
        rw [decide_eq_true h, ByteArray.toList_eq]; rfl
      · rw [decide_eq_false h]; exact tol_nil2 h
    obtain ⟨sm, hsm⟩ : ∃ sm, sm = decide (v.size = 0) := ⟨_, rfl⟩
    rw [← hsm] at ve ⊢
    have VE := Lib.hid ve
    clear hsm ve
    go_enter Try.func52, Try.ntmps52
    go_wp2_with (first
      | (go_at_call 65; refine HVA.out.mono ?_; rintro e w1 ⟨rfl, hb1⟩
         have HB1 := Lib.hid hb1
         obtain ⟨z0, z1, z2⟩ := HCX.out _ hb1
         clear hb1)
      | (go_at_call 55; refine (HSP.out _ HB2.out).mono ?_; rintro e w3 ⟨rfl, hb3⟩
         have HB3 := Lib.hid (HB2.out.trans (hb3.mono HB2.out.size))
         clear hb3)
      | (go_at_call 55; refine (HSI.out _ HB1.out).mono ?_; rintro e w2 ⟨rfl, hb2⟩
         have HB2 := Lib.hid (HB1.out.trans (hb2.mono HB1.out.size))
         obtain ⟨u0, u1, u2⟩ := HCX.out _ HB2.out
         obtain ⟨t0, t1, t2⟩ := HCY.out _ HB2.out
         clear hb2)
      | fail)
    clear z0 z1 z2 u0 u1 u2 t0 t1 t2 x0 x1 x2 hmm
    go_loopw [16, 17] (fun ov kv wx => ∃ (t k : Nat) (Aw : Option Addr) (cw : Nat) (D : List (List Nat)), kv = .int .i64 t ∧ t ≤ v.size ∧ t % m = 0 ∧ k ≤ t ∧ ov = .slice Aw k cw ∧ D.length = k ∧ D ++ rowsF [a, c, bb] ((nl v).drop t) = R ∧ (∀ x ∈ D, mpFits (mpOf x) = true) ∧ wx.ownsRow w.heap.size 84 3 ov k (mpCells (D.map mpOf)) ∧ Below w.heap.size w wx) (fun _ kv _ => v.size - (intOf kv).toNat)
    case atStart => exact ⟨0, 0, none, 0, [], rfl, by omega, Nat.zero_mod _, by omega, rfl, rfl, HRE.out.symm, by simp, World.ownsRow_nil _ _ _ _, HB3.out⟩
    case round =>
      obtain ⟨t, k, Aw, cw, D, rfl, ht, htm, hkt, rfl, hDk, hDR, hfit, hrow, hb⟩ := hrel
      have HTM := Lib.hid htm
      have HDK := Lib.hid hDk
      have HDR := Lib.hid hDR
      have HFIT := Lib.hid hfit
      have HROW := Lib.hid hrow
      have HB := Lib.hid hb
      have hbs := hb.size
      clear htm hDk hDR hfit hrow hb
      by_cases h0 : t < v.size
      · have d0 : (t : Int) < (v.size : Int) := by omega
        have hms : t + m ≤ v.size := by
          have h1 := HM.out
          have h2 := HTM.out
          have h3 : (v.size - t) % m = 0 := Nat.sub_mod_eq_zero_of_mod_eq (h1.trans h2.symm)
          have := Nat.le_of_dvd (by omega) (Nat.dvd_of_mod_eq_zero h3)
          omega
        have hne : (nl v).drop t ≠ [] := fun h => by
          have := congrArg List.length h
          rw [List.length_drop, nl_len] at this
          simp at this; omega
        have hst := rows_step (ws := [a, c, bb]) (l := (nl v).drop t) (by rw [HWM.out]; exact hm0) hne
        have hm4 := HM4.out
        have n1 : nl (v.extract t (t + 4 * a)) = ((nl v).drop t).take (4 * a) := by
          rw [nl_extract, show t + 4 * a - t = 4 * a from by omega]
        have n2 : nl (v.extract (t + 4 * a) (t + 4 * a + 4 * c)) = (((nl v).drop t).drop (4 * a)).take (4 * c) := by
          rw [nl_extract, List.drop_drop, show t + 4 * a + 4 * c - (t + 4 * a) = 4 * c from by omega]
        have n3 : nl (v.extract (t + 4 * a + 4 * c) (t + m)) = ((((nl v).drop t).drop (4 * a)).drop (4 * c)).take (4 * bb) := by
          rw [nl_extract, List.drop_drop, List.drop_drop, show t + m - (t + 4 * a + 4 * c) = 4 * bb from by omega, show t + 4 * a + 4 * c = t + (4 * a + 4 * c) from by omega]
        have NA := fun W => number_any (v.extract t (t + 4 * a)) (by rw [ByteArray.size_extract]; omega) W
        have NB := fun W => number_any (v.extract (t + 4 * a) (t + 4 * a + 4 * c)) (by rw [ByteArray.size_extract]; omega) W
        have NC := fun W => number_any (v.extract (t + 4 * a + 4 * c) (t + m)) (by rw [ByteArray.size_extract]; omega) W
        rw [n1] at NA
        rw [n2] at NB
        rw [n3] at NC
        have hc0 := num_u64 (take_lt (drop_lt (nl_lt v) t) (4 * a)) (by rw [List.length_take]; omega)
        have hc1 := num_u64 (take_lt (drop_lt (drop_lt (nl_lt v) t) (4 * a)) (4 * c)) (by rw [List.length_take]; omega)
        have hc2 := num_u64 (take_lt (drop_lt (drop_lt (drop_lt (nl_lt v) t) (4 * a)) (4 * c)) (4 * bb)) (by rw [List.length_take]; omega)
        have hrow0 : rowF [a, c, bb] ((nl v).drop t) = [num (((nl v).drop t).take (4 * a)), num ((((nl v).drop t).drop (4 * a)).take (4 * c)), num (((((nl v).drop t).drop (4 * a)).drop (4 * c)).take (4 * bb))] := rfl
        rw [hrow0] at hst
        generalize num (((nl v).drop t).take (4 * a)) = c0 at *
        generalize num ((((nl v).drop t).drop (4 * a)).take (4 * c)) = c1 at *
        generalize num (((((nl v).drop t).drop (4 * a)).drop (4 * c)).take (4 * bb)) = c2 at *
        rw [HWM.out] at hst
        have HST := Lib.hid hst
        clear hst hrow0 n1 n2 n3 hne hm4
        have hmi := HMI.out
        have w1 : IntKind.i64.wrap (4 * (a : Int)) = 4 * (a : Int) := IntWalk.i64_in _ (by omega)
        have w2 : IntKind.i64.wrap ((t : Int) + 4 * (a : Int)) = (t : Int) + 4 * (a : Int) := IntWalk.i64_in _ (by omega)
        have w3 : IntKind.i64.wrap (4 * (c : Int)) = 4 * (c : Int) := IntWalk.i64_in _ (by omega)
        have w4 : IntKind.i64.wrap ((t : Int) + 4 * (a : Int) + 4 * (c : Int)) = (t : Int) + 4 * (a : Int) + 4 * (c : Int) := IntWalk.i64_in _ (by omega)
        have w5 : IntKind.i64.wrap ((t : Int) + 4 * ((a : Int) + (bb : Int) + (c : Int))) = (t : Int) + 4 * ((a : Int) + (bb : Int) + (c : Int)) := IntWalk.i64_in _ (by omega)
        have q1 : (0 : Int) ≤ 4 * (a : Int) := by omega
        have q2 : (0 : Int) ≤ (t : Int) + 4 * (a : Int) := by omega
        have q3 : (t : Int) ≤ (t : Int) + 4 * (a : Int) := by omega
        have q4 : (t : Int) + 4 * (a : Int) ≤ (v.size : Int) := by omega
        have q5 : ((t : Int) + 4 * (a : Int)).toNat = t + 4 * a := by omega
        have q6 : (0 : Int) ≤ (t : Int) + 4 * (a : Int) + 4 * (c : Int) := by omega
        have q7 : (t : Int) + 4 * (a : Int) ≤ (t : Int) + 4 * (a : Int) + 4 * (c : Int) := by omega
        have q8 : (t : Int) + 4 * (a : Int) + 4 * (c : Int) ≤ (v.size : Int) := by omega
        have q9 : ((t : Int) + 4 * (a : Int) + 4 * (c : Int)).toNat = t + 4 * a + 4 * c := by omega
        have q10 : (0 : Int) ≤ (t : Int) + 4 * ((a : Int) + (bb : Int) + (c : Int)) := by omega
        have q11 : (t : Int) + 4 * (a : Int) + 4 * (c : Int) ≤ (t : Int) + 4 * ((a : Int) + (bb : Int) + (c : Int)) := by omega
        have q12 : (t : Int) + 4 * ((a : Int) + (bb : Int) + (c : Int)) ≤ (v.size : Int) := by omega
        have q13 : ((t : Int) + 4 * ((a : Int) + (bb : Int) + (c : Int))).toNat = t + m := by omega
        have q14 : (0 : Int) ≤ 4 * (c : Int) := by omega
        have HNA := Lib.hid NA
        have HNB := Lib.hid NB
        have HNC := Lib.hid NC
        clear hmi NA NB NC
        go_upto_region 13 with (fail)
        go_cut [18] (fun p wx => p = .pointer (some ⟨wr.heap.size, 0, none⟩) ∧ wr.drew.alloc (.cells #[.int .u64 (c0 : Int), .int .u64 (c1 : Int), .int .u64 (c2 : Int)] 84) = wx)
        case first =>
          go_region_held3 (fun _ => True) (trivial)
            (first
              | (go_at_call 66; (with_reducible refine (HNA.out _).mono ?_); rintro e w' ⟨rfl, rfl⟩)
              | (go_at_call 66; (with_reducible refine (HNB.out _).mono ?_); rintro e w' ⟨rfl, rfl⟩)
              | (go_at_call 66; (with_reducible refine (HNC.out _).mono ?_); rintro e w' ⟨rfl, rfl⟩)
              | fail)
          all_goals (go_wp2_with fail; go_meet; exact ⟨rfl, rfl⟩)
        case rest =>
          obtain ⟨hp, hW⟩ := hcut
          have y0 : wc.cell? ⟨wr.heap.size, 0, none⟩ = some (.int .u64 (c0 : Int)) := by rw [← hW]; exact cell_of_row _ _ _ _ _ _ (heap_alloc_new wr.drew _)
          have y1 : wc.cell? ⟨wr.heap.size, 1, none⟩ = some (.int .u64 (c1 : Int)) := by rw [← hW]; exact cell_of_row _ _ _ _ _ _ (heap_alloc_new wr.drew _)
          have y2 : wc.cell? ⟨wr.heap.size, 2, none⟩ = some (.int .u64 (c2 : Int)) := by rw [← hW]; exact cell_of_row _ _ _ _ _ _ (heap_alloc_new wr.drew _)
          have hbW : Below wr.heap.size wr wc := by rw [← hW]; exact ((Below.refl _ wr).drew).alloc (Nat.le_refl _) _
          have HBW := Lib.hid hbW
          have hsW := hbW.size
          have HROW2 := Lib.hid (own_kept HROW.out fun g _ hlt => hbW.block g hlt)
          have FA0 := fun W => rfits_any c0 c2 hc0 hc2 W
          have FB0 := fun W => rfits_any c1 c2 hc1 hc2 W
          generalize wr.heap.size = gB at *
          subst hp
          clear hW hbW q1 q2 q3 q4 q5 q6 q7 q8 q9 q10 q11 q12 q13 q14 w1 w2 w3 w4 w5 HNA HNB HNC
          have hbad : (fitsB c0 c2 && fitsB c1 c2) = false → r = false := fun h => by
            rw [HRR.out, ← HDR.out, HST.out, List.map_append, List.map_cons, List.all_append, List.all_cons]
            have : mpFits (mpOf [c0, c1, c2]) = false := h
            rw [this]; simp
          have HBAD := Lib.hid hbad
          clear hbad
          obtain ⟨X, hX⟩ : ∃ X, X = fitsB c0 c2 := ⟨_, rfl⟩
          obtain ⟨Y, hY⟩ : ∃ Y, Y = fitsB c1 c2 := ⟨_, rfl⟩
          rw [← hX] at FA0 HBAD
          rw [← hY] at FB0 HBAD
          have HX2 := Lib.hid hX
          have HY2 := Lib.hid hY
          clear hX hY
          cases X with
          | false =>
            have hr0 : r = false := HBAD.out rfl
            subst hr0
            have FA := Lib.hid FA0
            clear FA0 FB0
            go_wp2_with (first
              | (go_at_call 57; (with_reducible refine (FA.out _).mono ?_); rintro e w' ⟨rfl, rfl⟩)
              | fail)
            go_ret3
            exact ⟨mapsR_no 4 _ _, HB.out.trans (HBW.out.mono hbs)⟩
          | true =>
          cases Y with
          | false =>
            have hr0 : r = false := HBAD.out rfl
            subst hr0
            have FA := Lib.hid FA0
            have FB := Lib.hid FB0
            clear FA0 FB0
            go_wp2_with (first
              | (go_at_call 57; (with_reducible refine (FA.out _).mono ?_); rintro e w' ⟨rfl, rfl⟩)
              | (go_at_call 57; (with_reducible refine (FB.out _).mono ?_); rintro e w' ⟨rfl, rfl⟩)
              | fail)
            go_ret3
            exact ⟨mapsR_no 4 _ _, HB.out.trans (HBW.out.mono hbs)⟩
          | true =>
            have FA := Lib.hid FA0
            have FB := Lib.hid FB0
            clear FA0 FB0
            go_wp2_with (first
              | (go_at_call 57; (with_reducible refine (FA.out _).mono ?_); rintro e w' ⟨rfl, rfl⟩)
              | (go_at_call 57; (with_reducible refine (FB.out _).mono ?_); rintro e w' ⟨rfl, rfl⟩)
              | (at_builtin; refine wpList_push rfl (.tmp 127) (.tmp 129) 74 rfl w.heap.size 84 i1 _ 3 24 Try.underlying74 gi gz0 gz1 gz2 rfl (by decide) _ k (mpCells (D.map mpOf)) rfl HROW2.out #[.int .u64 (c0 : Int), .int .u64 (c1 : Int), .int .u64 (c2 : Int)] rfl rfl ?_ ?_ ?_ ?_ ?_)
              | fail)
            · exact ⟨rfl, rfl, rfl⟩
            · unfold maxLen; omega
            · omega
            · exact Nat.le_trans hbs hsW
            intro A3 c3 w3 hown3 hp3
            have hb3 : Below w.heap.size w w3 := (HB.out.trans (HBW.out.mono hbs)).trans hp3.low
            have hw2 : mpCells ((D ++ [[c0, c1, c2]]).map mpOf) = mpCells (D.map mpOf) ++ [.int .u64 (c0 : Int), .int .u64 (c1 : Int), .int .u64 (c2 : Int)] := by
              rw [List.map_append]
              unfold mpCells
              rw [List.flatMap_append]
              rfl
            have hown3' : w3.ownsRow w.heap.size 84 3 (.slice A3 (k + 1) c3) (k + 1) (mpCells ((D ++ [[c0, c1, c2]]).map mpOf)) := by rw [hw2]; exact hown3
            have H3 := Lib.hid hown3'
            have HB4 := Lib.hid hb3
            have hD2 : (D ++ [[c0, c1, c2]]).length = k + 1 := by rw [List.length_append, HDK.out]; rfl
            have hDR2 : (D ++ [[c0, c1, c2]]) ++ rowsF [a, c, bb] ((nl v).drop (t + m)) = R := by
              rw [← HDR.out, HST.out, List.drop_drop, List.append_assoc]; rfl
            have hf2 : ∀ x ∈ D ++ [[c0, c1, c2]], mpFits (mpOf x) = true := fun x hx => by
              rcases List.mem_append.1 hx with hx | hx
              · exact HFIT.out x hx
              · obtain rfl : x = [c0, c1, c2] := by simpa using hx
                show (fitsB c0 c2 && fitsB c1 c2) = true
                rw [← HX2.out, ← HY2.out]; rfl
            have ht2 : (t + m) % m = 0 := by rw [Nat.add_mod_right]; exact HTM.out
            have hmi := HMI.out
            have w5 : (t : Int) + 4 * ((a : Int) + (bb : Int) + (c : Int)) = ((t + m : Nat) : Int) := by omega
            have HW5 := Lib.hid w5
            have HD2 := Lib.hid hD2
            have HDR2 := Lib.hid hDR2
            have HF2 := Lib.hid hf2
            have HT2 := Lib.hid ht2
            clear hown3 hown3' hp3 hb3 hw2 hD2 hDR2 hf2 ht2 w5 hmi
            have hq : 4 * ((a : Int) + (bb : Int) + (c : Int)) ≤ 24 := by have := HMI.out; omega
            go_wp2_with fail
            go_roundw
            case rel => exact ⟨t + m, k + 1, A3, c3, D ++ [[c0, c1, c2]], by rw [HW5.out], hms, HT2.out, by omega, rfl, HD2.out, HDR2.out, HF2.out, H3.out, HB4.out⟩
            case measure => simp [intOf]; have := HMI.out; omega
      · have d0 : ¬ (t : Int) < (v.size : Int) := by omega
        have hR1 : D = R := by
          rw [← HDR.out, List.drop_eq_nil_of_le (by rw [nl_len]; omega), rows_nil, List.append_nil]
        subst hR1
        have hr1 : r = true := by
          rw [HRR.out, List.all_eq_true]
          intro x hx
          obtain ⟨y, hy, rfl⟩ := List.mem_map.1 hx
          exact HFIT.out y hy
        subst hr1
        go_wp2_with fail
        go_ret3
        refine ⟨?_, HB.out⟩
        have h8 : (D.map mpOf).length = k := by rw [List.length_map]; exact HDK.out
        show ∃ A c, _ = Ending.returned (.tuple #[.slice A (D.map mpOf).length c, .bool sm, .int .i64 0]) ∧ _
        rw [← VE.out]
        rw [h8]
        exact ⟨Aw, cw, rfl, HROW.out⟩
end Go.Proofs.Ytndocngkganpdaa
