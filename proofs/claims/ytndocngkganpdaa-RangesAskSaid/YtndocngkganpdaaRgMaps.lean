/- ranges.maps: the contract. -/
import Derived.BigQuiet
import Derived.Test.YtndocngkganpdaaRgReg
set_option linter.unusedVariables false
namespace Go.Proofs.Ytndocngkganpdaa
open Go.RowKit
theorem info79 : (Try.prog.info? 79).map (fun i => (i.zero, i.size, i.bytes)) = some (some (.agg #[.int .u64 0, .int .u64 0, .int .u64 0]), 3, 24) := by kernel_rfl
def mpOne (m : Mp) : List Value := [.int .u64 (m.k : Int), .int .u64 (m.a : Int), .int .u64 (m.s : Int)]
def mpCells (l : List Mp) : List Value := l.flatMap mpOne
theorem mp_len (m : Mp) : (mpOne m).length = 3 := rfl
theorem mpCells_len (l : List Mp) : (mpCells l).length = l.length * 3 := flat_length _ 3 mp_len l
/-- What maps gives. -/
def MapsR (t : TypeId) (m : List Mp × Bool × Int) (base : Nat) (e : Ending) (w' : World) : Prop := ∃ A c, e = .returned (.tuple #[.slice A m.1.length c, .bool m.2.1, .int .i64 m.2.2]) ∧ w'.ownsRow base t 3 (.slice A m.1.length c) m.1.length (mpCells m.1)
theorem mapsR_no {t : TypeId} (n : Int) (base : Nat) (w' : World) : MapsR t ([], false, n) base (.returned (.tuple #[.slice none 0 0, .bool false, .int .i64 n])) w' := ⟨none, 0, rfl, World.ownsRow_nil _ _ _ _⟩
theorem row_three {a b c : Nat} {r : List Nat} : ∀ (f : Nat) (l : List Nat), r ∈ rowsG [a, b, c] f l → r.length = 3
  | 0, l, h => by simp [rowsG] at h
  | f + 1, l, h => by
    unfold rowsG at h
    split at h
    · cases h
    · rcases List.mem_cons.1 h with rfl | h
      · exact rowF_len _ _
      · exact row_three f _ h
/-- The maps of a value. -/
def mpsF (a c b : Nat) (v : ByteArray) : List Mp × Bool × Int := if v.size % (4 * (a + c + b)) ≠ 0 then ([], false, 4)
      else if ((rowsF [a, c, b] (nl v)).map mpOf).all mpFits then ((rowsF [a, c, b] (nl v)).map mpOf, decide (v.size = 0), 0) else ([], false, 4)
theorem maps_none {l : List Nd} {i : Nat} (h : valF (psAt l i) kRng = none) : mapsF l i = ([], false, 6) := by unfold mapsF; rw [h]
theorem maps_form {l : List Nd} {i : Nat} {v : ByteArray} (h : valF (psAt l i) kRng = some v) (h2 : cellsF (psAt l i) = none ∨ cellsF (psAt l (parN l i)) = none) : mapsF l i = ([], false, 4) := by
  unfold mapsF; rw [h]
  rcases h2 with h2 | h2
  · rw [h2]
  · rw [h2]; cases cellsF (psAt l i) <;> rfl
theorem maps_some {l : List Nd} {i a b c d : Nat} {v : ByteArray} (h : valF (psAt l i) kRng = some v) (h2 : cellsF (psAt l i) = some (a, b)) (h3 : cellsF (psAt l (parN l i)) = some (c, d)) : mapsF l i = mpsF a c b v := by
  unfold mapsF mpsF; rw [h, h2, h3]
theorem mps_bad {a c b : Nat} {v : ByteArray} (h : v.size % (4 * (a + c + b)) ≠ 0) : mpsF a c b v = ([], false, 4) := by unfold mpsF; rw [if_pos h]
theorem mps_good {a c b : Nat} {v : ByteArray} (h : v.size % (4 * (a + c + b)) = 0) : mpsF a c b v = if ((rowsF [a, c, b] (nl v)).map mpOf).all mpFits then ((rowsF [a, c, b] (nl v)).map mpOf, decide (v.size = 0), 0) else ([], false, 4) := by
  unfold mpsF; rw [if_neg (fun hh => hh h)]
theorem spc_some {ps : List Pr} {a b : Nat} (h : cellsF ps = some (a, b)) : spcF ps = (a, b, 0) := by unfold spcF; rw [h]
theorem spc_none {ps : List Pr} (h : cellsF ps = none) : spcF ps = (0, 0, 4) := by unfold spcF; rw [h]
theorem tol_nil {v : ByteArray} (h : v.size ≠ 0) : (v.toList == []) = false := by
  have := str_eq v ⟨#[]⟩
  rw [show (⟨#[]⟩ : ByteArray).toList = [] from by rw [ByteArray.toList_eq]] at this
  rw [this]
  apply decide_eq_false
  rintro rfl
  exact h rfl
theorem tol_nil2 {v : ByteArray} (h : v.size ≠ 0) : v.toList.isEmpty = false := by
  have := tol_nil h
  cases hv : v.toList with
  | nil => rw [hv] at this; cases this
  | cons a t => rfl
set_option maxRecDepth 100000 in
set_option maxHeartbeats 16000000 in
theorem maps_any (A : Option Addr) (cap n : Nat) (l : List Nm) (hn : n = l.length) (hsz : Sized l) (hsh : ShortL (dat l)) (i : Nat) (hi : i < n) (hp : 0 ≤ parAt (dat l) i) (hp2 : parAt (dat l) i < n) (w : World) (B : Nat) (hB : B ≤ w.heap.size) (hs : Nodes w B A l) :
    Calls Try.prog 50 #[.slice A n cap, .int .i64 (i : Nat)] w fun e w' => MapsR 79 (mapsF (dat l) i) w.heap.size e w' ∧ Below w.heap.size w w' := by
  obtain ⟨i1, gi, gz0, gz1, gz2⟩ := info_parts info79
  have hil : i < l.length := by rw [← hn]; exact hi
  obtain ⟨p, hpp⟩ : ∃ p : Nat, parAt (dat l) i = (p : Int) := ⟨(parAt (dat l) i).toNat, by omega⟩
  have hpl : p < l.length := by rw [← hn]; omega
  have hpn : p < n := by omega
  have hpar : parN (dat l) i = p := by unfold parN; rw [hpp]; rfl
  have hip : l[i].d.p = (p : Int) := by rw [← par_get l hil]; exact hpp
  have hM1 : ∀ h : valF l[i].d.ps kRng = none, mapsF (dat l) i = ([], false, 6) := fun h => maps_none (by rw [ps_get l hil]; exact h)
  have hM2 : ∀ v, valF l[i].d.ps kRng = some v → cellsF l[i].d.ps = none ∨ cellsF l[p].d.ps = none → mapsF (dat l) i = ([], false, 4) := fun v h h2 => maps_form (by rw [ps_get l hil]; exact h) (by rw [hpar, ps_get l hil, ps_get l hpl]; exact h2)
  have hM3 : ∀ v a b c d, valF l[i].d.ps kRng = some v → cellsF l[i].d.ps = some (a, b) → cellsF l[p].d.ps = some (c, d) → mapsF (dat l) i = mpsF a c b v := fun v a b c d h h2 h3 => maps_some (by rw [ps_get l hil]; exact h) (by rw [ps_get l hil]; exact h2) (by rw [hpar, ps_get l hpl]; exact h3)
  generalize mapsF (dat l) i = M at *
  have hnn : n ≤ 2932031007403 := by have := hsz.n; omega
  have hii : (i : Int) < (n : Int) := by omega
  have hpi : (p : Int) < (n : Int) := by omega
  obtain ⟨b, off, rfl, hbB, x0, x1, x2, hq0⟩ := hs.at_ hil
  obtain ⟨b', off', e9, _, y0, y1, y2, hp0⟩ := hs.at_ hpl
  injection e9 with e9
  injection e9 with e91 e92
  subst e91 e92
  rw [hip] at x0
  have hszi := hsz.props l[i] (List.getElem_mem hil)
  have hszp := hsz.props l[p] (List.getElem_mem hpl)
  have hshi := hsh l[i].d (List.mem_map_of_mem (List.getElem_mem hil))
  have hshp := hsh l[p].d (List.mem_map_of_mem (List.getElem_mem hpl))
  have SP := fun W (hW : Below w.heap.size w W) => space_any l[p].d.p l[p].d.n l[p].A l[p].c l[p].d.ps.length l[p].d.ps rfl (by omega) hshp W B (Nat.le_trans hB hW.size) (hp0.below (hW.mono hB))
  have SI := fun W (hW : Below w.heap.size w W) => space_any l[i].d.p l[i].d.n l[i].A l[i].c l[i].d.ps.length l[i].d.ps rfl (by omega) hshi W B (Nat.le_trans hB hW.size) (hq0.below (hW.mono hB))
  have VA := value_any l[i].d.p l[i].d.n l[i].A l[i].c l[i].d.ps.length l[i].d.ps rfl (by omega) kRng w B hB hq0
  have hbw : b < w.heap.size := by omega
  have CX : ∀ W, Below w.heap.size w W → W.cell? ⟨b, off + i * 3, none⟩ = some (.int .i64 (p : Int)) ∧ W.cell? ⟨b, off + i * 3 + 1, none⟩ = some (.string l[i].d.n) ∧ W.cell? ⟨b, off + i * 3 + 2, none⟩ = some (.slice l[i].A l[i].d.ps.length l[i].c) := fun W hW => ⟨(hW.cell (p := ⟨b, off + i * 3, none⟩) hbw).trans x0, (hW.cell (p := ⟨b, off + i * 3 + 1, none⟩) hbw).trans x1, (hW.cell (p := ⟨b, off + i * 3 + 2, none⟩) hbw).trans x2⟩
  have CY : ∀ W, Below w.heap.size w W → W.cell? ⟨b, off + p * 3, none⟩ = some (.int .i64 l[p].d.p) ∧ W.cell? ⟨b, off + p * 3 + 1, none⟩ = some (.string l[p].d.n) ∧ W.cell? ⟨b, off + p * 3 + 2, none⟩ = some (.slice l[p].A l[p].d.ps.length l[p].c) := fun W hW => ⟨(hW.cell (p := ⟨b, off + p * 3, none⟩) hbw).trans y0, (hW.cell (p := ⟨b, off + p * 3 + 1, none⟩) hbw).trans y1, (hW.cell (p := ⟨b, off + p * 3 + 2, none⟩) hbw).trans y2⟩
  rw [hip] at VA SI
  have hsv := hshi
  generalize l[i].d.n = si at *
  generalize l[i].d.ps = Q at *
  generalize l[i].A = Ai at *
  generalize l[i].c = ci at *
  generalize l[p].d.p = pp at *
  generalize l[p].d.n = sp at *
  generalize l[p].d.ps = P at *
  generalize l[p].A = Ap at *
  generalize l[p].c = cp at *
  have HCX := Lib.hid CX
  have HCY := Lib.hid CY
  clear hn hpp hpar hip hp hp2 hq0 hp0 hszi hszp hshi hshp hsz hsh hil hpl hs y0 y1 y2 CX CY
  cases hv : valF Q kRng with
  | none =>
    obtain rfl := hM1 hv
    have e : valV Q kRng = (⟨#[]⟩, false) := by unfold valV; rw [hv]
    rw [e] at VA
    have HVA := Lib.hid VA
    clear SP SI VA e hv hM1 hM2 hM3 hsv
    go_enter Try.func50, Try.ntmps50
    go_wp2_with (first
      | (go_at_call 62; refine HVA.out.mono ?_; rintro e w1 ⟨rfl, hb1⟩
         have HB1 := Lib.hid hb1
         clear hb1)
      | fail)
    go_ret3
    exact ⟨mapsR_no 6 _ _, HB1.out⟩
  | some v =>
    have e : valV Q kRng = (v, true) := by unfold valV; rw [hv]
    rw [e] at VA
    have hvs : v.size ≤ 1048576 := val_short hsv hv
    have HVA := Lib.hid VA
    have hM2 := hM2 v hv
    have hM3 := fun a b c d => hM3 v a b c d hv
    clear VA e hv hM1 hsv
    cases hca : cellsF Q with
    | none =>
      obtain rfl := hM2 (.inl hca)
      obtain ⟨c1, c2, c3, hc⟩ : ∃ a1 a2 a3, spcF P = (a1, a2, a3) := ⟨_, _, _, rfl⟩
      rw [hc] at SP
      rw [spc_none hca] at SI
      have HSI := Lib.hid SI
      have HSP := Lib.hid SP
      clear SI SP hca hc hM2 hM3
      go_enter Try.func50, Try.ntmps50
      go_wp2_with (first
        | (go_at_call 62; refine HVA.out.mono ?_; rintro e w1 ⟨rfl, hb1⟩
           have HB1 := Lib.hid hb1
           obtain ⟨z0, z1, z2⟩ := HCX.out _ hb1
           clear hb1)
        | (go_at_call 48; refine (HSP.out _ HB2.out).mono ?_; rintro e w3 ⟨rfl, hb3⟩
           have HB3 := Lib.hid (HB2.out.trans (hb3.mono HB2.out.size))
           clear hb3)
        | (go_at_call 48; refine (HSI.out _ HB1.out).mono ?_; rintro e w2 ⟨rfl, hb2⟩
           have HB2 := Lib.hid (HB1.out.trans (hb2.mono HB1.out.size))
           obtain ⟨u0, u1, u2⟩ := HCX.out _ HB2.out
           obtain ⟨t0, t1, t2⟩ := HCY.out _ HB2.out
           clear hb2)
        | fail)
      go_ret3
      exact ⟨mapsR_no 4 _ _, HB3.out⟩
    | some ab =>
    obtain ⟨a, bb⟩ := ab
    cases hcb : cellsF P with
    | none =>
      obtain rfl := hM2 (.inr hcb)
      rw [spc_none hcb] at SP
      rw [spc_some hca] at SI
      have HSI := Lib.hid SI
      have HSP := Lib.hid SP
      clear SI SP hca hcb hM2 hM3
      go_enter Try.func50, Try.ntmps50
      go_wp2_with (first
        | (go_at_call 62; refine HVA.out.mono ?_; rintro e w1 ⟨rfl, hb1⟩
           have HB1 := Lib.hid hb1
           obtain ⟨z0, z1, z2⟩ := HCX.out _ hb1
           clear hb1)
        | (go_at_call 48; refine (HSP.out _ HB2.out).mono ?_; rintro e w3 ⟨rfl, hb3⟩
           have HB3 := Lib.hid (HB2.out.trans (hb3.mono HB2.out.size))
           clear hb3)
        | (go_at_call 48; refine (HSI.out _ HB1.out).mono ?_; rintro e w2 ⟨rfl, hb2⟩
           have HB2 := Lib.hid (HB1.out.trans (hb2.mono HB1.out.size))
           obtain ⟨u0, u1, u2⟩ := HCX.out _ HB2.out
           obtain ⟨t0, t1, t2⟩ := HCY.out _ HB2.out
           clear hb2)
        | fail)
      go_ret3
      exact ⟨mapsR_no 4 _ _, HB3.out⟩
    | some cd =>
    obtain ⟨c, dd⟩ := cd
    obtain rfl := hM3 a bb c dd hca hcb
    obtain ⟨ca1, ca2, cb⟩ := cells_bd hca
    obtain ⟨cc1, cc2, _⟩ := cells_bd hcb
    rw [spc_some hca] at SI
    rw [spc_some hcb] at SP
    have HSI := Lib.hid SI
    have HSP := Lib.hid SP
    have hw : wide [a, c, bb] = 4 * (a + c + bb) := by unfold wide; simp; omega
    have RW := fun W => rows_any v hvs (some ⟨W.heap.size, 0, none⟩) 3 3 [a, c, bb] rfl (by rw [hw]; omega) (by intro x hx; simp at hx; omega) (by omega) (W.alloc (.cells #[.int .i64 (a : Int), .int .i64 (c : Int), .int .i64 (bb : Int)] 3)) (W.heap.size + 1) (by simp) (seg_new W 3 #[.int .i64 (a : Int), .int .i64 (c : Int), .int .i64 (bb : Int)])
    have HRW := Lib.hid RW
    clear SI SP hca hcb hM2 hM3 RW
    by_cases hm : v.size % wide [a, c, bb] = 0
    case neg =>
      have RW2 : ∀ W : World, Calls Try.prog 63 #[.string v, .slice (some ⟨W.heap.size, 0, none⟩) 3 3] (W.alloc (.cells #[.int .i64 (a : Int), .int .i64 (c : Int), .int .i64 (bb : Int)] 3)) fun e w' => e = .returned (.tuple #[.slice none 0 0, .int .i64 4]) ∧ Below (W.alloc (.cells #[.int .i64 (a : Int), .int .i64 (c : Int), .int .i64 (bb : Int)] 3)).heap.size (W.alloc (.cells #[.int .i64 (a : Int), .int .i64 (c : Int), .int .i64 (bb : Int)] 3)) w' := fun W => (HRW.out W).mono fun e w' h => ⟨rowsR_bad hm h.1, h.2⟩
      have HR2 := Lib.hid RW2
      have HW : mpsF a c bb v = ([], false, 4) := mps_bad (by rw [← hw]; exact hm)
      rw [HW]
      have hv1 := tol_nil (v := v) (fun h => hm (by rw [h]; exact Nat.zero_mod _))
      have hv2 := tol_nil2 (v := v) (fun h => hm (by rw [h]; exact Nat.zero_mod _))
      clear RW2 HW hm hw HRW
      go_enter Try.func50, Try.ntmps50
      go_wp2_with (first
        | (go_at_call 62; refine HVA.out.mono ?_; rintro e w1 ⟨rfl, hb1⟩
           have HB1 := Lib.hid hb1
           obtain ⟨z0, z1, z2⟩ := HCX.out _ hb1
           clear hb1)
        | (go_at_call 48; refine (HSP.out _ HB2.out).mono ?_; rintro e w3 ⟨rfl, hb3⟩
           have HB3 := Lib.hid (HB2.out.trans (hb3.mono HB2.out.size))
           clear hb3)
        | (go_at_call 48; refine (HSI.out _ HB1.out).mono ?_; rintro e w2 ⟨rfl, hb2⟩
           have HB2 := Lib.hid (HB1.out.trans (hb2.mono HB1.out.size))
           obtain ⟨u0, u1, u2⟩ := HCX.out _ HB2.out
           obtain ⟨t0, t1, t2⟩ := HCY.out _ HB2.out
           clear hb2)
        | (go_at_call 63; refine (HR2.out _).mono ?_; rintro e w4 ⟨rfl, hb4⟩
           have HB4 := Lib.hid ((HB3.out.alloc HB3.out.size _).trans (hb4.mono (HB3.out.alloc HB3.out.size _).size))
           clear hb4)
        | fail)
      refine wp_loop_rounds 1 ?_
      rw [rounds_succ]
      go_wp2_with fail
      go_ret3
      exact ⟨mapsR_no 4 _ _, HB4.out⟩
    have RW2 : ∀ W : World, Calls Try.prog 63 #[.string v, .slice (some ⟨W.heap.size, 0, none⟩) 3 3] (W.alloc (.cells #[.int .i64 (a : Int), .int .i64 (c : Int), .int .i64 (bb : Int)] 3)) fun e w' => (∃ AL cL L, e = .returned (.tuple #[.slice AL L.length cL, .int .i64 0]) ∧ OwnR w' (W.alloc (.cells #[.int .i64 (a : Int), .int .i64 (c : Int), .int .i64 (bb : Int)] 3)).heap.size AL L.length cL L ∧ L.map Rw.row = rowsF [a, c, bb] (nl v)) ∧ Below (W.alloc (.cells #[.int .i64 (a : Int), .int .i64 (c : Int), .int .i64 (bb : Int)] 3)).heap.size (W.alloc (.cells #[.int .i64 (a : Int), .int .i64 (c : Int), .int .i64 (bb : Int)] 3)) w' := fun W => (HRW.out W).mono fun e w' h => ⟨rowsR_good hm h.1, h.2⟩
    have HR2 := Lib.hid RW2
    have HW : mpsF a c bb v = if ((rowsF [a, c, bb] (nl v)).map mpOf).all mpFits then ((rowsF [a, c, bb] (nl v)).map mpOf, decide (v.size = 0), 0) else ([], false, 4) := mps_good (by rw [← hw]; exact hm)
    rw [HW]
    have HLT := Lib.hid (rowsF_lt [a, c, bb] (nl v) (nl_lt v) (by intro x hx; simp at hx; omega))
    have HLN := Lib.hid (rowsF_len [a, c, bb] (nl v))
    have HTW := Lib.hid (fun r (h : r ∈ rowsF [a, c, bb] (nl v)) => row_three _ _ h)
    rw [nl_len] at HLN
    clear RW2 HW hm hw HRW
    generalize rowsF [a, c, bb] (nl v) = R at *
    obtain ⟨r, hr⟩ : ∃ r, r = (R.map mpOf).all mpFits := ⟨_, rfl⟩
    rw [← hr]
    have HRR := Lib.hid hr
    clear hr
    have ve : v.toList.isEmpty = decide (v.size = 0) := by
      by_cases h : v.size = 0
      · obtain rfl : v = ⟨#[]⟩ := by
          apply ByteArray.ext; exact Array.eq_empty_of_size_eq_zero h
        rw [decide_eq_true h, ByteArray.toList_eq]; rfl
      · rw [decide_eq_false h]; exact tol_nil2 h
    obtain ⟨sm, hsm⟩ : ∃ sm, sm = decide (v.size = 0) := ⟨_, rfl⟩
    rw [← hsm] at ve ⊢
    have VE := Lib.hid ve
    clear hsm
    clear ve
    go_enter Try.func50, Try.ntmps50
    go_wp2_with (first
      | (go_at_call 62; refine HVA.out.mono ?_; rintro e w1 ⟨rfl, hb1⟩
         have HB1 := Lib.hid hb1
         obtain ⟨z0, z1, z2⟩ := HCX.out _ hb1
         clear hb1)
      | (go_at_call 48; refine (HSP.out _ HB2.out).mono ?_; rintro e w3 ⟨rfl, hb3⟩
         have HB3 := Lib.hid (HB2.out.trans (hb3.mono HB2.out.size))
         clear hb3)
      | (go_at_call 48; refine (HSI.out _ HB1.out).mono ?_; rintro e w2 ⟨rfl, hb2⟩
         have HB2 := Lib.hid (HB1.out.trans (hb2.mono HB1.out.size))
         obtain ⟨u0, u1, u2⟩ := HCX.out _ HB2.out
         obtain ⟨t0, t1, t2⟩ := HCY.out _ HB2.out
         clear hb2)
      | (go_at_call 63; refine (HR2.out _).mono ?_; rintro e w4 ⟨⟨AL, cL, L, rfl, hown, hrows⟩, hb4⟩
         have HB4 := Lib.hid ((HB3.out.alloc HB3.out.size _).trans (hb4.mono (HB3.out.alloc HB3.out.size _).size))
         have HO := Lib.hid hown
         have HR := Lib.hid hrows
         clear hb4 hown hrows)
      | fail)
    have hLR : L.length = R.length := by rw [← HR.out, List.length_map]
    obtain ⟨N, hN⟩ : ∃ N, N = L.length := ⟨_, rfl⟩
    rw [← hN] at HO hLR ⊢
    have HNL := Lib.hid hN
    have HNR := Lib.hid hLR
    have hNb : N ≤ 1048576 := by have := HLN.out; omega
    clear hN hLR z0 z1 z2 u0 u1 u2 t0 t1 t2 x0 x1 x2
    go_loopw [16, 68] (fun wv iv wx => ∃ (k : Nat) (Aw : Option Addr) (cw : Nat), k ≤ N ∧ iv = .int .i64 k ∧ wv = .slice Aw k cw ∧ wx.ownsRow w.heap.size 79 3 wv k (mpCells ((R.take k).map mpOf)) ∧ (∀ j (hj : j < R.length), j < k → mpFits (mpOf R[j]) = true) ∧ OwnR wx w.heap.size AL N cL L ∧ Below w.heap.size w wx) (fun _ iv _ => N - (intOf iv).toNat)
    case atStart => exact ⟨0, none, 0, by omega, rfl, rfl, World.ownsRow_nil _ _ _ _, fun j _ h => absurd h (Nat.not_lt_zero j), HO.out.base_ (HB3.out.alloc HB3.out.size _).size, HB4.out⟩
    case round =>
      obtain ⟨k, Aw, cw, hk, rfl, rfl, hrow, hfit, hown, hb⟩ := hrel
      have HROW := Lib.hid hrow
      have HFIT := Lib.hid hfit
      have HOW := Lib.hid hown
      have HB := Lib.hid hb
      have hbs := hb.size
      clear hrow hfit hown hb
      by_cases hkN : k < N
      · have hkL : k < L.length := by rw [← HNL.out]; exact hkN
        have hkR : k < R.length := by rw [← HNR.out]; exact hkN
        have hki : (k : Int) < (N : Int) := by omega
        have hrk : L[k].row = R[k] := by
          have := HR.out
          subst this
          rw [List.getElem_map]
        have h2 := HTW.out R[k] (List.getElem_mem hkR)
        have hlt := HLT.out R[k] (List.getElem_mem hkR)
        obtain ⟨c0, c1, c2, hcc⟩ : ∃ c0 c1 c2, R[k] = [c0, c1, c2] := by
          match hh : R[k], h2 with
          | [x, y, z], _ => exact ⟨x, y, z, rfl⟩
        rw [hcc] at hrk hlt
        have hc0 := hlt c0 (by simp)
        have hc1 := hlt c1 (by simp)
        have hc2 := hlt c2 (by simp)
        obtain ⟨ga, oa, eA, _, xa⟩ := own_seg HOW.out.row (by intro h; rw [List.map_eq_nil_iff] at h; rw [h] at hkL; exact absurd hkL (Nat.not_lt_zero k))
        subst eA
        have xk := xa k L[k].val (by rw [List.getElem?_map, List.getElem?_eq_getElem hkL]; rfl)
        have hrw := HOW.out.rows L[k] (List.getElem_mem hkL)
        obtain ⟨gb, ob, eB, hgb, xb⟩ := own_seg hrw (by rw [hrk]; simp [u64s])
        have hne := Lib.hid (show (Value.slice Aw k cw).ownBlock ≠ some gb from fun e => own_types HROW.out hrw (by decide) gb e (by show L[k].val.ownBlock = some gb; unfold Rw.val; rw [eB]; rfl))
        rw [hrk] at xb
        have b0 := xb 0 (.int .u64 (c0 : Int)) (by simp [u64s])
        have b1 := xb 1 (.int .u64 (c1 : Int)) (by simp [u64s])
        have b2 := xb 2 (.int .u64 (c2 : Int)) (by simp [u64s])
        rw [Nat.add_zero] at b0
        unfold Rw.val at xk
        rw [hrk, eB] at xk
        simp only [List.length_cons, List.length_nil, Nat.zero_add] at xk
        have HCC := Lib.hid hcc
        have FA0 := fun W => fits_any c0 c2 hc0 hc2 W
        have FB0 := fun W => fits_any c1 c2 hc1 hc2 W
        have hfk : mpFits (mpOf R[k]) = (fitsB c0 c2 && fitsB c1 c2) := by rw [hcc]; rfl
        have hbad : (fitsB c0 c2 && fitsB c1 c2) = false → r = false := fun h => by
          rw [HRR.out, List.all_eq_false]
          exact ⟨mpOf R[k], List.mem_map_of_mem (List.getElem_mem hkR), by rw [hfk, h]; simp⟩
        have HBAD := Lib.hid hbad
        have HFK := Lib.hid hfk
        clear xa xb hrw hlt hrk h2 hcc eB hbad hfk
        obtain ⟨X, hX⟩ : ∃ X, X = fitsB c0 c2 := ⟨_, rfl⟩
        obtain ⟨Y, hY⟩ : ∃ Y, Y = fitsB c1 c2 := ⟨_, rfl⟩
        rw [← hX] at FA0 HBAD HFK
        rw [← hY] at FB0 HBAD HFK
        clear hX hY
        cases X with
        | false =>
          obtain rfl : r = false := HBAD.out rfl
          have FA := Lib.hid FA0
          clear FA0 FB0
          go_wp2_with fail
          go_quiet ((go_at_call 29; exact Calls.quiet_of_same (turn_same (FA.out _))))
          go_wp2_with fail
          go_ret3
          exact ⟨mapsR_no 4 _ _, below_drewN HB.out _⟩
        | true =>
        cases Y with
        | false =>
          obtain rfl : r = false := HBAD.out rfl
          have FA := Lib.hid FA0
          have FB := Lib.hid FB0
          clear FA0 FB0
          go_wp2_with fail
          go_quiet ((go_at_call 29; first | with_reducible exact Calls.quiet_of_same (turn_same (FA.out _)) | with_reducible exact Calls.quiet_of_same (turn_same (FB.out _))))
          go_wp2_with fail
          go_ret3
          exact ⟨mapsR_no 4 _ _, below_drewN HB.out _⟩
        | true =>
          have FA := Lib.hid FA0
          have FB := Lib.hid FB0
          clear FA0 FB0
          go_wp2_with fail
          go_quiet ((go_at_call 29; first | with_reducible exact Calls.quiet_of_same (turn_same (FA.out _)) | with_reducible exact Calls.quiet_of_same (turn_same (FB.out _))))
          go_wp2_with fail
          refine wp_region_held_drew (S := fun W => W.cell? ⟨gb, ob, none⟩ = some (.int .u64 (c0 : Int)) ∧ W.cell? ⟨gb, ob + 1, none⟩ = some (.int .u64 (c1 : Int)) ∧ W.cell? ⟨gb, ob + 2, none⟩ = some (.int .u64 (c2 : Int))) (by kernel_rfl) ⟨b0, b1, b2⟩ (fun hHeld => ?_)
          (refine held_take (i := 0) rfl rfl (by kernel_rfl) (by kernel_rfl) (by kernel_rfl) (fun _ _ _ h => h) (by rfl) (by intro w hSw; obtain ⟨hS1, hS2, hS3⟩ := hSw; go_simp; first | done | with_reducible rfl) (by assumption) ?_; try simp only [Act.put, List.setIfInBounds_toArray, List.set_cons_zero, List.set_cons_succ])
          (refine held_take (i := 1) rfl rfl (by kernel_rfl) (by kernel_rfl) (by kernel_rfl) (fun _ _ _ h => h) (by rfl) (by intro w hSw; obtain ⟨hS1, hS2, hS3⟩ := hSw; go_simp; first | done | with_reducible rfl) (by assumption) ?_; try simp only [Act.put, List.setIfInBounds_toArray, List.set_cons_zero, List.set_cons_succ])
          (refine held_take (i := 2) rfl rfl (by kernel_rfl) (by kernel_rfl) (by kernel_rfl) (fun _ _ _ h => h) (by rfl) (by intro w hSw; obtain ⟨hS1, hS2, hS3⟩ := hSw; go_simp; first | done | with_reducible rfl) (by assumption) ?_; try simp only [Act.put, List.setIfInBounds_toArray, List.set_cons_zero, List.set_cons_succ])
          (refine held_take (i := 3) rfl rfl (by kernel_rfl) (by kernel_rfl) (by kernel_rfl) (fun _ _ _ h => h) (by rfl) (by intro w hSw; obtain ⟨hS1, hS2, hS3⟩ := hSw; go_simp; first | done | with_reducible rfl) (by assumption) ?_; try simp only [Act.put, List.setIfInBounds_toArray, List.set_cons_zero, List.set_cons_succ])
          (refine held_take (i := 4) rfl rfl (by kernel_rfl) (by kernel_rfl) (by kernel_rfl) (fun _ _ _ h => h) (by rfl) (by intro w hSw; obtain ⟨hS1, hS2, hS3⟩ := hSw; go_simp; first | done | with_reducible rfl) (by assumption) ?_; try simp only [Act.put, List.setIfInBounds_toArray, List.set_cons_zero, List.set_cons_succ])
          (refine held_take (i := 5) rfl rfl (by kernel_rfl) (by kernel_rfl) (by kernel_rfl) (fun _ _ _ h => h) (by rfl) (by intro w hSw; obtain ⟨hS1, hS2, hS3⟩ := hSw; go_simp; first | done | with_reducible rfl) (by assumption) ?_; try simp only [Act.put, List.setIfInBounds_toArray, List.set_cons_zero, List.set_cons_succ])
          (refine held_take (i := 6) rfl rfl (by kernel_rfl) (by kernel_rfl) (by kernel_rfl) (fun _ _ _ h => h) (by rfl) (by intro w hSw; obtain ⟨hS1, hS2, hS3⟩ := hSw; go_simp; first | done | with_reducible rfl) (by assumption) ?_; try simp only [Act.put, List.setIfInBounds_toArray, List.set_cons_zero, List.set_cons_succ])
          (refine held_take (i := 7) rfl rfl (by kernel_rfl) (by kernel_rfl) (by kernel_rfl) (fun _ _ _ h => h) (by rfl) (by intro w hSw; obtain ⟨hS1, hS2, hS3⟩ := hSw; go_simp; first | done | with_reducible rfl) (by assumption) ?_; try simp only [Act.put, List.setIfInBounds_toArray, List.set_cons_zero, List.set_cons_succ])
          (refine held_take (i := 8) rfl rfl (by kernel_rfl) (by kernel_rfl) (by kernel_rfl) (fun _ _ _ h => h) (by rfl) (by intro w hSw; obtain ⟨hS1, hS2, hS3⟩ := hSw; go_simp; first | done | with_reducible rfl) (by assumption) ?_; try simp only [Act.put, List.setIfInBounds_toArray, List.set_cons_zero, List.set_cons_succ])
          (refine held_take (i := 9) rfl rfl (by kernel_rfl) (by kernel_rfl) (by kernel_rfl) (fun _ _ _ h => h) (by rfl) (by intro w hSw; obtain ⟨hS1, hS2, hS3⟩ := hSw; go_simp; first | done | with_reducible rfl) (by assumption) ?_; try simp only [Act.put, List.setIfInBounds_toArray, List.set_cons_zero, List.set_cons_succ])
          (refine held_take (i := 10) rfl rfl (by kernel_rfl) (by kernel_rfl) (by kernel_rfl) (fun _ _ _ h => h) (by rfl) (by intro w hSw; obtain ⟨hS1, hS2, hS3⟩ := hSw; go_simp; first | done | with_reducible rfl) (by assumption) ?_; try simp only [Act.put, List.setIfInBounds_toArray, List.set_cons_zero, List.set_cons_succ])
          refine wpAnyH_ready (rs := [11]) (by kernel_rfl) (by simp) ?_
          refine AllReadyH.cons rfl (fun K hK => ?_) AllReadyH.nil
          go_simp
          refine hK.out _ _ ⟨(World.cell?_alloc_lt _ _ _ (by exact hgb)).trans b0, (World.cell?_alloc_lt _ _ _ (by exact hgb)).trans b1, (World.cell?_alloc_lt _ _ _ (by exact hgb)).trans b2⟩ (fun hHeld => ?_)
          clear hK K
          try simp only [Act.put, List.setIfInBounds_toArray, List.set_cons_zero, List.set_cons_succ]
          refine wpAnyH_ready (rs := [12]) (by kernel_rfl) (by simp) ?_
          refine AllReadyH.cons rfl (fun K hK => ?_) AllReadyH.nil
          have O1 : (wr.drewN (nq + 1)).ownsRow w.heap.size 79 3 (.slice Aw k cw) k (mpCells ((R.take k).map mpOf)) := HROW.out
          refine step_append_seg rfl (.tmp 90) (.tmp 101) 57 rfl w.heap.size 79 i1 _ 3 24 Try.underlying57 gi gz0 gz1 gz2 rfl (by decide) (.slice Aw k cw) k (mpCells ((R.take k).map mpOf)) rfl (O1.alloc _) (wr.heap.size + 1) (some ⟨wr.heap.size, 0, none⟩) 1 1 [.int .u64 (c0 : Int), .int .u64 (c1 : Int), .int .u64 (c2 : Int)] rfl rfl (seg_new (wr.drewN (nq + 1)) 79 #[.int .u64 (c0 : Int), .int .u64 (c1 : Int), .int .u64 (c2 : Int)]) (by intro u hu; simp at hu; rcases hu with rfl | rfl | rfl <;> rfl) (by unfold maxLen; omega) (by omega) (by show _ ≤ ((wr.drewN (nq + 1)).alloc _).heap.size; rw [World.size_alloc]; exact Nat.le_trans hbs (Nat.le_succ _)) ?_
          intro v3 w3 hown3 hg3 _
          have hkeep : ∀ g, g < wr.heap.size → (Value.slice Aw k cw).ownBlock ≠ some g → w3.heap[g]? = wr.heap[g]? := fun g hlt hne => (hg3.block g (by show _ < ((wr.drewN (nq + 1)).alloc _).heap.size; rw [World.size_alloc]; exact Nat.lt_succ_of_lt hlt) (fun e => hne e.symm)).trans (Below.heap_alloc _ _ _ hlt)
          have HOW3 : OwnR w3 w.heap.size (some ⟨ga, oa, none⟩) N cL L := ⟨HOW.out.len, own_keep HOW.out.row fun g hg hlt => hkeep g hlt (fun e => own_types HROW.out HOW.out.row (by decide) g e hg), fun x hx => own_keep (HOW.out.rows x hx) fun g hg hlt => hkeep g hlt (fun e => own_types HROW.out (HOW.out.rows x hx) (by decide) g e hg)⟩
          have hb4 : Below w.heap.size w w3 := Below.grown ((below_drewN HB.out (nq + 1)).alloc hbs _) hg3 (by show _ ≤ ((wr.drewN (nq + 1)).alloc _).heap.size; rw [World.size_alloc]; exact Nat.le_trans hbs (Nat.le_succ _)) (fun g hg => (O1.lt g hg).1)
          have hcg : ∀ (o : Nat) (u : Value), wr.cell? ⟨gb, o, none⟩ = some u → w3.cell? ⟨gb, o, none⟩ = some u := fun o u h => (World.cell?_of_block (hkeep gb hgb hne.out)).trans h
          refine hK.out _ _ ⟨hcg _ _ b0, hcg _ _ b1, hcg _ _ b2⟩ (fun hHeld => ?_)
          clear hK K
          try simp only [Act.put, List.setIfInBounds_toArray]
          (refine held_take (i := 13) rfl rfl (by kernel_rfl) (by kernel_rfl) (by kernel_rfl) (fun _ _ _ h => h) (by rfl) (by intro w hSw; obtain ⟨hS1, hS2, hS3⟩ := hSw; go_simp; first | done | with_reducible rfl) (by assumption) ?_; try simp only [Act.put])
          refine wpAnyH_done (by kernel_rfl) ?_ _
          obtain ⟨A3, c3, rfl⟩ := own_shape hown3
          have hf2 : ∀ j (hj : j < R.length), j < k + 1 → mpFits (mpOf R[j]) = true := fun j hj hjk => by
            rcases (show j < k ∨ j = k by omega) with h2 | rfl
            · exact HFIT.out j hj h2
            · exact HFK.out
          have hw2 : mpCells ((R.take (k + 1)).map mpOf) = mpCells ((R.take k).map mpOf) ++ [.int .u64 (c0 : Int), .int .u64 (c1 : Int), .int .u64 (c2 : Int)] := by
            rw [List.take_succ_eq_append_getElem hkR, HCC.out, List.map_append]
            unfold mpCells
            rw [List.flatMap_append]
            rfl
          rw [← hw2] at hown3
          have HO3 := Lib.hid hown3
          have HF2 := Lib.hid hf2
          have H3 := Lib.hid HOW3
          have HB5 := Lib.hid hb4
          clear hown3 hg3 hkeep HOW3 hb4 hf2 hw2 hcg
          go_wp2_with fail
          exact ⟨⟨k + 1, A3, c3, by omega, by go_num, rfl, HO3.out, HF2.out, H3.out, HB5.out⟩, by simp [intOf]; omega⟩
      · obtain rfl : k = N := by omega
        have hr1 : r = true := by
          rw [HRR.out, List.all_eq_true]
          intro x hx
          obtain ⟨y, hy, rfl⟩ := List.mem_map.1 hx
          obtain ⟨j, hj, rfl⟩ := List.mem_iff_getElem.1 hy
          exact HFIT.out j hj (by rw [HNR.out]; exact hj)
        subst hr1
        go_wp2_with fail
        go_ret3
        have h9 := HROW.out
        rw [List.take_of_length_le (by rw [HNR.out]; exact Nat.le_refl _)] at h9
        have h8 : (R.map mpOf).length = k := by rw [List.length_map]; exact HNR.out.symm
        refine ⟨?_, HB.out⟩
        show ∃ A c, _ = Ending.returned (.tuple #[.slice A (R.map mpOf).length c, .bool sm, .int .i64 0]) ∧ _
        rw [← VE.out]
        rw [h8]
        exact ⟨Aw, cw, rfl, h9⟩
end Go.Proofs.Ytndocngkganpdaa
