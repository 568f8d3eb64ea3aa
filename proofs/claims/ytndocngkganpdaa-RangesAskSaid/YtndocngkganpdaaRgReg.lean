/- ranges.reg: the contract. -/
import Derived.BigQuiet
import Derived.Test.YtndocngkganpdaaHeld
set_option linter.unusedVariables false
namespace Go.Proofs.Ytndocngkganpdaa
open Go.RowKit
theorem info31 : (Try.prog.info? 31).map (fun i => (i.zero, i.size, i.bytes)) = some (some (.agg #[.int .u64 0, .int .u64 0]), 2, 16) := by kernel_rfl
/-- No value of the list is long. -/
def ShortL (l : List Nd) : Prop := ∀ x ∈ l, Short x.ps
theorem ps_get (l : List Nm) {k : Nat} (hk : k < l.length) : psAt (dat l) k = l[k].d.ps := by
  unfold psAt
  rw [List.getElem?_eq_getElem (by rw [dat_len]; exact hk), dat_get l hk]
def wiCells (p : Nat × Nat) : List Value := [.int .u64 (p.1 : Int), .int .u64 (p.2 : Int)]
def winCells (l : List (Nat × Nat)) : List Value := l.flatMap wiCells
theorem wi_len (p : Nat × Nat) : (wiCells p).length = 2 := rfl
def wiOf (r : List Nat) : Nat × Nat := (r.getD 0 0, r.getD 1 0)
theorem OwnR.base_ {w : World} {base b n c : Nat} {A : Option Addr} {L : List Rw} (h : OwnR w base A n c L) (hb : b ≤ base) : OwnR w b A n c L := ⟨h.len, own_base h.row hb, fun x hx => own_base (h.rows x hx) hb⟩
/-- What reg gives. -/
def RegR (o : Option (List (Nat × Nat))) (base : Nat) (e : Ending) (w' : World) : Prop := match o with
  | none => e = .returned (.tuple #[.slice none 0 0, .int .i64 4])
  | some L => ∃ A c, e = .returned (.tuple #[.slice A L.length c, .int .i64 0]) ∧ w'.ownsRow base 31 2 (.slice A L.length c) L.length (winCells L)
theorem row_two {a b : Nat} {r : List Nat} : ∀ (f : Nat) (l : List Nat), r ∈ rowsG [a, b] f l → r.length = 2
  | 0, l, h => by simp [rowsG] at h
  | f + 1, l, h => by
    unfold rowsG at h
    split at h
    · cases h
    · rcases List.mem_cons.1 h with rfl | h
      · exact rowF_len _ _
      · exact row_two f _ h
theorem rowsR_bad {ws : List Nat} {S : ByteArray} {base : Nat} {e : Ending} {w' : World} (h : S.size % wide ws ≠ 0) (hr : RowsR ws S base e w') : e = .returned (.tuple #[.slice none 0 0, .int .i64 4]) := by
  unfold RowsR at hr
  rw [if_pos h] at hr
  exact hr
theorem rowsR_good {ws : List Nat} {S : ByteArray} {base : Nat} {e : Ending} {w' : World} (h : S.size % wide ws = 0) (hr : RowsR ws S base e w') : ∃ A c L, e = .returned (.tuple #[.slice A L.length c, .int .i64 0]) ∧ OwnR w' base A L.length c L ∧ L.map Rw.row = rowsF ws (nl S) := by
  unfold RowsR at hr
  rw [if_neg (fun hh => hh h)] at hr
  exact hr
theorem wins_bad {a b : Nat} {l : List Nat} (h : l.length % (4 * (a + b)) ≠ 0) : winsF a b l = none := by unfold winsF; rw [if_pos h]
theorem wins_good {a b : Nat} {l : List Nat} (h : l.length % (4 * (a + b)) = 0) : winsF a b l = if (rowsF [a, b] l).all fun r => fitsB (r.getD 0 0) (r.getD 1 0) then some ((rowsF [a, b] l).map wiOf) else none := by
  unfold winsF
  rw [if_neg (fun hh => hh h)]
  rfl
theorem rowsG_len (ws : List Nat) : ∀ (f : Nat) (l : List Nat), (rowsG ws f l).length ≤ f
  | 0, l => by simp [rowsG]
  | f + 1, l => by
    unfold rowsG
    split
    · simp
    · rw [List.length_cons]; have := rowsG_len ws f (l.drop (wide ws)); omega
theorem rowsF_len (ws l : List Nat) : (rowsF ws l).length ≤ l.length := rowsG_len ws _ l
theorem rowF_lt : ∀ (ws l : List Nat), (∀ x ∈ l, x < 256) → (∀ x ∈ ws, x ≤ 2) → ∀ c ∈ rowF ws l, c < 18446744073709551616
  | [], l, _, _, c, h => by simp [rowF] at h
  | w :: r, l, hl, hw, c, h => by
    rw [rowF] at h
    rcases List.mem_cons.1 h with rfl | h
    · exact num_u64 (take_lt hl _) (by rw [List.length_take]; have := hw w (by simp); omega)
    · exact rowF_lt r _ (drop_lt hl _) (fun x hx => hw x (by simp [hx])) c h
theorem rowsG_lt (ws : List Nat) (hw : ∀ x ∈ ws, x ≤ 2) : ∀ (f : Nat) (l : List Nat), (∀ x ∈ l, x < 256) → ∀ r ∈ rowsG ws f l, ∀ c ∈ r, c < 18446744073709551616
  | 0, l, _, r, h => by simp [rowsG] at h
  | f + 1, l, hl, r, h => by
    unfold rowsG at h
    split at h
    · cases h
    · rcases List.mem_cons.1 h with rfl | h
      · exact rowF_lt ws l hl hw
      · exact rowsG_lt ws hw f _ (drop_lt hl _) r h
theorem rowsF_lt (ws l : List Nat) (hl : ∀ x ∈ l, x < 256) (hw : ∀ x ∈ ws, x ≤ 2) : ∀ r ∈ rowsF ws l, ∀ c ∈ r, c < 18446744073709551616 := rowsG_lt ws hw _ l hl
set_option maxRecDepth 100000 in
set_option maxHeartbeats 16000000 in
theorem reg_any (A : Option Addr) (cap n : Nat) (l : List Nm) (hn : n = l.length) (hsz : Sized l) (hsh : ShortL (dat l)) (i : Nat) (hi : i < n) (hp : 0 ≤ parAt (dat l) i) (hp2 : parAt (dat l) i < n) (w : World) (B : Nat) (hB : B ≤ w.heap.size) (hs : Nodes w B A l) :
    Calls Try.prog 49 #[.slice A n cap, .int .i64 (i : Nat)] w fun e w' => RegR (regF (dat l) i) w.heap.size e w' ∧ Below w.heap.size w w' := by
  obtain ⟨i1, gi, gz0, gz1, gz2⟩ := info_parts info31
  have hil : i < l.length := by rw [← hn]; exact hi
  obtain ⟨p, hpp⟩ : ∃ p : Nat, parAt (dat l) i = (p : Int) := ⟨(parAt (dat l) i).toNat, by omega⟩
  have hpl : p < l.length := by rw [← hn]; omega
  have hpn : p < n := by omega
  have hpar : parN (dat l) i = p := by unfold parN; rw [hpp]; rfl
  have hip : l[i].d.p = (p : Int) := by rw [← par_get l hil]; exact hpp
  have hreg : regF (dat l) i = match cellsF l[p].d.ps with
    | none => none
    | some (a, b) => winsF a b (nl ((valF l[i].d.ps kReg).getD ByteArray.empty)) := by
    unfold regF; rw [hpar, ps_get l hpl, ps_get l hil]; rfl
  rw [hreg]
  have hnn : n ≤ 2932031007403 := by have := hsz.n; omega
  have hii : (i : Int) < (n : Int) := by omega
  have hpi : (p : Int) < (n : Int) := by omega
  obtain ⟨b, off, rfl, hbB, x0, x1, x2, hq0⟩ := hs.at_ hil
  obtain ⟨b', off', e9, _, y0, y1, y2, hp0⟩ := hs.at_ hpl
  injection e9 with e9
  injection e9 with e91 e92
  subst e91 e92
  rw [hip] at x0
  have hszi := hsz.props l[i] (List.getElem_mem hil)
  have hszp := hsz.props l[p] (List.getElem_mem hpl)
  have hshi := hsh l[i].d (List.mem_map_of_mem (List.getElem_mem hil))
  have hshp := hsh l[p].d (List.mem_map_of_mem (List.getElem_mem hpl))
  have SP := space_any l[p].d.p l[p].d.n l[p].A l[p].c l[p].d.ps.length l[p].d.ps rfl (by omega) hshp w B hB hp0
  have VA := fun W (hW : Below w.heap.size w W) => value_any l[i].d.p l[i].d.n l[i].A l[i].c l[i].d.ps.length l[i].d.ps rfl (by omega) kReg W B (Nat.le_trans hB hW.size) (hq0.below (hW.mono hB))
  have HX := Lib.hid (And.intro x0 (And.intro x1 x2))
  rw [hip] at VA
  have hsv := hshi
  generalize l[i].d.n = si at *
  generalize l[i].d.ps = Q at *
  generalize l[i].A = Ai at *
  generalize l[i].c = ci at *
  generalize l[p].d.p = pp at *
  generalize l[p].d.n = sp at *
  generalize l[p].d.ps = P at *
  generalize l[p].A = Ap at *
  generalize l[p].c = cp at *
  have HN := Lib.hid hn
  have HVA := Lib.hid VA
  clear VA hreg hn hs hpp hpar hip hp hp2 hq0 hp0 hszi hszp hshi hshp hsz hsh hil hpl
  cases hc : cellsF P with
  | none =>
    have e : spcF P = (0, 0, 4) := by unfold spcF; rw [hc]
    rw [e] at SP
    have HSP := Lib.hid SP
    clear SP e hc HX
    go_enter Try.func49, Try.ntmps49
    go_wp2_with (first
      | (go_at_call 48; refine HSP.out.mono ?_; rintro e w1 ⟨rfl, hb1⟩
         have HB1 := Lib.hid hb1
         clear hb1)
      | fail)
    go_ret2
    exact ⟨rfl, HB1.out⟩
  | some ab =>
    obtain ⟨a, bb⟩ := ab
    have e : spcF P = (a, bb, 0) := by unfold spcF; rw [hc]
    obtain ⟨ca1, ca2, cb⟩ := cells_bd hc
    rw [e] at SP
    have HSP := Lib.hid SP
    obtain ⟨v, hv⟩ : ∃ v, v = (valV Q kReg).1 := ⟨_, rfl⟩
    obtain ⟨vb, hvb⟩ : ∃ vb, vb = (valV Q kReg).2 := ⟨_, rfl⟩
    have hvs : v.size ≤ 1048576 := by
      rw [hv]; unfold valV
      cases hq : valF Q kReg with
      | none => show (0 : Nat) ≤ _; omega
      | some u => exact val_short hsv hq
    have hve : (valF Q kReg).getD ByteArray.empty = v := by
      rw [hv]; unfold valV
      cases hq : valF Q kReg with
      | none => rfl
      | some u => rfl
    show Calls Try.prog 49 _ _ fun e w' => RegR (winsF a bb (nl ((valF Q kReg).getD ByteArray.empty))) _ e w' ∧ _
    rw [hve]
    have hw : wide [a, bb] = 4 * (a + bb) := by unfold wide; simp
    have RW := fun W => rows_any v hvs (some ⟨W.heap.size, 0, none⟩) 2 2 [a, bb] rfl (by rw [hw]; omega) (by intro x hx; simp at hx; omega) (by omega) (W.alloc (.cells #[.int .i64 (a : Int), .int .i64 (bb : Int)] 3)) (W.heap.size + 1) (by simp) (seg_new W 3 #[.int .i64 (a : Int), .int .i64 (bb : Int)])
    rw [← hv, ← hvb] at HVA
    have HRW := Lib.hid RW
    clear SP e hc hve hv hvb RW
    by_cases hm : v.size % wide [a, bb] = 0
    case neg =>
      have RW2 : ∀ W : World, Calls Try.prog 63 #[.string v, .slice (some ⟨W.heap.size, 0, none⟩) 2 2] (W.alloc (.cells #[.int .i64 (a : Int), .int .i64 (bb : Int)] 3)) fun e w' => e = .returned (.tuple #[.slice none 0 0, .int .i64 4]) ∧ Below (W.alloc (.cells #[.int .i64 (a : Int), .int .i64 (bb : Int)] 3)).heap.size (W.alloc (.cells #[.int .i64 (a : Int), .int .i64 (bb : Int)] 3)) w' := fun W => (HRW.out W).mono fun e w' h => ⟨rowsR_bad hm h.1, h.2⟩
      have HR2 := Lib.hid RW2
      have HW : winsF a bb (nl v) = none := wins_bad (by rw [nl_len, ← hw]; exact hm)
      rw [HW]
      clear RW2 HW hm hw HRW
      go_enter Try.func49, Try.ntmps49
      go_wp2_with (first
        | (go_at_call 48; refine HSP.out.mono ?_; rintro e w1 ⟨rfl, hb1⟩
           have HB1 := Lib.hid hb1
           have z0 := (hb1.cell (p := ⟨b, off + i * 3, none⟩) (by exact Nat.lt_of_lt_of_le hbB hB)).trans HX.out.1
           have z1 := (hb1.cell (p := ⟨b, off + i * 3 + 1, none⟩) (by exact Nat.lt_of_lt_of_le hbB hB)).trans HX.out.2.1
           have z2 := (hb1.cell (p := ⟨b, off + i * 3 + 2, none⟩) (by exact Nat.lt_of_lt_of_le hbB hB)).trans HX.out.2.2
           clear hb1)
        | (go_at_call 62; refine (HVA.out _ HB1.out).mono ?_; rintro e w2 ⟨rfl, hb2⟩
           have HB2 := Lib.hid (HB1.out.trans (hb2.mono HB1.out.size))
           clear hb2)
        | (go_at_call 63; refine (HR2.out _).mono ?_; rintro e w3 ⟨rfl, hb3⟩
           have HB3 := Lib.hid ((HB2.out.alloc HB2.out.size _).trans (hb3.mono (HB2.out.alloc HB2.out.size _).size))
           clear hb3)
        | fail)
      refine wp_loop_rounds 1 ?_
      rw [rounds_succ]
      go_wp2_with fail
      go_ret2
      exact ⟨rfl, HB3.out⟩
    have RW2 : ∀ W : World, Calls Try.prog 63 #[.string v, .slice (some ⟨W.heap.size, 0, none⟩) 2 2] (W.alloc (.cells #[.int .i64 (a : Int), .int .i64 (bb : Int)] 3)) fun e w' => (∃ A c L, e = .returned (.tuple #[.slice A L.length c, .int .i64 0]) ∧ OwnR w' (W.alloc (.cells #[.int .i64 (a : Int), .int .i64 (bb : Int)] 3)).heap.size A L.length c L ∧ L.map Rw.row = rowsF [a, bb] (nl v)) ∧ Below (W.alloc (.cells #[.int .i64 (a : Int), .int .i64 (bb : Int)] 3)).heap.size (W.alloc (.cells #[.int .i64 (a : Int), .int .i64 (bb : Int)] 3)) w' := fun W => (HRW.out W).mono fun e w' h => ⟨rowsR_good hm h.1, h.2⟩
    have HR2 := Lib.hid RW2
    have HW : winsF a bb (nl v) = if (rowsF [a, bb] (nl v)).all fun r => fitsB (r.getD 0 0) (r.getD 1 0) then some ((rowsF [a, bb] (nl v)).map wiOf) else none := wins_good (by rw [nl_len, ← hw]; exact hm)
    rw [HW]
    have HLT := Lib.hid (rowsF_lt [a, bb] (nl v) (nl_lt v) (by intro x hx; simp at hx; omega))
    have HLN := Lib.hid (rowsF_len [a, bb] (nl v))
    have HTW := Lib.hid (fun r (h : r ∈ rowsF [a, bb] (nl v)) => row_two _ _ h)
    rw [nl_len] at HLN
    clear RW2 HW hm hw HRW
    generalize rowsF [a, bb] (nl v) = R at *
    obtain ⟨r, hr⟩ : ∃ r, r = (R.all fun r => fitsB (r.getD 0 0) (r.getD 1 0)) := ⟨_, rfl⟩
    rw [← hr]
    have HRR := Lib.hid hr
    clear hr
    go_enter Try.func49, Try.ntmps49
    go_wp2_with (first
      | (go_at_call 48; refine HSP.out.mono ?_; rintro e w1 ⟨rfl, hb1⟩
         have HB1 := Lib.hid hb1
         have z0 := (hb1.cell (p := ⟨b, off + i * 3, none⟩) (by exact Nat.lt_of_lt_of_le hbB hB)).trans HX.out.1
         have z1 := (hb1.cell (p := ⟨b, off + i * 3 + 1, none⟩) (by exact Nat.lt_of_lt_of_le hbB hB)).trans HX.out.2.1
         have z2 := (hb1.cell (p := ⟨b, off + i * 3 + 2, none⟩) (by exact Nat.lt_of_lt_of_le hbB hB)).trans HX.out.2.2
         clear hb1)
      | (go_at_call 62; refine (HVA.out _ HB1.out).mono ?_; rintro e w2 ⟨rfl, hb2⟩
         have HB2 := Lib.hid (HB1.out.trans (hb2.mono HB1.out.size))
         clear hb2)
      | (go_at_call 63; refine (HR2.out _).mono ?_; rintro e w3 ⟨⟨AL, cL, L, rfl, hown, hrows⟩, hb3⟩
         have HB3 := Lib.hid ((HB2.out.alloc HB2.out.size _).trans (hb3.mono (HB2.out.alloc HB2.out.size _).size))
         have HO := Lib.hid hown
         have HR := Lib.hid hrows
         clear hb3 hown hrows)
      | fail)
    have hLR : L.length = R.length := by rw [← HR.out, List.length_map]
    obtain ⟨N, hN⟩ : ∃ N, N = L.length := ⟨_, rfl⟩
    rw [← hN] at HO hLR ⊢
    have HNL := Lib.hid hN
    have HNR := Lib.hid hLR
    have hNb : N ≤ 1048576 := by have := HLN.out; omega
    clear hN hLR
    go_loopw [12, 49] (fun wv iv wx => ∃ (k : Nat) (Aw : Option Addr) (cw : Nat), k ≤ N ∧ iv = .int .i64 k ∧ wv = .slice Aw k cw ∧ wx.ownsRow w.heap.size 31 2 wv k (winCells ((R.take k).map wiOf)) ∧ (∀ j (hj : j < R.length), j < k → fitsB ((R[j]).getD 0 0) ((R[j]).getD 1 0) = true) ∧ OwnR wx w.heap.size AL N cL L ∧ Below w.heap.size w wx) (fun _ iv _ => N - (intOf iv).toNat)
    case atStart => exact ⟨0, none, 0, by omega, rfl, rfl, World.ownsRow_nil _ _ _ _, fun j _ h => absurd h (Nat.not_lt_zero j), HO.out.base_ (HB2.out.alloc HB2.out.size _).size, HB3.out⟩
    case round =>
      obtain ⟨k, Aw, cw, hk, rfl, rfl, hrow, hfit, hown, hb⟩ := hrel
      have HROW := Lib.hid hrow
      have HFIT := Lib.hid hfit
      have HOW := Lib.hid hown
      have HB := Lib.hid hb
      have hbs := hb.size
      clear hrow hfit hown hb
      by_cases hkN : k < N
      · have hkL : k < L.length := by rw [← HNL.out]; exact hkN
        have hkR : k < R.length := by rw [← HNR.out]; exact hkN
        have hki : (k : Int) < (N : Int) := by omega
        have hrk : L[k].row = R[k] := by
          have := HR.out
          subst this
          rw [List.getElem_map]
        have h2 := HTW.out R[k] (List.getElem_mem hkR)
        have hlt := HLT.out R[k] (List.getElem_mem hkR)
        obtain ⟨c0, c1, hcc⟩ : ∃ c0 c1, R[k] = [c0, c1] := by
          match hh : R[k], h2 with
          | [x, y], _ => exact ⟨x, y, rfl⟩
        rw [hcc] at hrk hlt
        have hc0 := hlt c0 (by simp)
        have hc1 := hlt c1 (by simp)
        obtain ⟨ga, oa, eA, _, xa⟩ := own_seg HOW.out.row (by intro h; rw [List.map_eq_nil_iff] at h; rw [h] at hkL; exact absurd hkL (Nat.not_lt_zero k))
        subst eA
        have xk := xa k L[k].val (by rw [List.getElem?_map, List.getElem?_eq_getElem hkL]; rfl)
        have hrw := HOW.out.rows L[k] (List.getElem_mem hkL)
        obtain ⟨gb, ob, eB, hgb, xb⟩ := own_seg hrw (by rw [hrk]; simp [u64s])
        have hne := Lib.hid (show (Value.slice Aw k cw).ownBlock ≠ some gb from fun e => own_types HROW.out hrw (by decide) gb e (by show L[k].val.ownBlock = some gb; unfold Rw.val; rw [eB]; rfl))
        rw [hrk] at xb
        have b0 := xb 0 (.int .u64 (c0 : Int)) (by simp [u64s])
        have b1 := xb 1 (.int .u64 (c1 : Int)) (by simp [u64s])
        rw [Nat.add_zero] at b0
        unfold Rw.val at xk
        rw [hrk, eB] at xk
        simp only [List.length_cons, List.length_nil, Nat.zero_add] at xk
        have HCC := Lib.hid hcc
        have FA0 := fun W => fits_any c0 c1 hc0 hc1 W
        have hbad : fitsB c0 c1 = false → r = false := fun h => by
          rw [HRR.out, List.all_eq_false]
          exact ⟨R[k], List.getElem_mem hkR, by rw [hcc]; simp [h]⟩
        have HBAD := Lib.hid hbad
        clear xa xb hrw hlt hrk h2 hcc eB hbad
        obtain ⟨X, hX⟩ : ∃ X, X = fitsB c0 c1 := ⟨_, rfl⟩
        rw [← hX] at FA0
        have HX2 := Lib.hid hX
        clear hX
        cases X with
        | false =>
          obtain rfl : r = false := HBAD.out HX2.out.symm
          have FA := Lib.hid FA0
          clear FA0
          go_wp2_with fail
          go_quiet ((go_at_call 29; exact Calls.quiet_of_same (turn_same (FA.out _))))
          go_wp2_with fail
          go_ret2
          exact ⟨rfl, below_drewN HB.out _⟩
        | true =>
          have FA := Lib.hid FA0
          clear FA0
          go_wp2_with fail
          go_quiet ((go_at_call 29; exact Calls.quiet_of_same (turn_same (FA.out _))))
          go_wp2_with fail
          refine wp_region_held_drew (S := fun W => W.cell? ⟨gb, ob, none⟩ = some (.int .u64 (c0 : Int)) ∧ W.cell? ⟨gb, ob + 1, none⟩ = some (.int .u64 (c1 : Int))) (by kernel_rfl) ⟨b0, b1⟩ (fun hHeld => ?_)
          (refine held_take (i := 0) rfl rfl (by kernel_rfl) (by kernel_rfl) (by kernel_rfl) (fun _ _ _ h => h) (by rfl) (by intro w hSw; obtain ⟨hS1, hS2⟩ := hSw; go_simp; first | done | with_reducible rfl) (by assumption) ?_; try simp only [Act.put, List.setIfInBounds_toArray, List.set_cons_zero, List.set_cons_succ])
          (refine held_take (i := 1) rfl rfl (by kernel_rfl) (by kernel_rfl) (by kernel_rfl) (fun _ _ _ h => h) (by rfl) (by intro w hSw; obtain ⟨hS1, hS2⟩ := hSw; go_simp; first | done | with_reducible rfl) (by assumption) ?_; try simp only [Act.put, List.setIfInBounds_toArray, List.set_cons_zero, List.set_cons_succ])
          (refine held_take (i := 2) rfl rfl (by kernel_rfl) (by kernel_rfl) (by kernel_rfl) (fun _ _ _ h => h) (by rfl) (by intro w hSw; obtain ⟨hS1, hS2⟩ := hSw; go_simp; first | done | with_reducible rfl) (by assumption) ?_; try simp only [Act.put, List.setIfInBounds_toArray, List.set_cons_zero, List.set_cons_succ])
          (refine held_take (i := 3) rfl rfl (by kernel_rfl) (by kernel_rfl) (by kernel_rfl) (fun _ _ _ h => h) (by rfl) (by intro w hSw; obtain ⟨hS1, hS2⟩ := hSw; go_simp; first | done | with_reducible rfl) (by assumption) ?_; try simp only [Act.put, List.setIfInBounds_toArray, List.set_cons_zero, List.set_cons_succ])
          (refine held_take (i := 4) rfl rfl (by kernel_rfl) (by kernel_rfl) (by kernel_rfl) (fun _ _ _ h => h) (by rfl) (by intro w hSw; obtain ⟨hS1, hS2⟩ := hSw; go_simp; first | done | with_reducible rfl) (by assumption) ?_; try simp only [Act.put, List.setIfInBounds_toArray, List.set_cons_zero, List.set_cons_succ])
          (refine held_take (i := 5) rfl rfl (by kernel_rfl) (by kernel_rfl) (by kernel_rfl) (fun _ _ _ h => h) (by rfl) (by intro w hSw; obtain ⟨hS1, hS2⟩ := hSw; go_simp; first | done | with_reducible rfl) (by assumption) ?_; try simp only [Act.put, List.setIfInBounds_toArray, List.set_cons_zero, List.set_cons_succ])
          (refine held_take (i := 6) rfl rfl (by kernel_rfl) (by kernel_rfl) (by kernel_rfl) (fun _ _ _ h => h) (by rfl) (by intro w hSw; obtain ⟨hS1, hS2⟩ := hSw; go_simp; first | done | with_reducible rfl) (by assumption) ?_; try simp only [Act.put, List.setIfInBounds_toArray, List.set_cons_zero, List.set_cons_succ])
          (refine held_take (i := 7) rfl rfl (by kernel_rfl) (by kernel_rfl) (by kernel_rfl) (fun _ _ _ h => h) (by rfl) (by intro w hSw; obtain ⟨hS1, hS2⟩ := hSw; go_simp; first | done | with_reducible rfl) (by assumption) ?_; try simp only [Act.put, List.setIfInBounds_toArray, List.set_cons_zero, List.set_cons_succ])
          refine wpAnyH_ready (rs := [8]) (by kernel_rfl) (by simp) ?_
          refine AllReadyH.cons rfl (fun K hK => ?_) AllReadyH.nil
          go_simp
          refine hK.out _ _ ⟨(World.cell?_alloc_lt _ _ _ (by exact hgb)).trans b0, (World.cell?_alloc_lt _ _ _ (by exact hgb)).trans b1⟩ (fun hHeld => ?_)
          clear hK K
          try simp only [Act.put, List.setIfInBounds_toArray, List.set_cons_zero, List.set_cons_succ]
          refine wpAnyH_ready (rs := [9]) (by kernel_rfl) (by simp) ?_
          refine AllReadyH.cons rfl (fun K hK => ?_) AllReadyH.nil
          have O1 : (wr.drewN (nq + 1)).ownsRow w.heap.size 31 2 (.slice Aw k cw) k (winCells ((R.take k).map wiOf)) := HROW.out
          refine step_append_seg rfl (.tmp 61) (.tmp 69) 43 rfl w.heap.size 31 i1 _ 2 16 Try.underlying43 gi gz0 gz1 gz2 rfl (by decide) (.slice Aw k cw) k (winCells ((R.take k).map wiOf)) rfl (O1.alloc _) (wr.heap.size + 1) (some ⟨wr.heap.size, 0, none⟩) 1 1 [.int .u64 (c0 : Int), .int .u64 (c1 : Int)] rfl rfl (seg_new (wr.drewN (nq + 1)) 31 #[.int .u64 (c0 : Int), .int .u64 (c1 : Int)]) (by intro u hu; simp at hu; rcases hu with rfl | rfl <;> rfl) (by unfold maxLen; omega) (by omega) (by show _ ≤ ((wr.drewN (nq + 1)).alloc _).heap.size; rw [World.size_alloc]; exact Nat.le_trans hbs (Nat.le_succ _)) ?_
          intro v3 w3 hown3 hg3 _
          have hkeep : ∀ g, g < wr.heap.size → (Value.slice Aw k cw).ownBlock ≠ some g → w3.heap[g]? = wr.heap[g]? := fun g hlt hne => (hg3.block g (by show _ < ((wr.drewN (nq + 1)).alloc _).heap.size; rw [World.size_alloc]; exact Nat.lt_succ_of_lt hlt) (fun e => hne e.symm)).trans (Below.heap_alloc _ _ _ hlt)
          have HOW3 : OwnR w3 w.heap.size (some ⟨ga, oa, none⟩) N cL L := ⟨HOW.out.len, own_keep HOW.out.row fun g hg hlt => hkeep g hlt (fun e => own_types HROW.out HOW.out.row (by decide) g e hg), fun x hx => own_keep (HOW.out.rows x hx) fun g hg hlt => hkeep g hlt (fun e => own_types HROW.out (HOW.out.rows x hx) (by decide) g e hg)⟩
          have hb4 : Below w.heap.size w w3 := Below.grown ((below_drewN HB.out (nq + 1)).alloc hbs _) hg3 (by show _ ≤ ((wr.drewN (nq + 1)).alloc _).heap.size; rw [World.size_alloc]; exact Nat.le_trans hbs (Nat.le_succ _)) (fun g hg => (O1.lt g hg).1)
          refine hK.out _ _ ⟨(World.cell?_of_block (hkeep gb hgb hne.out)).trans b0, (World.cell?_of_block (hkeep gb hgb hne.out)).trans b1⟩ (fun hHeld => ?_)
          clear hK K
          try simp only [Act.put, List.setIfInBounds_toArray]
          (refine held_take (i := 10) rfl rfl (by kernel_rfl) (by kernel_rfl) (by kernel_rfl) (fun _ _ _ h => h) (by rfl) (by intro w hSw; obtain ⟨hS1, hS2⟩ := hSw; go_simp; first | done | with_reducible rfl) (by assumption) ?_; try simp only [Act.put])
          refine wpAnyH_done (by kernel_rfl) ?_ _
          obtain ⟨A3, c3, rfl⟩ := own_shape hown3
          have hf2 : ∀ j (hj : j < R.length), j < k + 1 → fitsB ((R[j]).getD 0 0) ((R[j]).getD 1 0) = true := fun j hj hjk => by
            rcases (show j < k ∨ j = k by omega) with h2 | rfl
            · exact HFIT.out j hj h2
            · rw [HCC.out]; exact HX2.out.symm
          have hw2 : winCells ((R.take (k + 1)).map wiOf) = winCells ((R.take k).map wiOf) ++ [.int .u64 (c0 : Int), .int .u64 (c1 : Int)] := by
            rw [List.take_succ_eq_append_getElem hkR, HCC.out, List.map_append]
            unfold winCells
            rw [List.flatMap_append]
            rfl
          rw [← hw2] at hown3
          have HO3 := Lib.hid hown3
          have HF2 := Lib.hid hf2
          have H3 := Lib.hid HOW3
          have HB4 := Lib.hid hb4
          clear hown3 hg3 hkeep HOW3 hb4 hf2 hw2
          go_wp2_with fail
          exact ⟨⟨k + 1, A3, c3, by omega, by go_num, rfl, HO3.out, HF2.out, H3.out, HB4.out⟩, by simp [intOf]; omega⟩
      · obtain rfl : k = N := by omega
        have hr1 : r = true := by
          rw [HRR.out, List.all_eq_true]
          intro x hx
          obtain ⟨j, hj, rfl⟩ := List.mem_iff_getElem.1 hx
          exact HFIT.out j hj (by rw [HNR.out]; exact hj)
        subst hr1
        go_wp2_with fail
        go_ret2
        have h9 := HROW.out
        rw [List.take_of_length_le (by rw [HNR.out]; exact Nat.le_refl _)] at h9
        have h8 : (R.map wiOf).length = k := by rw [List.length_map]; exact HNR.out.symm
        refine ⟨?_, HB.out⟩
        show ∃ A c, _ = Ending.returned (.tuple #[.slice A (R.map wiOf).length c, .int .i64 0]) ∧ _
        rw [h8]
        exact ⟨Aw, cw, rfl, h9⟩
end Go.Proofs.Ytndocngkganpdaa
