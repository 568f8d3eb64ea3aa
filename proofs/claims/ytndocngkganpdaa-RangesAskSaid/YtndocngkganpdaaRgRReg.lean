/- The document's reg: the contract. -/
import Derived.Deep.DeepCutAuto
import Derived.Test.YtndocngkganpdaaRgMaps
set_option linter.unusedVariables false
namespace Go.Proofs.Ytndocngkganpdaa
open Go.RowKit
theorem info37 : (Try.prog.info? 37).map (fun i => (i.zero, i.size, i.bytes)) = some (some (.agg #[.int .u64 0, .int .u64 0]), 2, 16) := by kernel_rfl
/-- What reg gives, windows of type t. -/
def RegT (t : TypeId) (o : Option (List (Nat × Nat))) (base : Nat) (e : Ending) (w' : World) : Prop := match o with
  | none => e = .returned (.tuple #[.slice none 0 0, .int .i64 4])
  | some L => ∃ A c, e = .returned (.tuple #[.slice A L.length c, .int .i64 0]) ∧ w'.ownsRow base t 2 (.slice A L.length c) L.length (winCells L)
theorem bad_mem {α : Type} {f : α → Bool} {D : List α} {x : α} {L R : List α} (h : D ++ x :: L = R) (hx : f x = false) : R.all f = false := by
  rw [← h, List.all_append, List.all_cons, hx]; simp
set_option maxRecDepth 100000 in
set_option maxHeartbeats 16000000 in
theorem rreg_any (A : Option Addr) (cap n : Nat) (l : List Nm) (hn : n = l.length) (hsz : Sized l) (hsh : ShortL (dat l)) (i : Nat) (hi : i < n) (hp : 0 ≤ parAt (dat l) i) (hp2 : parAt (dat l) i < n) (w : World) (B : Nat) (hB : B ≤ w.heap.size) (hs : Nodes w B A l) :
    Calls Try.prog 56 #[.slice A n cap, .int .i64 (i : Nat)] w fun e w' => RegT 37 (regF (dat l) i) w.heap.size e w' ∧ Below w.heap.size w w' := by
  obtain ⟨i1, gi, gz0, gz1, gz2⟩ := info_parts info37
  have hil : i < l.length := by rw [← hn]; exact hi
  obtain ⟨p, hpp⟩ : ∃ p : Nat, parAt (dat l) i = (p : Int) := ⟨(parAt (dat l) i).toNat, by omega⟩
  have hpl : p < l.length := by rw [← hn]; omega
  have hpn : p < n := by omega
  have hpar : parN (dat l) i = p := by unfold parN; rw [hpp]; rfl
  have hip : l[i].d.p = (p : Int) := by rw [← par_get l hil]; exact hpp
  have hreg : regF (dat l) i = match cellsF l[p].d.ps with
    | none => none
    | some (a, b) => winsF a b (nl ((valF l[i].d.ps kReg).getD ByteArray.empty)) := by
    unfold regF; rw [hpar, ps_get l hpl, ps_get l hil]; rfl
  rw [hreg]
  have hnn : n ≤ 2932031007403 := by have := hsz.n; omega
  have hii : (i : Int) < (n : Int) := by omega
  have hpi : (p : Int) < (n : Int) := by omega
  obtain ⟨b, off, rfl, hbB, x0, x1, x2, hq0⟩ := hs.at_ hil
  obtain ⟨b', off', e9, _, y0, y1, y2, hp0⟩ := hs.at_ hpl
  injection e9 with e9
  injection e9 with e91 e92
  subst e91 e92
  rw [hip] at x0
  have hszi := hsz.props l[i] (List.getElem_mem hil)
  have hszp := hsz.props l[p] (List.getElem_mem hpl)
  have hshi := hsh l[i].d (List.mem_map_of_mem (List.getElem_mem hil))
  have SP := cells_any l[p].d.p l[p].d.n l[p].A l[p].c l[p].d.ps.length l[p].d.ps rfl (by omega) w B hB hp0
  have VA := fun W (hW : Below w.heap.size w W) => rvalue_any l[i].d.p l[i].d.n l[i].A l[i].c l[i].d.ps.length l[i].d.ps rfl (by omega) kReg W B (Nat.le_trans hB hW.size) (hq0.below (hW.mono hB))
  have hbw : b < w.heap.size := by omega
  have CX : ∀ W, Below w.heap.size w W → W.cell? ⟨b, off + i * 3, none⟩ = some (.int .i64 (p : Int)) ∧ W.cell? ⟨b, off + i * 3 + 1, none⟩ = some (.string l[i].d.n) ∧ W.cell? ⟨b, off + i * 3 + 2, none⟩ = some (.slice l[i].A l[i].d.ps.length l[i].c) := fun W hW => ⟨(hW.cell (p := ⟨b, off + i * 3, none⟩) hbw).trans x0, (hW.cell (p := ⟨b, off + i * 3 + 1, none⟩) hbw).trans x1, (hW.cell (p := ⟨b, off + i * 3 + 2, none⟩) hbw).trans x2⟩
  rw [hip] at VA
  have hsv := hshi
  generalize l[i].d.n = si at *
  generalize l[i].d.ps = Q at *
  generalize l[i].A = Ai at *
  generalize l[i].c = ci at *
  generalize l[p].d.p = pp at *
  generalize l[p].d.n = sp at *
  generalize l[p].d.ps = P at *
  generalize l[p].A = Ap at *
  generalize l[p].c = cp at *
  have HCX := Lib.hid CX
  have HVA := Lib.hid VA
  clear VA CX hreg hn hs hpp hpar hip hp hp2 hq0 hp0 hszi hszp hshi hsz hsh hil hpl
  cases hc : cellsF P with
  | none =>
    rw [spc_none hc] at SP
    have HSP := Lib.hid SP
    clear SP hc
    go_enter Try.func56, Try.ntmps56
    go_wp2_with (first
      | (go_at_call 55; refine HSP.out.mono ?_; rintro e w1 ⟨rfl, hb1⟩
         have HB1 := Lib.hid hb1
         clear hb1)
      | fail)
    go_ret2
    exact ⟨rfl, HB1.out⟩
  | some ab =>
    obtain ⟨a, bb⟩ := ab
    obtain ⟨ca1, ca2, cb⟩ := cells_bd hc
    rw [spc_some hc] at SP
    have HSP := Lib.hid SP
    obtain ⟨v, hv⟩ : ∃ v, v = (valV Q kReg).1 := ⟨_, rfl⟩
    obtain ⟨vb, hvb⟩ : ∃ vb, vb = (valV Q kReg).2 := ⟨_, rfl⟩
    have hvs : v.size ≤ 1048576 := by
      rw [hv]; unfold valV
      cases hq : valF Q kReg with
      | none => show (0 : Nat) ≤ _; omega
      | some u => exact val_short hsv hq
    have hve : (valF Q kReg).getD ByteArray.empty = v := by
      rw [hv]; unfold valV
      cases hq : valF Q kReg with
      | none => rfl
      | some u => rfl
    show Calls Try.prog 56 _ _ fun e w' => RegT 37 (winsF a bb (nl ((valF Q kReg).getD ByteArray.empty))) _ e w' ∧ _
    rw [hve]
    have hw : wide [a, bb] = 4 * (a + bb) := by unfold wide; simp
    rw [← hv, ← hvb] at HVA
    obtain ⟨m, hm4⟩ : ∃ m, m = 4 * (a + bb) := ⟨_, rfl⟩
    have hmi : 4 * ((a : Int) + (bb : Int)) = (m : Int) := by omega
    clear SP hc hve hv hvb hsv
    by_cases hm : v.size % m = 0
    case neg =>
      have HW : winsF a bb (nl v) = none := wins_bad (by rw [nl_len, ← hm4]; exact hm)
      rw [HW]
      have hmm : ((v.size : Int) % (4 * ((a : Int) + (bb : Int))) != 0) = true := by rw [hmi, bne_iff_ne]; omega
      clear HW hm hw hmi
      go_enter Try.func56, Try.ntmps56
      go_wp2_with (first
        | (go_at_call 55; refine HSP.out.mono ?_; rintro e w1 ⟨rfl, hb1⟩
           have HB1 := Lib.hid hb1
           obtain ⟨z0, z1, z2⟩ := HCX.out _ hb1
           clear hb1)
        | (go_at_call 65; refine (HVA.out _ HB1.out).mono ?_; rintro e w2 ⟨rfl, hb2⟩
           have HB2 := Lib.hid (HB1.out.trans (hb2.mono HB1.out.size))
           clear hb2)
        | fail)
      go_ret2
      exact ⟨rfl, HB2.out⟩
    have HW : winsF a bb (nl v) = if (rowsF [a, bb] (nl v)).all fun r => fitsB (r.getD 0 0) (r.getD 1 0) then some ((rowsF [a, bb] (nl v)).map wiOf) else none := wins_good (by rw [nl_len, ← hm4]; exact hm)
    rw [HW]
    have hmm : ((v.size : Int) % (4 * ((a : Int) + (bb : Int))) != 0) = false := by rw [hmi, bne_eq_false_iff_eq]; omega
    have hm0 : 0 < m := by omega
    have hm16 : m ≤ 16 := by omega
    have hwm : wide [a, bb] = m := by rw [hw, hm4]
    have HLN := Lib.hid (rowsF_len [a, bb] (nl v))
    rw [nl_len] at HLN
    have HWM := Lib.hid hwm
    have HM := Lib.hid hm
    have HM4 := Lib.hid hm4
    clear HW hm hw hwm hm4
    obtain ⟨R, hR⟩ : ∃ R, R = rowsF [a, bb] (nl v) := ⟨_, rfl⟩
    rw [← hR] at HLN ⊢
    have HRE := Lib.hid hR
    clear hR
    obtain ⟨r, hr⟩ : ∃ r, r = (R.all fun r => fitsB (r.getD 0 0) (r.getD 1 0)) := ⟨_, rfl⟩
    rw [← hr]
    have HRR := Lib.hid hr
    have HMI := Lib.hid hmi
    clear hr hmi
    go_enter Try.func56, Try.ntmps56
    go_wp2_with (first
      | (go_at_call 55; refine HSP.out.mono ?_; rintro e w1 ⟨rfl, hb1⟩
         have HB1 := Lib.hid hb1
         obtain ⟨z0, z1, z2⟩ := HCX.out _ hb1
         clear hb1)
      | (go_at_call 65; refine (HVA.out _ HB1.out).mono ?_; rintro e w2 ⟨rfl, hb2⟩
         have HB2 := Lib.hid (HB1.out.trans (hb2.mono HB1.out.size))
         clear hb2)
      | fail)
    clear z0 z1 z2 x0 x1 x2 y0 y1 y2 hmm
    go_loopw [9, 12] (fun sv ov wx => ∃ (t k : Nat) (s : ByteArray) (Aw : Option Addr) (cw : Nat) (D : List (List Nat)), sv = .string s ∧ s = v.extract t v.size ∧ t ≤ v.size ∧ t % m = 0 ∧ k ≤ t ∧ ov = .slice Aw k cw ∧ D.length = k ∧ D ++ rowsF [a, bb] ((nl v).drop t) = R ∧ (∀ x ∈ D, fitsB (x.getD 0 0) (x.getD 1 0) = true) ∧ wx.ownsRow w.heap.size 37 2 ov k (winCells (D.map wiOf)) ∧ Below w.heap.size w wx) (fun sv _ _ => strLen sv)
    case atStart => exact ⟨0, 0, v, none, 0, [], rfl, by rw [ByteArray.extract_zero_size], by omega, Nat.zero_mod _, by omega, rfl, rfl, HRE.out.symm, by simp, World.ownsRow_nil _ _ _ _, HB2.out⟩
    case round =>
      obtain ⟨t, k, s, Aw, cw, D, rfl, hs, ht, htm, hkt, rfl, hDk, hDR, hfit, hrow, hb⟩ := hrel
      have hsz : v.size - t = s.size := by rw [hs, ByteArray.size_extract]; omega
      have HSS := Lib.hid hs
      have HTM := Lib.hid htm
      have HDK := Lib.hid hDk
      have HDR := Lib.hid hDR
      have HFIT := Lib.hid hfit
      have HROW := Lib.hid hrow
      have HB := Lib.hid hb
      have hbs := hb.size
      clear hs htm hDk hDR hfit hrow hb
      by_cases h0 : 0 < s.size
      · have d0 : decide (0 < s.size) = true := decide_eq_true h0
        have hms : m ≤ s.size := by
          have h1 := HM.out
          have h2 := HTM.out
          rw [← hsz]
          have h3 : (v.size - t) % m = 0 := by
            have := Nat.sub_mod_eq_zero_of_mod_eq (h1.trans h2.symm)
            exact this
          exact Nat.le_of_dvd (by omega) (Nat.dvd_of_mod_eq_zero h3)
        have hne : (nl v).drop t ≠ [] := fun h => by
          have := congrArg List.length h
          rw [List.length_drop, nl_len] at this
          simp at this; omega
        have hst := rows_step (ws := [a, bb]) (l := (nl v).drop t) (by rw [HWM.out]; exact hm0) hne
        have h4a : 4 * a ≤ m := by rw [HM4.out]; omega
        have n1 : nl (s.extract 0 (4 * a)) = ((nl v).drop t).take (4 * a) := by
          rw [nl_extract, HSS.out, nl_extract, List.drop_zero, Nat.sub_zero]
          congr 1
          exact List.take_of_length_le (by rw [List.length_drop, nl_len]; omega)
        have n2 : nl (s.extract (4 * a) m) = (((nl v).drop t).drop (4 * a)).take (4 * bb) := by
          rw [nl_extract, HSS.out, nl_extract, show m - 4 * a = 4 * bb from by rw [HM4.out]; omega]
          congr 2
          exact List.take_of_length_le (by rw [List.length_drop, nl_len]; omega)
        have NA := fun W => number_any (s.extract 0 (4 * a)) (by rw [ByteArray.size_extract]; omega) W
        have NB := fun W => number_any (s.extract (4 * a) m) (by rw [ByteArray.size_extract, HM4.out]; omega) W
        rw [n1] at NA
        rw [n2] at NB
        have hc0 := num_u64 (take_lt (drop_lt (nl_lt v) t) (4 * a)) (by rw [List.length_take]; omega)
        have hc1 := num_u64 (take_lt (drop_lt (drop_lt (nl_lt v) t) (4 * a)) (4 * bb)) (by rw [List.length_take]; omega)
        have hrow0 : rowF [a, bb] ((nl v).drop t) = [num (((nl v).drop t).take (4 * a)), num ((((nl v).drop t).drop (4 * a)).take (4 * bb))] := rfl
        rw [hrow0] at hst
        generalize num (((nl v).drop t).take (4 * a)) = c0 at *
        generalize num ((((nl v).drop t).drop (4 * a)).take (4 * bb)) = c1 at *
        rw [HWM.out] at hst
        have HST := Lib.hid hst
        have hmi := HMI.out
        have hw1 : IntKind.i64.wrap (4 * (a : Int)) = 4 * (a : Int) := IntWalk.i64_in _ (by omega)
        have q1 : (0 : Int) ≤ 4 * (a : Int) := by omega
        have q2 : 4 * (a : Int) ≤ (s.size : Int) := by omega
        have q3 : (4 * (a : Int)).toNat = 4 * a := by omega
        have q4 : (0 : Int) ≤ 4 * ((a : Int) + (bb : Int)) := by omega
        have q5 : 4 * ((a : Int) + (bb : Int)) ≤ (s.size : Int) := by omega
        have q6 : (4 * ((a : Int) + (bb : Int))).toNat = m := by omega
        have q7 : ¬ ((a : Int) + (bb : Int) < (a : Int)) := by omega
        have q8 : (a : Int) ≤ (a : Int) + (bb : Int) := by omega
        have q9 : 4 * (a : Int) ≤ 4 * ((a : Int) + (bb : Int)) := by omega
        have HNA := Lib.hid NA
        have HNB := Lib.hid NB
        clear hmi NA NB
        go_upto_region 10 with (fail)
        go_cut [13] (fun p wx => p = .pointer (some ⟨wr.heap.size, 0, none⟩) ∧ wr.drew.alloc (.cells #[.int .u64 (c0 : Int), .int .u64 (c1 : Int)] 37) = wx)
        case first =>
          go_region_held3 (fun _ => True) (trivial)
            (first
              | (go_at_call 66; (with_reducible refine (HNA.out _).mono ?_); rintro e w' ⟨rfl, rfl⟩)
              | (go_at_call 66; (with_reducible refine (HNB.out _).mono ?_); rintro e w' ⟨rfl, rfl⟩)
              | fail)
          all_goals (go_wp2_with fail; go_meet; exact ⟨rfl, rfl⟩)
        case rest =>
          obtain ⟨hp, hW⟩ := hcut
          have y0 : wc.cell? ⟨wr.heap.size, 0, none⟩ = some (.int .u64 (c0 : Int)) := by rw [← hW]; exact cell_of_row _ _ _ _ _ _ (heap_alloc_new wr.drew _)
          have y1 : wc.cell? ⟨wr.heap.size, 1, none⟩ = some (.int .u64 (c1 : Int)) := by rw [← hW]; exact cell_of_row _ _ _ _ _ _ (heap_alloc_new wr.drew _)
          have hbW : Below wr.heap.size wr wc := by rw [← hW]; exact ((Below.refl _ wr).drew).alloc (Nat.le_refl _) _
          have HBW := Lib.hid hbW
          have hsW := hbW.size
          have HROW2 := Lib.hid (own_kept HROW.out fun g _ hlt => hbW.block g hlt)
          have FA0 := fun W => rfits_any c0 c1 hc0 hc1 W
          generalize wr.heap.size = gB at *
          subst hp
          clear hW hbW q1 q2 q3 q4 q5 q6 q7 q8 q9 hw1 HNA HNB
          obtain ⟨X, hX⟩ : ∃ X, X = fitsB c0 c1 := ⟨_, rfl⟩
          rw [← hX] at FA0
          have HX2 := Lib.hid hX
          clear hX
          cases X with
          | false =>
            have hr0 : r = false := by
              rw [HRR.out]
              refine bad_mem (x := [c0, c1]) (D := D) (L := rowsF [a, bb] (((nl v).drop t).drop m)) ?_ ?_
              · rw [← HST.out]; exact HDR.out
              · exact HX2.out.symm
            subst hr0
            have FA := Lib.hid FA0
            clear FA0
            go_wp2_with (first
              | (go_at_call 57; refine (FA.out _).mono ?_; rintro e w' ⟨rfl, rfl⟩)
              | fail)
            go_ret2
            exact ⟨rfl, HB.out.trans (HBW.out.mono hbs)⟩
          | true =>
            have FA := Lib.hid FA0
            clear FA0
            go_wp2_with (first
              | (go_at_call 57; refine (FA.out _).mono ?_; rintro e w' ⟨rfl, rfl⟩)
              | (at_builtin; refine wpList_push rfl (.tmp 68) (.tmp 70) 48 rfl w.heap.size 37 i1 _ 2 16 Try.underlying48 gi gz0 gz1 gz2 rfl (by decide) _ k (winCells (D.map wiOf)) rfl HROW2.out #[.int .u64 (c0 : Int), .int .u64 (c1 : Int)] rfl rfl ?_ ?_ ?_ ?_ ?_)
              | fail)
            · exact ⟨rfl, rfl⟩
            · unfold maxLen; omega
            · omega
            · exact Nat.le_trans hbs hsW
            intro A3 c3 w3 hown3 hp3
            have hb3 : Below w.heap.size w w3 := (HB.out.trans (HBW.out.mono hbs)).trans hp3.low
            have hw2 : winCells ((D ++ [[c0, c1]]).map wiOf) = winCells (D.map wiOf) ++ [.int .u64 (c0 : Int), .int .u64 (c1 : Int)] := by
              rw [List.map_append]
              unfold winCells
              rw [List.flatMap_append]
              rfl
            have hown3' : w3.ownsRow w.heap.size 37 2 (.slice A3 (k + 1) c3) (k + 1) (winCells ((D ++ [[c0, c1]]).map wiOf)) := by rw [hw2]; exact hown3
            have H3 := Lib.hid hown3'
            have HB3 := Lib.hid hb3
            have hD2 : (D ++ [[c0, c1]]).length = k + 1 := by rw [List.length_append, HDK.out]; rfl
            have hDR2 : (D ++ [[c0, c1]]) ++ rowsF [a, bb] ((nl v).drop (t + m)) = R := by
              rw [← HDR.out, HST.out, List.drop_drop, List.append_assoc]; rfl
            have hf2 : ∀ x ∈ D ++ [[c0, c1]], fitsB (x.getD 0 0) (x.getD 1 0) = true := fun x hx => by
              rcases List.mem_append.1 hx with hx | hx
              · exact HFIT.out x hx
              · obtain rfl : x = [c0, c1] := by simpa using hx
                exact HX2.out.symm
            have hs3 : s.extract m s.size = v.extract (t + m) v.size := by rw [← hsz, HSS.out, cut_cut _ _ _ ht]
            have ht2 : (t + m) % m = 0 := by rw [Nat.add_mod_right]; exact HTM.out
            have hmi := HMI.out
            have q4 : (0 : Int) ≤ 4 * ((a : Int) + (bb : Int)) := by omega
            have q5 : 4 * ((a : Int) + (bb : Int)) ≤ (s.size : Int) := by omega
            have q6 : (4 * ((a : Int) + (bb : Int))).toNat = m := by omega
            have HD2 := Lib.hid hD2
            have HDR2 := Lib.hid hDR2
            have HF2 := Lib.hid hf2
            have HS3 := Lib.hid hs3
            have HT2 := Lib.hid ht2
            clear hown3 hown3' hp3 hb3 hw2 hD2 hDR2 hf2 hs3 ht2 hmi
            go_wp2_with fail
            go_roundw
            case rel => exact ⟨t + m, k + 1, s.extract m s.size, A3, c3, D ++ [[c0, c1]], rfl, HS3.out, by omega, HT2.out, by omega, rfl, HD2.out, HDR2.out, HF2.out, H3.out, HB3.out⟩
            case measure => simp [strLen, ByteArray.size_extract]; omega
      · have d0 : decide (0 < s.size) = false := decide_eq_false h0
        have hR1 : D = R := by
          rw [← HDR.out, List.drop_eq_nil_of_le (by rw [nl_len]; omega), rows_nil, List.append_nil]
        subst hR1
        have hr1 : r = true := by
          rw [HRR.out, List.all_eq_true]
          exact HFIT.out
        subst hr1
        go_wp2_with fail
        go_ret2
        refine ⟨?_, HB.out⟩
        have h8 : (D.map wiOf).length = k := by rw [List.length_map]; exact HDK.out
        show ∃ A c, _ = Ending.returned (.tuple #[.slice A (D.map wiOf).length c, .int .i64 0]) ∧ _
        rw [h8]
        exact ⟨Aw, cw, rfl, HROW.out⟩
end Go.Proofs.Ytndocngkganpdaa
