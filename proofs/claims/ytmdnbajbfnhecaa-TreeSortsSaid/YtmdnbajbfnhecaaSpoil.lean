/- The law's spoil: the contract. -/
import Derived.Test.YtmdnbajbfnhecaaLow
set_option linter.unusedVariables false
namespace Go.Proofs.Ytmdnbajbfnhecaa
open Go.RowKit
theorem frame_pushed {S : Nat → Prop} {base : Nat} {v : Value} {w0 w w' : World} (h : Frame S w0 w) (hp : Pushed base v w w') (hv : ∀ g, v.ownBlock = some g → S g ∨ w0.heap.size ≤ g) : Frame S w0 w' :=
  h.next (S' := fun k => v.ownBlock = some k) ⟨hp.low.os, hp.low.tape, hp.low.output, hp.low.size, fun k hk hn => hp.row k hk hn⟩ (fun i hi hx => (hv i hx).resolve_right (by omega))
set_option maxRecDepth 100000 in
set_option maxHeartbeats 8000000 in
theorem spoil_any (A : Option Addr) (c n : Nat) (l : List Nm) (w : World) (base : Nat) (hb : base ≤ w.heap.size) (ho : OwnN w base A n c l) (hn8 : (n + 8) * 48 ≤ 140737488355328) (hps : ∀ x ∈ l, x.d.ps.length * 32 ≤ 140737488351232) :
    Calls Try.prog 13 #[.slice A n c] w fun e w' => e = .returned (.tuple #[]) ∧ Frame (Blk A l) w w' := by
  obtain ⟨i0, fi, fz0, fz1, fz2⟩ := info_parts Try.info30
  obtain ⟨j0, gi, gz0, gz1, gz2⟩ := info_parts Try.info32
  have hst : ∀ j (h : j < l.length), (nmCells l)[j * 3 + 2]? = some l[j].val := fun j h => flat_get Nm.cells 3 nm_len l j 2 h (by omega)
  have HO := Lib.hid ho
  have HPS := Lib.hid hps
  have HST := Lib.hid hst
  have hnn : n ≤ 2932031007402 := by omega
  clear ho hps hst
  go_enter Try.func13, Try.ntmps13
  go_wp2
  go_loopw [2] (fun iv wr => ∃ (i : Nat) (xs : List Value), i ≤ n ∧ iv = .int .i64 i ∧ wr.ownsRow base 30 3 (.slice A n c) n xs ∧ (∀ j (h : j < l.length), i ≤ j → xs[j * 3 + 2]? = some l[j].val) ∧
    (∀ j (h : j < l.length), i ≤ j → wr.ownsRow base 32 2 l[j].val l[j].d.ps.length (prCells l[j].d.ps)) ∧ Frame (Blk A l) w wr) (fun iv _ => n - (intOf iv).toNat)
  case atStart => exact ⟨0, nmCells l, by omega, rfl, HO.out.row, fun j h _ => HST.out j h, fun j h _ => HO.out.props _ (List.getElem_mem h), Frame.refl _ _⟩
  case round =>
    obtain ⟨i, xs, hi, rfl, hrow, hval, hpr, hfr⟩ := hrel
    have HROW := Lib.hid hrow
    have HVAL := Lib.hid hval
    have HPR := Lib.hid hpr
    have HFR := Lib.hid hfr
    by_cases hin : i < n
    · have hil : i < l.length := by rw [← HO.out.len]; exact hin
      have hii : (i : Int) < (n : Int) := by omega
      obtain ⟨g, cap, hv, hgb, hgl⟩ := hrow.form (by omega)
      injection hv with hA _ hc
      subst hA
      have x2 := (hrow.cellAt (i * 3 + 2) (by omega)).trans (hval i hil (Nat.le_refl _))
      have hpi := hpr i hil (Nat.le_refl _)
      have hpb := HPS.out _ (List.getElem_mem hil)
      have hvv : l[i].val = .slice l[i].A l[i].d.ps.length l[i].c := rfl
      have hblk : ∀ g', l[i].val.ownBlock = some g' → Blk (some ⟨g, 0, none⟩) l g' := fun g' h => .inr ⟨l[i], List.getElem_mem hil, h⟩
      have hne : ∀ j (h : j < l.length), i < j → ∀ g', l[i].val.ownBlock = some g' → l[j].val.ownBlock ≠ some g' := fun j h hij g' hg' => by
        have := (List.pairwise_iff_getElem.1 HO.out.apart) i j hil h hij
        exact this g' hg'
      rw [hvv] at x2 hpi hblk hne
      obtain ⟨m, hm⟩ : ∃ m, m = l[i].d.ps.length := ⟨_, rfl⟩
      obtain ⟨pA, hpA⟩ : ∃ pA, pA = l[i].A := ⟨_, rfl⟩
      obtain ⟨pc, hpc⟩ : ∃ pc, pc = l[i].c := ⟨_, rfl⟩
      simp only [← hm, ← hpA, ← hpc] at x2 hpi hpb hblk hne
      have HPI := Lib.hid hpi
      have HBLK := Lib.hid hblk
      have HNE := Lib.hid hne
      clear hrow hval hpr hfr hc hpi hblk hne hvv hm hpA hpc
      go_wp2_with fail
      go_loopw [4] (fun kv wx => ∃ (k : Nat) (ys : List Value), k ≤ m ∧ kv = .int .i64 k ∧ wx.ownsRow base 32 2 (.slice pA m pc) m ys ∧ wx.ownsRow base 30 3 (.slice (some ⟨g, 0, none⟩) n c) n xs ∧
        (∀ j (h : j < l.length), i < j → wx.ownsRow base 32 2 l[j].val l[j].d.ps.length (prCells l[j].d.ps)) ∧ Frame (Blk (some ⟨g, 0, none⟩) l) w wx) (fun kv _ => m - (intOf kv).toNat)
      case atStart => exact ⟨0, _, by omega, rfl, HPI.out, HROW.out, fun j h hij => HPR.out j h (by omega), HFR.out⟩
      case round =>
        obtain ⟨k, ys, hk, rfl, hys, hrow, hpr, hfr⟩ := hrel
        clear HPI HROW HPR HFR x2
        have HYS := Lib.hid hys
        have HROW := Lib.hid hrow
        have HPR := Lib.hid hpr
        have HFR := Lib.hid hfr
        by_cases hkm : k < m
        · have hki : (k : Int) < (m : Int) := by omega
          obtain ⟨gp, pcap, hv, hgpb, hgpl⟩ := hys.form (by omega)
          injection hv with hA _ hc
          subst hA
          have f0 := hys.frozenAt (k * 2)
          have f1 := hys.frozenAt (k * 2 + 1)
          have hl := hys.1
          have y0 := (hys.cellAt (k * 2) (by omega)).trans (List.getElem?_eq_getElem (by omega))
          have y1 := (hys.cellAt (k * 2 + 1) (by omega)).trans (List.getElem?_eq_getElem (by omega))
          generalize ys[k * 2] = v0 at y0
          generalize ys[k * 2 + 1] = v1 at y1
          have hys2 := ((hys.stored (k * 2) (.string ⟨#[126]⟩)).1.stored (k * 2 + 1) (.string ⟨#[126]⟩)).1
          have hkeep : ∀ g', gp ≠ g' → ((wr.setCell ⟨gp, k * 2, none⟩ (.string ⟨#[126]⟩)).setCell ⟨gp, k * 2 + 1, none⟩ (.string ⟨#[126]⟩)).heap[g']? = wr.heap[g']? := fun g' hne => by
            rw [Below.heap_setCell _ _ _ _ (show g' ≠ gp from fun e => hne e.symm), Below.heap_setCell _ _ _ _ (show g' ≠ gp from fun e => hne e.symm)]
          have hrow2 := own_keep hrow (w' := ((wr.setCell ⟨gp, k * 2, none⟩ (.string ⟨#[126]⟩)).setCell ⟨gp, k * 2 + 1, none⟩ (.string ⟨#[126]⟩))) (fun g' hg' _ => hkeep g' (by
            intro e; subst e
            exact own_types hrow hys (by decide) _ hg' rfl))
          have hpr2 := fun j (h : j < l.length) (hij : i < j) => own_keep (hpr j h hij) (w' := ((wr.setCell ⟨gp, k * 2, none⟩ (.string ⟨#[126]⟩)).setCell ⟨gp, k * 2 + 1, none⟩ (.string ⟨#[126]⟩))) (fun g' hg' _ => hkeep g' (by
            intro e; subst e
            exact HNE.out j h hij gp rfl hg'))
          have hfr2 := (hfr.setCell (p := ⟨gp, k * 2, none⟩) (fun _ => HBLK.out gp rfl) (.string ⟨#[126]⟩)).setCell (p := ⟨gp, k * 2 + 1, none⟩) (fun _ => HBLK.out gp rfl) (.string ⟨#[126]⟩)
          have Y2 := Lib.hid hys2
          have R2 := Lib.hid hrow2
          have P2 := Lib.hid hpr2
          have F2 := Lib.hid hfr2
          clear hys hrow hpr hfr hc hl hys2 hrow2 hpr2 hfr2 hkeep
          go_wp2_with fail
          exact ⟨⟨k + 1, _, by omega, by go_num, Y2.out, R2.out, P2.out, F2.out⟩, by simp [intOf]; omega⟩
        · obtain rfl : k = m := by omega
          clear hys hrow hpr hfr
          go_wp2_with (first
            | (at_builtin; refine wpList_push2 rfl (.tmp 27) (.tmp 29) 28 rfl base 32 j0 _ 2 32 Try.underlying28 gi gz0 gz1 gz2 rfl (by decide) _ k ys rfl HYS.out #[.string ⟨#[126, 126]⟩, .string ⟨#[]⟩] rfl rfl ?_ ?_ ?_ ?_ ?_))
          · first | exact ⟨rfl, rfl⟩ | (intro u hu; simp at hu; rcases hu with rfl | rfl <;> rfl)
          · unfold maxLen; omega
          · omega
          · exact Nat.le_trans hb HFR.out.size
          intro A5 c5 w5 hown5 hp5 hid5
          have hrow5 := own_keep HROW.out (w' := w5) (fun g' hg' hlt => hp5.row g' hlt (fun e => own_types HROW.out HYS.out (by decide) g' hg' e))
          have hpr5 := fun j (h : j < l.length) (hij : i < j) => own_keep (HPR.out j h hij) (w' := w5) (fun g' hg' hlt => hp5.row g' hlt (fun e => HNE.out j h hij g' e hg'))
          have hfr5 := frame_pushed HFR.out hp5 (fun g' hg' => .inl (HBLK.out g' hg'))
          have hl := hrow5.1
          have f0 := hrow5.frozenAt (i * 3)
          have f1 := hrow5.frozenAt (i * 3 + 1)
          have f2 := hrow5.frozenAt (i * 3 + 2)
          have y0 := (hrow5.cellAt (i * 3) (by omega)).trans (List.getElem?_eq_getElem (by omega))
          have y1 := (hrow5.cellAt (i * 3 + 1) (by omega)).trans (List.getElem?_eq_getElem (by omega))
          have y2 := (hrow5.cellAt (i * 3 + 2) (by omega)).trans (List.getElem?_eq_getElem (by omega))
          generalize xs[i * 3] = v0 at y0
          generalize xs[i * 3 + 1] = v1 at y1
          generalize xs[i * 3 + 2] = v2 at y2
          have hrow6 := (((hrow5.stored (i * 3) (.int .i64 (-7))).1.stored (i * 3 + 1) (.string ⟨#[126]⟩)).1.stored (i * 3 + 2) (.slice A5 (k + 1) c5)).1
          have hval6 : ∀ j (h : j < l.length), i + 1 ≤ j → (((xs.set (i * 3) (.int .i64 (-7))).set (i * 3 + 1) (.string ⟨#[126]⟩)).set (i * 3 + 2) (.slice A5 (k + 1) c5))[j * 3 + 2]? = some l[j].val := fun j h hij => by
            rw [List.getElem?_set_ne (by omega), List.getElem?_set_ne (by omega), List.getElem?_set_ne (by omega)]
            exact HVAL.out j h (by omega)
          have hkeep : ∀ g', g ≠ g' → (((w5.setCell ⟨g, i * 3, none⟩ (.int .i64 (-7))).setCell ⟨g, i * 3 + 1, none⟩ (.string ⟨#[126]⟩)).setCell ⟨g, i * 3 + 2, none⟩ (.slice A5 (k + 1) c5)).heap[g']? = w5.heap[g']? := fun g' hne => by
            rw [Below.heap_setCell _ _ _ _ (show g' ≠ g from fun e => hne e.symm), Below.heap_setCell _ _ _ _ (show g' ≠ g from fun e => hne e.symm), Below.heap_setCell _ _ _ _ (show g' ≠ g from fun e => hne e.symm)]
          have hpr6 := fun j (h : j < l.length) (hij : i + 1 ≤ j) => own_keep (hpr5 j h (by omega)) (w' := (((w5.setCell ⟨g, i * 3, none⟩ (.int .i64 (-7))).setCell ⟨g, i * 3 + 1, none⟩ (.string ⟨#[126]⟩)).setCell ⟨g, i * 3 + 2, none⟩ (.slice A5 (k + 1) c5))) (fun g' hg' _ => hkeep g' (by
            intro e; subst e
            exact own_types (hpr5 j h (by omega)) hrow5 (by decide) _ hg' rfl))
          have hfr6 := ((hfr5.setCell (p := ⟨g, i * 3, none⟩) (fun _ => .inl rfl) (.int .i64 (-7))).setCell (p := ⟨g, i * 3 + 1, none⟩) (fun _ => .inl rfl) (.string ⟨#[126]⟩)).setCell (p := ⟨g, i * 3 + 2, none⟩) (fun _ => .inl rfl) (.slice A5 (k + 1) c5)
          have R6 := Lib.hid hrow6
          have V6 := Lib.hid hval6
          have P6 := Lib.hid hpr6
          have F6 := Lib.hid hfr6
          clear hrow5 hpr5 hfr5 hown5 hp5 hid5 hl hrow6 hval6 hpr6 hfr6 hkeep
          go_wp2_with fail
          exact ⟨⟨i + 1, _, by omega, by go_num, R6.out, V6.out, P6.out, F6.out⟩, by simp [intOf]; omega⟩
    · obtain rfl : i = n := by omega
      clear hrow hval hpr hfr
      go_wp2_with fail
      go_loopw [5, 0] (fun jv ov wx => ∃ (j N : Nat) (A3 : Option Addr) (c3 : Nat) (ys : List Value), j ≤ 8 ∧ jv = .int .i64 j ∧ ov = .slice A3 N c3 ∧ N = i + j ∧ wx.ownsRow base 30 3 (.slice A3 N c3) N ys ∧ (∀ g, (Value.slice A3 N c3).ownBlock = some g → Blk A l g ∨ w.heap.size ≤ g) ∧ Frame (Blk A l) w wx) (fun jv _ _ => 8 - (intOf jv).toNat)
      case atStart => exact ⟨0, i, A, c, xs, by omega, rfl, rfl, rfl, HROW.out, fun g hg => .inl (.inl (match A, hg with | some _, hg => hg)), HFR.out⟩
      case round =>
        obtain ⟨j, N, A3, c3, ys, hj, rfl, rfl, hN, hys, hbk, hfr⟩ := hrel
        have HYS := Lib.hid hys
        have HBK := Lib.hid hbk
        have HFR3 := Lib.hid hfr
        have hNb : (N + 1) * 48 ≤ 140737488355328 ∨ j = 8 := by omega
        have HN := Lib.hid hN
        clear HROW HVAL HPR HFR hys hbk hfr hN
        by_cases hj8 : j < 8
        · have hji : (j : Int) < 8 := by omega
          go_wp2_with (first
            | (at_builtin; refine wpList_push2 rfl (.tmp 40) (.tmp 42) 22 rfl base 30 i0 _ 3 48 Try.underlying22 fi fz0 fz1 fz2 rfl (by decide) _ N ys rfl HYS.out #[.int .i64 (-8), .string ⟨#[]⟩, .slice none 0 0] rfl rfl ?_ ?_ ?_ ?_ ?_))
          · first | exact ⟨rfl, rfl, rfl⟩ | (intro u hu; simp at hu; rcases hu with rfl | rfl | rfl <;> rfl)
          · unfold maxLen; omega
          · omega
          · exact Nat.le_trans hb HFR3.out.size
          intro A5 c5 w5 hown5 hp5 hid5
          have hfr5 := frame_pushed HFR3.out hp5 HBK.out
          have hbk5 : ∀ g, (Value.slice A5 (N + 1) c5).ownBlock = some g → Blk A l g ∨ w.heap.size ≤ g := fun g hg => by
            rcases hid5 g hg with h | h
            · exact HBK.out g h
            · exact .inr (Nat.le_trans HFR3.out.size h)
          have O5 := Lib.hid hown5
          have B5 := Lib.hid hbk5
          have F5 := Lib.hid hfr5
          clear hown5 hp5 hid5 hfr5 hbk5
          go_wp2_with fail
          exact ⟨⟨j + 1, N + 1, A5, c5, _, by omega, by go_num, rfl, by have := HN.out; omega, O5.out, B5.out, F5.out⟩, by simp [intOf]; omega⟩
        · obtain rfl : j = 8 := by omega
          go_wp2_with fail
          all_goals (try simp only [Exit.inBlock, Exit.then])
          all_goals first | (refine bodyPost_ret (results_none rfl _ _ _) rfl ?_) | (refine bodyPost_end (results_none rfl _ _ _) rfl ?_)
          all_goals exact ⟨rfl, HFR3.out⟩
end Go.Proofs.Ytmdnbajbfnhecaa
