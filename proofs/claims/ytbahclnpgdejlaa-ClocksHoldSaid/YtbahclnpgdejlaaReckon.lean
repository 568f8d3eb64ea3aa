/- The contract of reckon. -/
import Derived.Test.YtbahclnpgdejlaaRates
set_option linter.unusedVariables false
namespace Go.Proofs.Ytbahclnpgdejlaa
open Go.RowKit
theorem Try.info2 : (Try.prog.info? 2).map (fun i => (i.zero, i.size, i.bytes)) = some (some (.int .i64 0), 1, 8) := by kernel_rfl
theorem ratesAt (l : List Clk) (k f : Nat) (hf : f < k) (hk : k ≤ l.length) (n : Nat) : (ratesOf (l.take k) ++ zeros n).getD f 0 = (ratesOf (l.take k)).getD f 0 := by
  have hl : (ratesOf (l.take k)).length = k := by rw [ratesOf_len]; simp; omega
  simp [List.getD, List.getElem?_append_left, hl, hf]
/-- base, as reckon calls it. -/
theorem base_k (A : Option Addr) (g n capA : Nat) (l : List Clk) (hn : n = l.length) (k : Nat) (hk : k < l.length) (hg : Good l) (w : World) (B : Nat) (hs : Seg w B A (clkCells l))
    (hr : RowAt w g 2 (i64s (ratesOf (l.take k) ++ zeros (n - k)))) :
    Calls Try.prog 26 #[.slice A n capA, .slice (some ⟨g, 0, none⟩) n n, .int .i64 k] w fun e w' => e = .returned (.int .i64 (baseOf (ratesOf (l.take k)) l[k])) ∧ w' = w := by
  have hl : (ratesOf (l.take k)).length = k := by rw [ratesOf_len]; simp; omega
  rcases (hg.at_ hk).src with ⟨h1, _, _⟩ | ⟨h1, h2, _⟩
  · have e : baseOf (ratesOf (l.take k)) l[k] = l[k].rate := by unfold baseOf; rw [if_pos (by omega)]
    rw [e]
    exact turn_same (base_own _ _ _ _ _ _ l hn k hk w B hs (by omega))
  · have e : baseOf (ratesOf (l.take k)) l[k] = (ratesOf (l.take k)).getD l[k].frm.toNat 0 := by unfold baseOf; rw [if_neg (by omega)]
    have hlen : (ratesOf (l.take k) ++ zeros (n - k)).length = n := by simp [zeros, hl]; omega
    have hsg := hr.seg (B := g + 1) (by omega)
    have := base_from A (some ⟨g, 0, none⟩) n n capA n l (ratesOf (l.take k) ++ zeros (n - k)) hn k l[k].frm.toNat hk (by omega) (by omega) (by omega) w B (g + 1) hs hsg
    rw [e, ← ratesAt l k _ (by omega) (by omega) (n - k)]
    refine turn_same ?_
    simpa [List.getD, hlen, show l[k].frm.toNat < n by omega] using this
set_option maxRecDepth 100000 in
set_option maxHeartbeats 1000000 in
theorem reckon_any (A : Option Addr) (cap : Nat) (l : List Clk) (n : Nat) (hn : n = l.length) (hg : Good l) (w : World) (B : Nat) (hB : B ≤ w.heap.size) (hs : Seg w B A (clkCells l)) (hl : n ≤ 2513169434843) :
    Calls Try.prog 23 #[.slice A n cap] w fun e w' => Below w.heap.size w w' ∧
      (((∀ j, j < n → fitsAt l j = true) ∧ e = .returned (.tuple #[.slice (some ⟨w.heap.size, 0, none⟩) n n, .int .i64 0]) ∧ RowAt w' w.heap.size 2 (i64s (ratesOf l))) ∨
       (∃ j, j < n ∧ fitsAt l j = false) ∧ e = .returned (.tuple #[.slice none 0 0, .int .i64 181])) := by
  have Hn := Lib.hid hn
  have Hg := Lib.hid hg
  clear hn hg
  obtain ⟨i0, hi, hz0, hz1, hz2⟩ := info_parts Try.info2
  obtain ⟨w1, hmk, hown, hgr⟩ := run_make_full (P := Try.prog) w w.heap.size 63 2 i0 (.int .i64 0) 1 Try.underlying63 hi hz0 hz1 .i64 .i64 n (by rw [hz2]; omega) (by unfold maxLen; omega) (Nat.le_refl _)
  clear hi hz0 hz1 hz2
  have hb1 : Below w.heap.size w w1 := (Below.refl _ _).grown hgr (Nat.le_refl _) (by simp)
  have hrow1 : RowAt w1 w.heap.size 2 (i64s (ratesOf (l.take 0) ++ zeros (n - 0))) := by
    obtain ⟨_, h⟩ := hown
    rcases h with ⟨h, _⟩ | ⟨g', cap', cur, h, _, hh, _, _, _, ht⟩
    · simp at h
    · simp only [Value.slice.injEq, Option.some.injEq, Addr.mk.injEq, and_true, true_and] at h
      obtain ⟨rfl, rfl⟩ := h
      refine ⟨cur, hh, ?_⟩
      have e : i64s (ratesOf (l.take 0) ++ zeros (n - 0)) = (madeCells (Value.int IntKind.i64 0).cells (n * 1)).toList := by
        show i64s ([] ++ zeros n) = (madeCells #[Value.int IntKind.i64 0] (n * 1)).toList
        rw [toList_madeCells_one]
        simp [i64s, zeros]
      rw [e] at *
      have el : ((madeCells (Value.int IntKind.i64 0).cells (n * 1)).toList).length = n * 1 := by rw [Array.length_toList]; exact size_madeCells _ _
      rw [el]
      exact ht
  clear hgr hown
  go_enter Try.func23, Try.ntmps23
  go_wp2
  go_loopw [12] (fun i wr => ∃ k : Nat, k ≤ n ∧ i = .int .i64 k ∧ Below w.heap.size w wr ∧ RowAt wr w.heap.size 2 (i64s (ratesOf (l.take k) ++ zeros (n - k))) ∧ ∀ j, j < k → fitsAt l j = true) (fun i _ => n - (intOf i).toNat)
  case atStart => exact ⟨0, by omega, rfl, hb1, hrow1, by omega⟩
  case round =>
    obtain ⟨k, hk, rfl, hb, hrow, hall⟩ := hrel
    have hsr := hs.below (hb.mono hB)
    have HB := Lib.hid hb
    have HA := Lib.hid hall
    have HR := Lib.hid hrow
    clear hb hall hrow hmk hrow1 hb1
    by_cases hlt : k < n
    · have hkl : k < l.length := by rw [← Hn.out]; exact hlt
      obtain ⟨c, hc⟩ : ∃ c, c = l[k] := ⟨_, rfl⟩
      have HC := Lib.hid hc
      obtain ⟨v, hv⟩ : ∃ v, v = baseOf (ratesOf (l.take k)) l[k] := ⟨_, rfl⟩
      have HV := Lib.hid hv
      have ok := Hg.out.at_ hkl
      obtain ⟨vb1, vb2⟩ := base_bd Hg.out hkl HA.out
      have hfit := fitsAt_get l k hkl
      rw [ratesOf_at l k hkl] at hfit
      obtain ⟨b, off, rfl, hbb, h0, h1, h2, h3, h4, h5, h6⟩ := hsr.clk hkl
      have hsz : w.heap.size < wr.heap.size := HR.out.lt
      have hcell : ∀ o : Obj, ∀ w2 : World, w2 = (wr.alloc o).drew → _ := fun o w2 e =>
        (base_k (some ⟨b, off, none⟩) w.heap.size n cap l Hn.out k hkl Hg.out w2 B (by rw [e]; exact (hsr.alloc (by omega) o).drew) (by rw [e]; exact HR.out.keep (Below.heap_alloc _ _ _ hsz)))
      rw [← hv] at hfit vb1 vb2
      simp only [← hv] at hcell
      rw [← hc] at h0 h1 h2 h3 h4 h5 h6 ok hfit
      clear hv hc
      obtain ⟨o1, o2, o3, o4, o5, o6, o7⟩ := ok
      obtain ⟨F, R, M, D, L, H, s⟩ := c
      dsimp only at h0 h1 h2 h3 h4 h5 h6 hfit o1 o2 o3 o4 o5 o6 o7
      clear o7
      obtain ⟨p1, p2, p3, p4⟩ := prod_bd vb1 vb2 o1 o2 o3
      have hki : (k : Int) < (n : Int) := by omega
      have HCB := Lib.hid hcell
      clear hcell
      have hfz : wr.frozen? ⟨w.heap.size, k, none⟩ = false := HR.out.frozen k
      have hcl := HR.out.cell (k := k) (by simp [i64s, zeros, ratesOf_len]; omega)
      obtain ⟨x, hx⟩ : ∃ x, (i64s (ratesOf (l.take k) ++ zeros (n - k)))[k]? = some x := ⟨_, List.getElem?_eq_getElem (by simp [i64s, zeros, ratesOf_len]; omega)⟩
      rw [hx] at hcl
      clear hx
      have HF := Lib.hid hfit
      clear hfit hs hsr
      have e1 : IntKind.i64.wrap (v * M) = v * M := IntWalk.i64_in _ (by omega)
      have e2 : IntKind.i64.wrap ((v * M).tdiv D) = v * M / D := IntWalk.i64_quo _ _ (by omega)
      have e3 : ¬ D = 0 := by omega
      go_wp2_with fail
      refine still_tail 13 (by kernel_rfl) (by kernel_rfl) ?_
      simp only [List.take_succ_cons, List.take_zero, List.drop_succ_cons, List.drop_zero]
      repeat still_step
      still_call (HCB.out _ _ rfl)
      repeat still_step
      refine wpStill_nil ?_
      clear e1 e2 e3
      obtain ⟨r, hr⟩ : ∃ r, r = v * M / D := ⟨_, rfl⟩
      have HRR := Lib.hid hr
      rw [← hr]
      have HFF : Hid (fitsAt l k = (!decide (r < L) && !decide (H < r))) := by rw [hr]; exact HF.out
      clear hr p1 p2 p3 p4 HF HCB vb1 vb2 o1 o2 o3 o4 o5 o6
      have hst : RowAt (wr.setCell ⟨w.heap.size, k, none⟩ (.int .i64 r)) w.heap.size 2 (i64s (ratesOf (l.take (k + 1)) ++ zeros (n - (k + 1)))) := by
        rw [← set_rates l k n hkl Hn.out r (by rw [HRR.out, HV.out, ← HC.out])]
        exact HR.out.store k _
      have hbst : Below w.heap.size w (wr.setCell ⟨w.heap.size, k, none⟩ (.int .i64 r)) := HB.out.setCell (Nat.le_refl _) _
      have HS := Lib.hid hst
      have HBS := Lib.hid hbst
      clear hst hbst
      rcases hd1 : decide (r < L)
      · rcases hd2 : decide (H < r)
        · have HFT : Hid (fitsAt l k = true) := by rw [HFF.out, hd1, hd2]; rfl
          go_wp2_with fail
          go_quiet (fail)
          go_wp2
          go_roundw
          case rel => exact ⟨k + 1, by omega, by go_num, below_drewN (HBS.out.alloc (by simp; omega) _) _, HS.out.keep (Below.heap_alloc _ _ _ (by simp; exact hsz)), fun j hj => if e : j = k then by rw [e]; exact HFT.out else HA.out j (by omega)⟩
          case measure => simp [intOf]; omega
        · have HFT : Hid (fitsAt l k = false) := by rw [HFF.out, hd1, hd2]; rfl
          go_wp2_with fail
          go_quiet (fail)
          go_wp2
          go_ret2
          exact ⟨below_drewN (HBS.out.alloc (by simp; omega) _).drew _, .inr ⟨⟨k, hlt, HFT.out⟩, rfl⟩⟩
      · have HFT : Hid (fitsAt l k = false) := by rw [HFF.out, hd1]; rfl
        go_wp2_with fail
        go_quiet (fail)
        go_wp2
        go_ret2
        exact ⟨below_drewN (HBS.out.alloc (by simp; omega) _).drew _, .inr ⟨⟨k, hlt, HFT.out⟩, rfl⟩⟩
    · obtain rfl : k = n := by omega
      have hrow := HR.out
      rw [List.take_of_length_le (by rw [← Hn.out]; omega), show zeros (k - k) = [] from by simp [zeros], List.append_nil] at hrow
      have HRF := Lib.hid hrow
      clear hrow
      go_wp2
      go_ret2
      exact ⟨HB.out, .inl ⟨HA.out, rfl, HRF.out⟩⟩
end Go.Proofs.Ytbahclnpgdejlaa
