/- Lists that are the same; claims that are written over and grown. -/
import Derived.Test.YtdnncpikndgabaaRFree
import Derived.Test.YtdnncpikndgabaaPush2
set_option linter.unusedVariables false
namespace Go.Proofs.Ytdnncpikndgabaa
open Go.RowKit
set_option maxRecDepth 100000 in
theorem samec_any (X : List Cl) (n : Nat) (hn : n = X.length) (hn2 : n ≤ maxLen) (A A' : Option Addr) (c c' : Nat) (w : World) (B : Nat) (hB : B ≤ w.heap.size) (hs : Seg w B A (clCells X)) (hs' : Seg w B A' (clCells X)) :
    Calls Try.prog 17 #[.slice A n c, .slice A' n c'] w fun e w' => e = .returned (.bool true) ∧ Below w.heap.size w w' := by
  unfold maxLen at hn2
  have HN := Lib.hid hn
  have HS := Lib.hid hs
  have HS' := Lib.hid hs'
  clear hn hs hs'
  go_enter Try.func17, Try.ntmps17
  go_wp2_with fail
  go_loopw [5] (fun iv wx => ∃ k : Nat, k ≤ n ∧ iv = .int .i64 k ∧ Below w.heap.size w wx) (fun iv _ => n - (intOf iv).toNat)
  case atStart => exact ⟨0, by omega, rfl, Below.refl _ _⟩
  case round =>
    obtain ⟨k, hk, rfl, hb⟩ := hrel
    have HB := Lib.hid hb
    by_cases hkn : k < n
    · have hkL : k < X.length := by rw [← HN.out]; exact hkn
      have hki : (k : Int) < (n : Int) := by omega
      obtain ⟨g, off, eA, _, xa⟩ := (HS.out.below (hb.mono hB)).thing (f := Cl.cells) (m := 3) cl_len (by omega) hkL
      obtain ⟨g', off', eA', _, xa'⟩ := (HS'.out.below (hb.mono hB)).thing (f := Cl.cells) (m := 3) cl_len (by omega) hkL
      subst eA eA'
      have x0 : wr.cell? ⟨g, off + k * 3, none⟩ = some (.int .u8 (X[k].k : Int)) := xa 0 _ rfl
      have x1 : wr.cell? ⟨g, off + k * 3 + 1, none⟩ = some (.int .u64 (X[k].f : Int)) := xa 1 _ rfl
      have x2 : wr.cell? ⟨g, off + k * 3 + 2, none⟩ = some (.int .u64 (X[k].t : Int)) := xa 2 _ rfl
      have y0 : wr.cell? ⟨g', off' + k * 3, none⟩ = some (.int .u8 (X[k].k : Int)) := xa' 0 _ rfl
      have y1 : wr.cell? ⟨g', off' + k * 3 + 1, none⟩ = some (.int .u64 (X[k].f : Int)) := xa' 1 _ rfl
      have y2 : wr.cell? ⟨g', off' + k * 3 + 2, none⟩ = some (.int .u64 (X[k].t : Int)) := xa' 2 _ rfl
      generalize X[k].k = a at *
      generalize X[k].f = b at *
      generalize X[k].t = d at *
      have f0 : ((a : Int) != (a : Int)) = false := bne_self_eq_false _
      have f1 : ((b : Int) != (b : Int)) = false := bne_self_eq_false _
      have f2 : ((d : Int) != (d : Int)) = false := bne_self_eq_false _
      have f3 : ((a : Int) == (a : Int)) = true := beq_self_eq_true _
      have f4 : ((b : Int) == (b : Int)) = true := beq_self_eq_true _
      have f5 : ((d : Int) == (d : Int)) = true := beq_self_eq_true _
      clear xa xa' hb
      go_wp2_with fail
      go_quiet (fail)
      go_wp2_with fail
      exact ⟨⟨k + 1, by omega, by go_num, below_drewN HB.out _⟩, by simp [intOf]; omega⟩
    · obtain rfl : k = n := by omega
      clear hb
      go_wp2_with fail
      go_ret
      exact ⟨rfl, HB.out⟩
set_option maxRecDepth 100000 in
theorem sameo_any (X : List Ow) (n : Nat) (hn : n = X.length) (hn2 : n ≤ maxLen) (A A' : Option Addr) (c c' : Nat) (w : World) (B : Nat) (hB : B ≤ w.heap.size) (hs : Seg w B A (owCells X)) (hs' : Seg w B A' (owCells X)) :
    Calls Try.prog 11 #[.slice A n c, .slice A' n c'] w fun e w' => e = .returned (.bool true) ∧ Below w.heap.size w w' := by
  unfold maxLen at hn2
  have HN := Lib.hid hn
  have HS := Lib.hid hs
  have HS' := Lib.hid hs'
  clear hn hs hs'
  go_enter Try.func11, Try.ntmps11
  go_wp2_with fail
  go_loopw [5] (fun iv wx => ∃ k : Nat, k ≤ n ∧ iv = .int .i64 k ∧ Below w.heap.size w wx) (fun iv _ => n - (intOf iv).toNat)
  case atStart => exact ⟨0, by omega, rfl, Below.refl _ _⟩
  case round =>
    obtain ⟨k, hk, rfl, hb⟩ := hrel
    have HB := Lib.hid hb
    by_cases hkn : k < n
    · have hkL : k < X.length := by rw [← HN.out]; exact hkn
      have hki : (k : Int) < (n : Int) := by omega
      obtain ⟨g, off, eA, _, xa⟩ := (HS.out.below (hb.mono hB)).thing (f := Ow.cells) (m := 4) ow_len (by omega) hkL
      obtain ⟨g', off', eA', _, xa'⟩ := (HS'.out.below (hb.mono hB)).thing (f := Ow.cells) (m := 4) ow_len (by omega) hkL
      subst eA eA'
      have x0 : wr.cell? ⟨g, off + k * 4, none⟩ = some (.int .i64 X[k].n) := xa 0 _ rfl
      have x1 : wr.cell? ⟨g, off + k * 4 + 1, none⟩ = some (.int .u8 (X[k].c.k : Int)) := xa 1 _ rfl
      have x2 : wr.cell? ⟨g, off + k * 4 + 2, none⟩ = some (.int .u64 (X[k].c.f : Int)) := xa 2 _ rfl
      have x3 : wr.cell? ⟨g, off + k * 4 + 3, none⟩ = some (.int .u64 (X[k].c.t : Int)) := xa 3 _ rfl
      have y0 : wr.cell? ⟨g', off' + k * 4, none⟩ = some (.int .i64 X[k].n) := xa' 0 _ rfl
      have y1 : wr.cell? ⟨g', off' + k * 4 + 1, none⟩ = some (.int .u8 (X[k].c.k : Int)) := xa' 1 _ rfl
      have y2 : wr.cell? ⟨g', off' + k * 4 + 2, none⟩ = some (.int .u64 (X[k].c.f : Int)) := xa' 2 _ rfl
      have y3 : wr.cell? ⟨g', off' + k * 4 + 3, none⟩ = some (.int .u64 (X[k].c.t : Int)) := xa' 3 _ rfl
      generalize X[k].n = z at *
      generalize X[k].c.k = a at *
      generalize X[k].c.f = b at *
      generalize X[k].c.t = d at *
      have fz : (z != z) = false := bne_self_eq_false _
      have f0 : ((a : Int) != (a : Int)) = false := bne_self_eq_false _
      have f1 : ((b : Int) != (b : Int)) = false := bne_self_eq_false _
      have f2 : ((d : Int) != (d : Int)) = false := bne_self_eq_false _
      have f3 : ((a : Int) == (a : Int)) = true := beq_self_eq_true _
      have f4 : ((b : Int) == (b : Int)) = true := beq_self_eq_true _
      have f5 : ((d : Int) == (d : Int)) = true := beq_self_eq_true _
      clear xa xa' hb
      go_wp2_with fail
      go_quiet (fail)
      go_wp2_with fail
      exact ⟨⟨k + 1, by omega, by go_num, below_drewN HB.out _⟩, by simp [intOf]; omega⟩
    · obtain rfl : k = n := by omega
      clear hb
      go_wp2_with fail
      go_ret
      exact ⟨rfl, HB.out⟩
theorem pushed_frame {base : Nat} {v : Value} {w w' : World} (h : Pushed base v w w') : Frame (fun g => v.ownBlock = some g) w w' := ⟨h.low.os, h.low.tape, h.low.output, h.low.size, fun k hk hs => h.row k hk hs⟩
set_option maxRecDepth 100000 in
set_option maxHeartbeats 2000000 in
theorem over_any (X : List Cl) (n : Nat) (hn : n = X.length) (hn2 : (n + 20) * 24 ≤ 140737488355328) (A1 A2 A3 : Option Addr) (c1 c2 c3 : Nat) (w : World) (base : Nat) (hb : base ≤ w.heap.size) (h1 : w.ownsRow base 24 3 (.slice A1 n c1) n (clCells X))
    (B : Nat) (hB : B ≤ w.heap.size) (h2 : Seg w B A2 (clCells X)) (h3 : Seg w B A3 (clCells X)) (b2 b3 : Nat) (h2r : w.ownsRow b2 24 3 (.slice A2 n c2) n (clCells X)) (h3r : w.ownsRow b3 24 3 (.slice A3 n c3) n (clCells X))
    (hne2 : ∀ g, Own1 A1 g → ¬ Own1 A2 g) (hne3 : ∀ g, Own1 A1 g → ¬ Own1 A3 g) :
    Calls Try.prog 10 #[.slice A1 n c1, .slice A2 n c2, .slice A3 n c3] w fun e w' => e = .returned (.bool true) ∧ Frame (Own1 A1) w w' := by
  obtain ⟨i0, fi, fz0, fz1, fz2⟩ := info_parts Try.info24
  have hs1 := samec_any X n hn (by unfold maxLen; omega) A1 A3 c1 c3 w w.heap.size (Nat.le_refl _) (own_seg h1) (own_seg h3r)
  have HO := Lib.hid h1
  have H2 := Lib.hid h2r
  have H3 := Lib.hid h3r
  have HE2 := Lib.hid hne2
  have HE3 := Lib.hid hne3
  have HN := Lib.hid hn
  clear hn h1 h2 h3 h2r h3r hne2 hne3
  go_enter Try.func10, Try.ntmps10
  go_wp2_with (first
    | (go_at_call 17
       refine (samec_any X n HN.out (by unfold maxLen; omega) A2 A3 c2 c3 w1 w1.heap.size (Nat.le_refl _) (own_seg (own_keep H2.out fun g _ hlt => HB1.out.block g hlt)) (own_seg (own_keep H3.out fun g _ hlt => HB1.out.block g hlt))).mono ?_
       rintro e w2 ⟨rfl, hb2⟩
       have HB2 := Lib.hid (below_next HB1.out hb2)
       clear hb2)
    | (go_at_call 17
       refine hs1.mono ?_
       rintro e w1 ⟨rfl, hb1⟩
       have HB1 := Lib.hid hb1
       clear hb1))
  go_loopw [7] (fun iv wr => ∃ (i : Nat) (xs : List Value), i ≤ n ∧ iv = .int .i64 i ∧ wr.ownsRow base 24 3 (.slice A1 n c1) n xs ∧ Frame (Own1 A1) w wr) (fun iv _ => n - (intOf iv).toNat)
  case atStart => exact ⟨0, _, by omega, rfl, own_keep HO.out fun g _ hlt => HB2.out.block g hlt, Frame.of_below HB2.out⟩
  case round =>
    obtain ⟨i, xs, hi, rfl, hrow, hfr⟩ := hrel
    have HROW := Lib.hid hrow
    have HFR := Lib.hid hfr
    by_cases hin : i < n
    · have hii : (i : Int) < (n : Int) := by omega
      obtain ⟨g, cap, hv, hgb, hgl⟩ := hrow.form (by omega)
      injection hv with hA _ hc
      subst hA
      have hl := hrow.1
      have f0 := hrow.frozenAt (i * 3)
      have f1 := hrow.frozenAt (i * 3 + 1)
      have f2 := hrow.frozenAt (i * 3 + 2)
      have y0 := (hrow.cellAt (i * 3) (by omega)).trans (List.getElem?_eq_getElem (by omega))
      have y1 := (hrow.cellAt (i * 3 + 1) (by omega)).trans (List.getElem?_eq_getElem (by omega))
      have y2 := (hrow.cellAt (i * 3 + 2) (by omega)).trans (List.getElem?_eq_getElem (by omega))
      generalize xs[i * 3] = v0 at y0
      generalize xs[i * 3 + 1] = v1 at y1
      generalize xs[i * 3 + 2] = v2 at y2
      have hst := (((hrow.stored (i * 3) (.int .u8 99)).1.stored (i * 3 + 1) (.int .u64 0)).1.stored (i * 3 + 2) (.int .u64 0)).1
      have hS : Own1 (some ⟨g, 0, none⟩) g := rfl
      have hfr2 : Frame (Own1 (some ⟨g, 0, none⟩)) w (((wr.setCell ⟨g, i * 3, none⟩ (.int .u8 99)).setCell ⟨g, i * 3 + 1, none⟩ (.int .u64 0)).setCell ⟨g, i * 3 + 2, none⟩ (.int .u64 0)) :=
        ((hfr.setCell (fun _ => hS) _).setCell (fun _ => hS) _).setCell (fun _ => hS) _
      have HST := Lib.hid hst
      have HF2 := Lib.hid hfr2
      clear hrow hfr hst hfr2 hl hc hs1
      go_wp2_with fail
      exact ⟨⟨i + 1, _, by omega, by go_num, HST.out, HF2.out⟩, by simp [intOf]; omega⟩
    · obtain rfl : i = n := by omega
      clear hrow hfr hs1 HB1 HB2 HO hin
      go_wp2_with fail
      have hwr0 : w.heap.size ≤ wr.heap.size := HFR.out.size
      go_loopw [0, 8] (fun lv kv wx => ∃ (k : Nat) (A4 : Option Addr) (c4 : Nat) (ys : List Value), k ≤ 20 ∧ kv = .int .i64 k ∧ lv = .slice A4 (i + k) c4 ∧ wx.ownsRow base 24 3 (.slice A4 (i + k) c4) (i + k) ys ∧ Frame (Own1 A1) w wx ∧ (∀ g, (Value.slice A4 (i + k) c4).ownBlock = some g → Own1 A1 g ∨ w.heap.size ≤ g)) (fun _ kv _ => 20 - (intOf kv).toNat)
      case atStart => exact ⟨0, A1, c1, xs, by omega, rfl, rfl, HROW.out, HFR.out, fun g hg => .inl (own1_val.1 hg)⟩
      case round =>
        obtain ⟨k, A4, c4, ys, hk, rfl, rfl, hrow, hfr, hid⟩ := hrel
        have HR4 := Lib.hid hrow
        have HF4 := Lib.hid hfr
        have HID := Lib.hid hid
        have hwx : w.heap.size ≤ wr.heap.size := hfr.size
        have hbx : base ≤ wr.heap.size := by omega
        obtain ⟨m, hm⟩ : ∃ m, m = i + k := ⟨_, rfl⟩
        rw [← hm] at hrow hid HR4 HID ⊢
        have HMK := Lib.hid hm
        clear hrow hfr hid hm
        by_cases hkn : k < 20
        · have hki : (k : Int) < 20 := by omega
          have hm24 : m + 1 ≤ i + 20 := by have := HMK.out; omega
          go_wp2_with (first
            | (at_builtin
               refine wpList_push2 rfl (.tmp 33) (.tmp 35) 25 rfl base 24 i0 _ 3 24 Try.underlying25 fi fz0 fz1 fz2 rfl (by decide) _ m ys rfl HR4.out #[.int .u8 98, .int .u64 0, .int .u64 0] rfl rfl ?_ ?_ ?_ ?_ ?_))
          · exact ⟨rfl, rfl⟩
          · unfold maxLen; omega
          · omega
          · exact hbx
          intro A5 c5 w5 hown5 hp5 hid5
          have HF5 := Lib.hid (HF4.out.next (pushed_frame hp5) fun g hg hs => by
            rcases HID.out g hs with h | h
            · exact h
            · omega)
          have HI5 := Lib.hid (show ∀ g, (Value.slice A5 (m + 1) c5).ownBlock = some g → Own1 A1 g ∨ w.heap.size ≤ g from fun g hg => by
            rcases hid5 g hg with h | h
            · exact HID.out g h
            · exact .inr (by omega))
          have HO5 := Lib.hid hown5
          clear hown5 hp5 hid5
          go_wp2_with fail
          have hmk := HMK.out
          subst hmk
          exact ⟨⟨k + 1, A5, c5, _, by omega, by go_num, by rw [Nat.add_assoc], HO5.out, HF5.out, HI5.out⟩, by simp [intOf]; omega⟩
        · obtain rfl : k = 20 := by omega
          have hm20 : 20 ≤ m := by have := HMK.out; omega
          have hmi : (20 : Int) ≤ (m : Int) := by omega
          have hsame := samec_any X i HN.out (by unfold maxLen; omega) A2 A3 c2 c3 wr wr.heap.size (Nat.le_refl _) (own_seg (own_frame H2.out HF4.out fun g hg hs => HE2.out g hs (own1_val.1 hg))) (own_seg (own_frame H3.out HF4.out fun g hg hs => HE3.out g hs (own1_val.1 hg)))
          have HSM := Lib.hid hsame
          clear hsame
          go_wp2_with (go_at_call 17
                       refine HSM.out.mono ?_
                       rintro e w6 ⟨rfl, hb6⟩
                       have HB6 := Lib.hid (HF4.out.below hb6)
                       clear hb6)
          go_ret
          exact ⟨rfl, HB6.out⟩
end Go.Proofs.Ytdnncpikndgabaa
