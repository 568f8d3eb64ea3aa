/- The walk of ClocksMove: both nets through the first 25 moves. -/
import Derived.Test.YtbahclnpgdejlaaMoved
import Derived.Test.YtbahclnpgdejlaaRest
set_option linter.unusedVariables false
namespace Go.Proofs.Ytbahclnpgdejlaa
open Go.RowKit
structure Mv where
  k : Int
  i : Int
  f : Int
  w : Int
def Mv.cells (x : Mv) : List Value := [.int .i64 x.k, .int .i64 x.i, .int .i64 x.f, .int .i64 x.w]
def mvCells (l : List Mv) : List Value := l.flatMap Mv.cells
theorem Seg.mv {w : World} {B : Nat} {a : Option Addr} {l : List Mv} (h : Seg w B a (mvCells l)) {k : Nat} (hk : k < l.length) :
    ∃ b off, a = some ⟨b, off, none⟩ ∧ b < B ∧ w.cell? ⟨b, off + k * 4, none⟩ = some (.int .i64 l[k].k) ∧ w.cell? ⟨b, off + k * 4 + 1, none⟩ = some (.int .i64 l[k].i) ∧ w.cell? ⟨b, off + k * 4 + 2, none⟩ = some (.int .i64 l[k].f) ∧ w.cell? ⟨b, off + k * 4 + 3, none⟩ = some (.int .i64 l[k].w) := by
  obtain ⟨b, off, e, hb, hc⟩ := Seg.thing (f := Mv.cells) (m := 4) (fun _ => rfl) (by omega) h hk
  exact ⟨b, off, e, hb, hc 0 _ rfl, hc 1 _ rfl, hc 2 _ rfl, hc 3 _ rfl⟩
section
variable {w w' : World} {B nb n gu gh gr : Nat} {Ac Ar Au Ah : Option Addr} {cc cr cu ch rb : Nat} {Al Ru : Option Addr} {cl ru : Nat} {s : St} {l : List Clk} {us : List Int}
theorem Vec.low {A : Option Addr} {e : TypeId} {xs : List Value} (h : Vec w B A e xs) (hf : Frame (fun j => j < B) w w') : Vec w' B A e xs := fun hx => by
  obtain ⟨g, hA, hb, hr⟩ := h hx
  exact ⟨g, hA, hb, hr.frame hf (by omega)⟩
theorem NetAt.low_ (h : NetAt w B nb n Ac Ar Au Ah cc cr cu ch s) (hf : Frame (fun j => j < B) w w') : NetAt w' B nb n Ac Ar Au Ah cc cr cu ch s :=
  ⟨h.low, h.len, h.lenr, h.lenu, h.lenh, (hf.heap h.lt (by have := h.low; omega)).trans h.box, h.vc.low hf, h.vr.low hf, h.vu.low hf, h.vh.low hf, h.ne⟩
theorem RNet.low_ (h : RNet w B rb n Al Ru cl ru l us) (hf : Frame (fun j => j < B) w w') : RNet w' B rb n Al Ru cl ru l us :=
  ⟨h.low, h.len, h.lenu, (hf.heap h.lt (by have := h.low; omega)).trans h.box, h.vl.low hf, h.vu.low hf⟩
theorem RNet.mono {B' : Nat} (h : RNet w B rb n Al Ru cl ru l us) (hB : B' ≤ B) : RNet w B' rb n Al Ru cl ru l us :=
  ⟨Nat.le_trans hB h.low, h.len, h.lenu, h.box, h.vl.mono hB, h.vu.mono hB⟩
theorem Both.low_ (h : Both w B nb n Ac Ar Au Ah cc cr cu ch rb Al Ru cl ru s) (hf : Frame (fun j => j < B) w w') : Both w' B nb n Ac Ar Au Ah cc cr cu ch rb Al Ru cl ru s :=
  ⟨h.net.low_ hf, h.rnet.low_ hf, h.inv, h.bal, h.pos, h.us0, h.us1⟩
end
theorem zeros_at (n j : Nat) : (zeros n).getD j 0 = 0 := by
  unfold zeros
  simp only [List.getD, List.getElem?_replicate]
  split <;> rfl
theorem bal_zero (l : List Clk) (n : Nat) : Bal l (fun j => (zeros n).getD j 0) (zeros n) := by
  intro i hi
  have hk : ∀ m, kids l (zeros n) i m = 0 := by
    intro m
    induction m with
    | zero => rfl
    | succ m ih =>
      unfold kids
      rw [ih, zeros_at, onI_neg (by omega)]
      simp
  rw [hk, zeros_at]
  simp only [zeros_at]
  rfl
/-- Both nets as they are made. -/
theorem both_new {w2 w3 : World} {B nb n : Nat} {l : List Clk} {rb : Nat} {Al Ru : Option Addr} {cl ru : Nat} (h : IsNet w2 B nb ⟨l, ratesOf l, zeros n, zeros n⟩) (hn : n = l.length) (hB : B ≤ w2.heap.size) (hb : Below w2.heap.size w2 w3) (hr : RNet w3 w2.heap.size rb n Al Ru cl ru l (zeros n)) (hm : mayB l = true) (hf : ∀ j, j < n → fitsAt l j = true) :
    ∃ Ac Ar Au Ah cc cr cu ch gu gh gr, Both w3 B nb n Ac Ar Au Ah cc cr cu ch rb Al Ru cl ru ⟨l, ratesOf l, zeros n, zeros n⟩ ∧ Apart n gu gh gr Au Ah Ru := by
  obtain ⟨n', Ac, Ar, Au, Ah, cc, cr, cu, ch, hnet⟩ := h
  obtain rfl : n' = n := by have := hnet.lenu; simpa [zeros_len] using this
  have hb3 : Both w3 B nb n' Ac Ar Au Ah cc cr cu ch rb Al Ru cl ru ⟨l, ratesOf l, zeros n', zeros n'⟩ :=
    ⟨hnet.below hb, hr.mono hB, ⟨hm, fun j hj => hf j (by simp only at hj; omega), rfl⟩, bal_zero l n', fun j => by simp only [zeros_at]; omega, fun j => by simp only [zeros_at]; omega, fun j => by simp only [zeros_at]; omega⟩
  rcases Nat.eq_zero_or_pos n' with h0 | h0
  · exact ⟨Ac, Ar, Au, Ah, cc, cr, cu, ch, 0, 0, 0, hb3, ⟨fun h => by omega, fun h => by omega, fun h => by omega, fun h => by omega, fun h => by omega⟩⟩
  · obtain ⟨gu, e1, _, r1⟩ := hnet.row_u h0
    obtain ⟨gh, e2, _, r2⟩ := hnet.row_h h0
    obtain ⟨gr, e3, b3, r3⟩ := hr.row_u h0
    have := r1.lt
    have := r2.lt
    exact ⟨Ac, Ar, Au, Ah, cc, cr, cu, ch, gu, gh, gr, hb3, ⟨fun _ => e1, fun _ => e2, fun _ => e3, fun _ => by omega, fun _ => by omega⟩⟩
section
variable {w w' : World} {B nb n gu gh gr : Nat} {Ac Ar Au Ah : Option Addr} {cc cr cu ch rb : Nat} {Al Ru : Option Addr} {cl ru : Nat} {s : St} {l : List Clk} {us : List Int}
theorem moved_any (h : Both w B nb n Ac Ar Au Ah cc cr cu ch rb Al Ru cl ru s) (ap : Apart n gu gh gr Au Ah Ru) (hBw : B ≤ w.heap.size) (K I F W : Int) :
    Calls Try.prog 18 #[.pointer (some ⟨nb, 0, none⟩), .pointer (some ⟨rb, 0, none⟩), .agg #[.int .i64 K, .int .i64 I, .int .i64 F, .int .i64 W]] w (MovedTo w B nb n gu gh gr Au Ah cu ch rb Ru ru) := by
  by_cases k0 : K = 0
  · subst k0; exact moved_0 h ap hBw I F W
  by_cases k1 : K = 1
  · subst k1; exact moved_1 h ap hBw I F W
  by_cases k2 : K = 2
  · subst k2; exact moved_2 h ap hBw I F W
  by_cases k3 : K = 3
  · subst k3; exact moved_3 h ap hBw I F W
  exact moved_4 h ap hBw K I F W (by simp [k0, k1, k2, k3])
theorem both_ge (h : Both w B nb n Ac Ar Au Ah cc cr cu ch rb Al Ru cl ru s) (ap : Apart n gu gh gr Au Ah Ru) (j : Nat) (hj : SB nb rb n gu gh gr j) : B ≤ j := by
  rcases hj with (rfl | ⟨h0, rfl | rfl⟩) | (rfl | ⟨h0, rfl⟩)
  · exact h.net.low
  · obtain ⟨g', e', hb, _⟩ := h.net.row_u h0
    rw [ap.au h0] at e'
    injection e' with e'
    injection e' with e'
    rw [e']; exact hb
  · obtain ⟨g', e', hb, _⟩ := h.net.row_h h0
    rw [ap.ah h0] at e'
    injection e' with e'
    injection e' with e'
    rw [e']; exact hb
  · exact h.rnet.low
  · obtain ⟨g', e', hb, _⟩ := h.rnet.row_u h0
    rw [ap.ru h0] at e'
    injection e' with e'
    injection e' with e'
    rw [e']; exact hb
end
set_option maxRecDepth 100000 in
set_option maxHeartbeats 4000000 in
theorem move_no (A A1 : Option Addr) (cap cap1 n m : Nat) (l : List Clk) (z : List Mv) (hn : n = l.length) (hm : m = z.length) (w : World) (hs : Seg w w.heap.size A (clkCells l)) (hs1 : Seg w w.heap.size A1 (mvCells z)) (hl : n ≤ 2513169434843)
    (hmay : mayB l = false) :
    Calls Try.prog 5 #[.slice A n cap, .slice A1 m cap1] w fun e w' => e = .returned (.bool true) ∧ Below w.heap.size w w' := by
  have hown := own_any A cap l n hn w w.heap.size (Nat.le_refl _) hs hl
  have HN := Lib.hid hn
  have HO := Lib.hid hown
  have HS := Lib.hid hs
  have HM := Lib.hid hmay
  clear hn hown hs hs1 hmay hm
  go_enter Try.func5, Try.ntmps5
  go_upto_region 4 with (first
    | (go_at_call 11; refine HO.out.mono ?_; rintro e w1 ⟨A', c', rfl, hrow, hb⟩; have hB := Lib.hid hb; have hR := Lib.hid hrow; clear hb hrow)
    | (go_at_call 7; refine (new_no A' c' l n HN.out w1 w1.heap.size (Nat.le_refl _) (own_front hR.out) (by omega) HM.out).mono ?_; rintro e w2 ⟨rfl, hb2⟩; have hB2 := Lib.hid hb2; clear hb2)
    | (go_at_call 16; refine (rnew_no A cap l n HN.out w2 w.heap.size (Nat.le_trans hB.out.size hB2.out.size) (HS.out.below (hB.out.trans (hB2.out.mono hB.out.size))) (by omega) HM.out).mono ?_; rintro e w3 ⟨rfl, hb3⟩; have hB3 := Lib.hid hb3; clear hb3))
  obtain ⟨g, rfl, hg1, hg2, hrow⟩ := RowAt.of_own hR.out (by omega)
  have hcap : n + 1 ≤ c' := by
    rcases hR.out.2 with ⟨h, h'⟩ | ⟨g', cap, cur, hv, _, _, hk1, _⟩
    · omega
    · injection hv with _ _ hv; omega
  have hb23 := hB2.out.trans (hB3.out.mono hB2.out.size)
  have hrow3 := hrow.below hb23
  have hcl := hrow3.cell (k := n * 7) (by rw [List.length_append, clkCells, flat_length _ 7 clk_len, ← HN.out]; simp [Clk.cells])
  have hce : (clkCells l ++ Clk.cells mark)[n * 7]? = some (.int .i64 (-77)) := by
    rw [List.getElem?_append_right (by rw [clkCells, flat_length _ 7 clk_len, ← HN.out]; exact Nat.le_refl _), clkCells, flat_length _ 7 clk_len, ← HN.out, Nat.sub_self]
    rfl
  rw [hce] at hcl
  have hs3 : Seg w3 w.heap.size A (clkCells l) := HS.out.below (hB.out.trans (hb23.mono hB.out.size))
  have hx3 : Seg w3 w1.heap.size (some ⟨g, 0, none⟩) (clkCells l) := (own_front hR.out).below hb23
  have hw3 : w1.heap.size ≤ w3.heap.size := hb23.size
  have hw1 := hB.out.size
  have hsame := same_any l (some ⟨g, 0, none⟩) A c' cap n HN.out hl w3 w3.heap.size (Nat.le_refl _) (hx3.more hw3) (hs3.more (by omega))
  have HSA := Lib.hid hsame
  have HR3 := Lib.hid hrow3
  have HB23 := Lib.hid hb23
  have hg3 : g < w3.heap.size := by omega
  have hn1 : (n : Int) + 1 ≤ (c' : Int) := by omega
  have hnb : (n : Int) + 1 ≤ 9223372036854775807 := by omega
  clear hb23 hrow3 hs3 hx3 hsame hrow hce
  go_wp2_with (go_at_call 17; refine HSA.out.mono ?_; rintro e w4 ⟨rfl, hb4⟩; have k0 := (hb4.cell (p := ⟨g, n * 7, none⟩) hg3).trans hcl; have HB4 := Lib.hid hb4; clear hb4)
  clear hcl k0
  go_loopw [10] (fun i wr => ∃ k : Nat, k ≤ n ∧ i = .int .i64 k ∧ (∃ xs, xs.length = (n + 1) * 7 ∧ RowAt wr g 30 xs) ∧ Frame (fun j => j = g) w4 wr) (fun i _ => n - (intOf i).toNat)
  case atStart => exact ⟨0, by omega, rfl, ⟨clkCells l ++ Clk.cells mark, by rw [List.length_append, clkCells, flat_length _ 7 clk_len, ← HN.out]; simp [Clk.cells]; omega, HR3.out.below HB4.out⟩, Frame.refl _ _⟩
  case round =>
    obtain ⟨k, hk, rfl, ⟨xs, hxl, hrw⟩, hfr⟩ := hrel
    have HFR := Lib.hid hfr
    have HRW := Lib.hid hrw
    clear hfr hrw
    by_cases hlt : k < n
    · have hc : ∀ j, j < 7 → ∃ v, wr.cell? ⟨g, k * 7 + j, none⟩ = some v := fun j hj => by
        rw [HRW.out.cell (by omega), List.getElem?_eq_getElem (by omega)]
        exact ⟨_, rfl⟩
      obtain ⟨v0, c0⟩ := hc 0 (by omega)
      obtain ⟨v1, c1⟩ := hc 1 (by omega)
      obtain ⟨v2, c2⟩ := hc 2 (by omega)
      obtain ⟨v3, c3⟩ := hc 3 (by omega)
      obtain ⟨v4, c4⟩ := hc 4 (by omega)
      obtain ⟨v5, c5⟩ := hc 5 (by omega)
      obtain ⟨v6, c6⟩ := hc 6 (by omega)
      rw [Nat.add_zero] at c0
      have f0 := HRW.out.frozen (k * 7)
      have f1 := HRW.out.frozen (k * 7 + 1)
      have f2 := HRW.out.frozen (k * 7 + 2)
      have f3 := HRW.out.frozen (k * 7 + 3)
      have f4 := HRW.out.frozen (k * 7 + 4)
      have f5 := HRW.out.frozen (k * 7 + 5)
      have f6 := HRW.out.frozen (k * 7 + 6)
      have hki : (k : Int) < (n : Int) := by omega
      have HXL := Lib.hid hxl
      clear hc hxl
      go_wp2
      exact ⟨⟨k + 1, by omega, by go_num, ⟨_, by simp only [List.length_set]; exact HXL.out, ((((((HRW.out.store _ _).store _ _).store _ _).store _ _).store _ _).store _ _).store _ _⟩,
        ((((((HFR.out.setCell (p := ⟨g, k * 7, none⟩) (fun _ => rfl) _).setCell (p := ⟨g, k * 7 + 1, none⟩) (fun _ => rfl) _).setCell (p := ⟨g, k * 7 + 2, none⟩) (fun _ => rfl) _).setCell (p := ⟨g, k * 7 + 3, none⟩) (fun _ => rfl) _).setCell (p := ⟨g, k * 7 + 4, none⟩) (fun _ => rfl) _).setCell (p := ⟨g, k * 7 + 5, none⟩) (fun _ => rfl) _).setCell (p := ⟨g, k * 7 + 6, none⟩) (fun _ => rfl) _⟩, by simp [intOf]; omega⟩
    · obtain rfl : k = n := by omega
      have hbw : Below w.heap.size w wr := (((hB.out.trans (HB23.out.mono hw1)).trans (HB4.out.mono (Nat.le_trans hw1 hw3)))).trans (HFR.out.toBelow (B := w.heap.size) (by have := HB4.out.size; omega) (fun j hj e => by omega))
      have HBW := Lib.hid hbw
      clear hbw
      go_wp2_with fail
      go_loopw [11] (fun iv wx => iv = .int .i64 0 ∧ wr = wx) (fun _ _ => 0)
      case atStart => exact ⟨rfl, rfl⟩
      case round =>
        obtain ⟨rfl, rfl⟩ := hrel
        go_wp2_with (go_at_call 10; refine (awake_any _).mono ?_; rintro e w9 ⟨rfl, hb9⟩)
        go_ret
        exact ⟨rfl, HBW.out.trans (hb9.mono HBW.out.size)⟩
set_option maxRecDepth 100000 in
set_option maxHeartbeats 4000000 in
theorem move_out (A A1 : Option Addr) (cap cap1 n m : Nat) (l : List Clk) (z : List Mv) (hn : n = l.length) (hm : m = z.length) (w : World) (hs : Seg w w.heap.size A (clkCells l)) (hs1 : Seg w w.heap.size A1 (mvCells z)) (hl : n ≤ 2513169434843)
    (hmay : mayB l = true) (hf : ∃ j, j < n ∧ fitsAt l j = false) :
    Calls Try.prog 5 #[.slice A n cap, .slice A1 m cap1] w fun e w' => e = .returned (.bool true) ∧ Below w.heap.size w w' := by
  have hown := own_any A cap l n hn w w.heap.size (Nat.le_refl _) hs hl
  have HN := Lib.hid hn
  have HO := Lib.hid hown
  have HS := Lib.hid hs
  have HM := Lib.hid hmay
  have HF := Lib.hid hf
  clear hn hown hs hs1 hmay hm hf
  go_enter Try.func5, Try.ntmps5
  go_upto_region 4 with (first
    | (go_at_call 11; refine HO.out.mono ?_; rintro e w1 ⟨A', c', rfl, hrow, hb⟩; have hB := Lib.hid hb; have hR := Lib.hid hrow; clear hb hrow)
    | (go_at_call 7; refine (new_out A' c' l n HN.out w1 w1.heap.size (Nat.le_refl _) (own_front hR.out) (by omega) HM.out HF.out).mono ?_; rintro e w2 ⟨rfl, hb2⟩; have hB2 := Lib.hid hb2; clear hb2)
    | (go_at_call 16; refine (rnew_out A cap l n HN.out w2 w.heap.size (Nat.le_trans hB.out.size hB2.out.size) (HS.out.below (hB.out.trans (hB2.out.mono hB.out.size))) (by omega) HM.out HF.out).mono ?_; rintro e w3 ⟨rfl, hb3⟩; have hB3 := Lib.hid hb3; clear hb3))
  obtain ⟨g, rfl, hg1, hg2, hrow⟩ := RowAt.of_own hR.out (by omega)
  have hcap : n + 1 ≤ c' := by
    rcases hR.out.2 with ⟨h, h'⟩ | ⟨g', cap, cur, hv, _, _, hk1, _⟩
    · omega
    · injection hv with _ _ hv; omega
  have hb23 := hB2.out.trans (hB3.out.mono hB2.out.size)
  have hrow3 := hrow.below hb23
  have hcl := hrow3.cell (k := n * 7) (by rw [List.length_append, clkCells, flat_length _ 7 clk_len, ← HN.out]; simp [Clk.cells])
  have hce : (clkCells l ++ Clk.cells mark)[n * 7]? = some (.int .i64 (-77)) := by
    rw [List.getElem?_append_right (by rw [clkCells, flat_length _ 7 clk_len, ← HN.out]; exact Nat.le_refl _), clkCells, flat_length _ 7 clk_len, ← HN.out, Nat.sub_self]
    rfl
  rw [hce] at hcl
  have hs3 : Seg w3 w.heap.size A (clkCells l) := HS.out.below (hB.out.trans (hb23.mono hB.out.size))
  have hx3 : Seg w3 w1.heap.size (some ⟨g, 0, none⟩) (clkCells l) := (own_front hR.out).below hb23
  have hw3 : w1.heap.size ≤ w3.heap.size := hb23.size
  have hw1 := hB.out.size
  have hsame := same_any l (some ⟨g, 0, none⟩) A c' cap n HN.out hl w3 w3.heap.size (Nat.le_refl _) (hx3.more hw3) (hs3.more (by omega))
  have HSA := Lib.hid hsame
  have HR3 := Lib.hid hrow3
  have HB23 := Lib.hid hb23
  have hg3 : g < w3.heap.size := by omega
  have hn1 : (n : Int) + 1 ≤ (c' : Int) := by omega
  have hnb : (n : Int) + 1 ≤ 9223372036854775807 := by omega
  clear hb23 hrow3 hs3 hx3 hsame hrow hce
  go_wp2_with (go_at_call 17; refine HSA.out.mono ?_; rintro e w4 ⟨rfl, hb4⟩; have k0 := (hb4.cell (p := ⟨g, n * 7, none⟩) hg3).trans hcl; have HB4 := Lib.hid hb4; clear hb4)
  clear hcl k0
  go_loopw [10] (fun i wr => ∃ k : Nat, k ≤ n ∧ i = .int .i64 k ∧ (∃ xs, xs.length = (n + 1) * 7 ∧ RowAt wr g 30 xs) ∧ Frame (fun j => j = g) w4 wr) (fun i _ => n - (intOf i).toNat)
  case atStart => exact ⟨0, by omega, rfl, ⟨clkCells l ++ Clk.cells mark, by rw [List.length_append, clkCells, flat_length _ 7 clk_len, ← HN.out]; simp [Clk.cells]; omega, HR3.out.below HB4.out⟩, Frame.refl _ _⟩
  case round =>
    obtain ⟨k, hk, rfl, ⟨xs, hxl, hrw⟩, hfr⟩ := hrel
    have HFR := Lib.hid hfr
    have HRW := Lib.hid hrw
    clear hfr hrw
    by_cases hlt : k < n
    · have hc : ∀ j, j < 7 → ∃ v, wr.cell? ⟨g, k * 7 + j, none⟩ = some v := fun j hj => by
        rw [HRW.out.cell (by omega), List.getElem?_eq_getElem (by omega)]
        exact ⟨_, rfl⟩
      obtain ⟨v0, c0⟩ := hc 0 (by omega)
      obtain ⟨v1, c1⟩ := hc 1 (by omega)
      obtain ⟨v2, c2⟩ := hc 2 (by omega)
      obtain ⟨v3, c3⟩ := hc 3 (by omega)
      obtain ⟨v4, c4⟩ := hc 4 (by omega)
      obtain ⟨v5, c5⟩ := hc 5 (by omega)
      obtain ⟨v6, c6⟩ := hc 6 (by omega)
      rw [Nat.add_zero] at c0
      have f0 := HRW.out.frozen (k * 7)
      have f1 := HRW.out.frozen (k * 7 + 1)
      have f2 := HRW.out.frozen (k * 7 + 2)
      have f3 := HRW.out.frozen (k * 7 + 3)
      have f4 := HRW.out.frozen (k * 7 + 4)
      have f5 := HRW.out.frozen (k * 7 + 5)
      have f6 := HRW.out.frozen (k * 7 + 6)
      have hki : (k : Int) < (n : Int) := by omega
      have HXL := Lib.hid hxl
      clear hc hxl
      go_wp2
      exact ⟨⟨k + 1, by omega, by go_num, ⟨_, by simp only [List.length_set]; exact HXL.out, ((((((HRW.out.store _ _).store _ _).store _ _).store _ _).store _ _).store _ _).store _ _⟩,
        ((((((HFR.out.setCell (p := ⟨g, k * 7, none⟩) (fun _ => rfl) _).setCell (p := ⟨g, k * 7 + 1, none⟩) (fun _ => rfl) _).setCell (p := ⟨g, k * 7 + 2, none⟩) (fun _ => rfl) _).setCell (p := ⟨g, k * 7 + 3, none⟩) (fun _ => rfl) _).setCell (p := ⟨g, k * 7 + 4, none⟩) (fun _ => rfl) _).setCell (p := ⟨g, k * 7 + 5, none⟩) (fun _ => rfl) _).setCell (p := ⟨g, k * 7 + 6, none⟩) (fun _ => rfl) _⟩, by simp [intOf]; omega⟩
    · obtain rfl : k = n := by omega
      have hbw : Below w.heap.size w wr := (((hB.out.trans (HB23.out.mono hw1)).trans (HB4.out.mono (Nat.le_trans hw1 hw3)))).trans (HFR.out.toBelow (B := w.heap.size) (by have := HB4.out.size; omega) (fun j hj e => by omega))
      have HBW := Lib.hid hbw
      clear hbw
      go_wp2_with fail
      go_loopw [11] (fun iv wx => iv = .int .i64 0 ∧ wr = wx) (fun _ _ => 0)
      case atStart => exact ⟨rfl, rfl⟩
      case round =>
        obtain ⟨rfl, rfl⟩ := hrel
        go_wp2_with (go_at_call 10; refine (awake_any _).mono ?_; rintro e w9 ⟨rfl, hb9⟩)
        go_ret
        exact ⟨rfl, HBW.out.trans (hb9.mono HBW.out.size)⟩
set_option maxRecDepth 100000 in
set_option maxHeartbeats 4000000 in
theorem move_ok (A A1 : Option Addr) (cap cap1 n m : Nat) (l : List Clk) (z : List Mv) (hn : n = l.length) (hm : m = z.length) (w : World) (hs : Seg w w.heap.size A (clkCells l)) (hs1 : Seg w w.heap.size A1 (mvCells z)) (hl : n ≤ 2513169434843)
    (hmay : mayB l = true) (hf : ∀ j, j < n → fitsAt l j = true) :
    Calls Try.prog 5 #[.slice A n cap, .slice A1 m cap1] w fun e w' => e = .returned (.bool true) ∧ Below w.heap.size w w' := by
  have hown := own_any A cap l n hn w w.heap.size (Nat.le_refl _) hs hl
  have HN := Lib.hid hn
  have HO := Lib.hid hown
  have HS := Lib.hid hs
  have HM := Lib.hid hmay
  have HF := Lib.hid hf
  have HS1 := Lib.hid hs1
  have HMZ := Lib.hid hm
  clear hn hown hs hs1 hmay hm hf
  go_enter Try.func5, Try.ntmps5
  go_upto_region 4 with (first
    | (go_at_call 11; refine HO.out.mono ?_; rintro e w1 ⟨A', c', rfl, hrow, hb⟩; have hB := Lib.hid hb; have hR := Lib.hid hrow; clear hb hrow)
    | (go_at_call 7; refine (new_ok A' c' l n HN.out w1 w1.heap.size (Nat.le_refl _) (own_front hR.out) (by omega) HM.out HF.out).mono ?_; rintro e w2 ⟨nb, rfl, hnet, hb2⟩; have hB2 := Lib.hid hb2; have HNET := Lib.hid hnet; clear hb2 hnet)
    | (go_at_call 16; refine (rnew_ok A cap l n HN.out w2 w.heap.size (Nat.le_trans hB.out.size hB2.out.size) (HS.out.below (hB.out.trans (hB2.out.mono hB.out.size))) (by omega) HM.out HF.out).mono ?_; rintro e w3 ⟨rb, Al, Ru, cl, ru, rfl, hrn, hb3⟩; have hB3 := Lib.hid hb3; have HRN := Lib.hid hrn; clear hb3 hrn))
  obtain ⟨g, rfl, hg1, hg2, hrow⟩ := RowAt.of_own hR.out (by omega)
  have hcap : n + 1 ≤ c' := by
    rcases hR.out.2 with ⟨h, h'⟩ | ⟨g', cap, cur, hv, _, _, hk1, _⟩
    · omega
    · injection hv with _ _ hv; omega
  have hb23 := hB2.out.trans (hB3.out.mono hB2.out.size)
  have hrow3 := hrow.below hb23
  have hcl := hrow3.cell (k := n * 7) (by rw [List.length_append, clkCells, flat_length _ 7 clk_len, ← HN.out]; simp [Clk.cells])
  have hce : (clkCells l ++ Clk.cells mark)[n * 7]? = some (.int .i64 (-77)) := by
    rw [List.getElem?_append_right (by rw [clkCells, flat_length _ 7 clk_len, ← HN.out]; exact Nat.le_refl _), clkCells, flat_length _ 7 clk_len, ← HN.out, Nat.sub_self]
    rfl
  rw [hce] at hcl
  have hs3 : Seg w3 w.heap.size A (clkCells l) := HS.out.below (hB.out.trans (hb23.mono hB.out.size))
  have hx3 : Seg w3 w1.heap.size (some ⟨g, 0, none⟩) (clkCells l) := (own_front hR.out).below hb23
  have hw3 : w1.heap.size ≤ w3.heap.size := hb23.size
  have hw1 := hB.out.size
  have hsame := same_any l (some ⟨g, 0, none⟩) A c' cap n HN.out hl w3 w3.heap.size (Nat.le_refl _) (hx3.more hw3) (hs3.more (by omega))
  have HSA := Lib.hid hsame
  have HR3 := Lib.hid hrow3
  have HB23 := Lib.hid hb23
  have hg3 : g < w3.heap.size := by omega
  have hn1 : (n : Int) + 1 ≤ (c' : Int) := by omega
  have hnb : (n : Int) + 1 ≤ 9223372036854775807 := by omega
  clear hb23 hrow3 hs3 hx3 hsame hrow hce
  obtain ⟨Ac, Ar, Au, Ah, cc, cr, cu, ch, gu, gh, gr, hboth, hap⟩ := both_new HNET.out HN.out hB2.out.size hB3.out HRN.out HM.out HF.out
  have HBO := Lib.hid hboth
  have HAP := Lib.hid hap
  clear hboth hap HNET HRN
  go_wp2_with (go_at_call 17; refine HSA.out.mono ?_; rintro e w4 ⟨rfl, hb4⟩; have k0 := (hb4.cell (p := ⟨g, n * 7, none⟩) hg3).trans hcl; have HB4 := Lib.hid hb4; clear hb4)
  clear hcl k0
  go_loopw [10] (fun i wr => ∃ k : Nat, k ≤ n ∧ i = .int .i64 k ∧ (∃ xs, xs.length = (n + 1) * 7 ∧ RowAt wr g 30 xs) ∧ Frame (fun j => j = g) w4 wr) (fun i _ => n - (intOf i).toNat)
  case atStart => exact ⟨0, by omega, rfl, ⟨clkCells l ++ Clk.cells mark, by rw [List.length_append, clkCells, flat_length _ 7 clk_len, ← HN.out]; simp [Clk.cells]; omega, HR3.out.below HB4.out⟩, Frame.refl _ _⟩
  case round =>
    obtain ⟨k, hk, rfl, ⟨xs, hxl, hrw⟩, hfr⟩ := hrel
    have HFR := Lib.hid hfr
    have HRW := Lib.hid hrw
    clear hfr hrw
    by_cases hlt : k < n
    · have hc : ∀ j, j < 7 → ∃ v, wr.cell? ⟨g, k * 7 + j, none⟩ = some v := fun j hj => by
        rw [HRW.out.cell (by omega), List.getElem?_eq_getElem (by omega)]
        exact ⟨_, rfl⟩
      obtain ⟨v0, c0⟩ := hc 0 (by omega)
      obtain ⟨v1, c1⟩ := hc 1 (by omega)
      obtain ⟨v2, c2⟩ := hc 2 (by omega)
      obtain ⟨v3, c3⟩ := hc 3 (by omega)
      obtain ⟨v4, c4⟩ := hc 4 (by omega)
      obtain ⟨v5, c5⟩ := hc 5 (by omega)
      obtain ⟨v6, c6⟩ := hc 6 (by omega)
      rw [Nat.add_zero] at c0
      have f0 := HRW.out.frozen (k * 7)
      have f1 := HRW.out.frozen (k * 7 + 1)
      have f2 := HRW.out.frozen (k * 7 + 2)
      have f3 := HRW.out.frozen (k * 7 + 3)
      have f4 := HRW.out.frozen (k * 7 + 4)
      have f5 := HRW.out.frozen (k * 7 + 5)
      have f6 := HRW.out.frozen (k * 7 + 6)
      have hki : (k : Int) < (n : Int) := by omega
      have HXL := Lib.hid hxl
      clear hc hxl
      go_wp2
      exact ⟨⟨k + 1, by omega, by go_num, ⟨_, by simp only [List.length_set]; exact HXL.out, ((((((HRW.out.store _ _).store _ _).store _ _).store _ _).store _ _).store _ _).store _ _⟩,
        ((((((HFR.out.setCell (p := ⟨g, k * 7, none⟩) (fun _ => rfl) _).setCell (p := ⟨g, k * 7 + 1, none⟩) (fun _ => rfl) _).setCell (p := ⟨g, k * 7 + 2, none⟩) (fun _ => rfl) _).setCell (p := ⟨g, k * 7 + 3, none⟩) (fun _ => rfl) _).setCell (p := ⟨g, k * 7 + 4, none⟩) (fun _ => rfl) _).setCell (p := ⟨g, k * 7 + 5, none⟩) (fun _ => rfl) _).setCell (p := ⟨g, k * 7 + 6, none⟩) (fun _ => rfl) _⟩, by simp [intOf]; omega⟩
    · obtain rfl : k = n := by omega
      have hbw : Below w.heap.size w wr := (((hB.out.trans (HB23.out.mono hw1)).trans (HB4.out.mono (Nat.le_trans hw1 hw3)))).trans (HFR.out.toBelow (B := w.heap.size) (by have := HB4.out.size; omega) (fun j hj e => by omega))
      have HBW := Lib.hid hbw
      clear hbw
      have hbo := ((HBO.out.below HB4.out)).low_ (HFR.out.mono (S' := fun j => j < w1.heap.size) (fun j _ e => by subst e; exact hg2))
      have hw1r : w1.heap.size ≤ wr.heap.size := by have := HB4.out.size; have := HFR.out.size; omega
      have HBO2 := Lib.hid hbo
      clear hbo
      go_wp2_with fail
      go_loopw [11] (fun iv wx => ∃ j : Nat, j ≤ m ∧ j ≤ 25 ∧ iv = .int .i64 j ∧ (∃ Ac Ar cc cr Al cl s, Both wx w1.heap.size nb k Ac Ar Au Ah cc cr cu ch rb Al Ru cl ru s) ∧ Below w.heap.size w wx ∧ w1.heap.size ≤ wx.heap.size) (fun iv _ => 25 - (intOf iv).toNat)
      case atStart => exact ⟨0, by omega, by omega, rfl, ⟨_, _, _, _, _, _, _, HBO2.out⟩, HBW.out, hw1r⟩
      case round =>
        obtain ⟨j, hj1, hj2, rfl, ⟨Ac2, Ar2, cc2, cr2, Al2, cl2, s2, hbo⟩, hbx, hsx⟩ := hrel
        have HBX := Lib.hid hbx
        have hlook := fun w5 (hb : Below wr.heap.size wr w5) => looks_any (hbo.below hb)
        have hge := both_ge hbo HAP.out
        have hmv := fun K I F W => moved_any hbo HAP.out hsx K I F W
        have HLK := Lib.hid hlook
        have HGE := Lib.hid hge
        have HMV := Lib.hid hmv
        clear hbx hbo hlook hge hmv HBO2 hxl hlt hn1 hnb hcap HRW HFR HR3 hk
        by_cases hlt : j < m ∧ j < 25
        · obtain ⟨lt1, lt2⟩ := hlt
          have hjz : j < z.length := by rw [← HMZ.out]; exact lt1
          obtain ⟨b1, off1, rfl, hbb1, y1, y2, y3, y4⟩ := (HS1.out.below HBX.out).mv hjz
          generalize z[j].k = K at *
          generalize z[j].i = I at *
          generalize z[j].f = F at *
          generalize z[j].w = W at *
          have hji : (j : Int) < (m : Int) := by omega
          go_wp2_with (first
            | (go_at_call 18
               refine (HMV.out K I F W).mono ?_
               rintro e w5 ⟨rfl, ⟨Ac3, Ar3, cc3, cr3, Al3, cl3, s3, hbo3⟩, hf5⟩
               have hb5 : Below w.heap.size wr w5 := hf5.toBelow (B := w.heap.size) (Nat.le_trans hw1 hsx) (fun i hi hx => by have := HGE.out i hx; omega)
               have HB5 := Lib.hid hb5
               have hl5 := looks_any hbo3
               have HL5 := Lib.hid hl5
               have HBO3 := Lib.hid hbo3
               have hs5 := hf5.size
               clear hb5 hl5 hbo3 hf5)
            | (go_at_call 19
               refine HL5.out.mono ?_
               rintro e w6 ⟨rfl, hb6⟩
               have HB6 := Lib.hid hb6
               clear hb6))
          go_roundw
          case rel => exact ⟨j + 1, by omega, by omega, by go_num, ⟨_, _, _, _, _, _, _, HBO3.out.below HB6.out⟩, (HBX.out.trans HB5.out).trans (HB6.out.mono (by omega)), by have := HB6.out.size; omega⟩
          case measure => simp [intOf]; omega
        · clear HMV
          rcases (show m ≤ j ∨ (j < m ∧ 25 ≤ j) by omega) with hx | ⟨hx, hx2⟩
          all_goals
            go_wp2_with (first
              | (go_at_call 19
                 refine (HLK.out _ (Below.refl _ _)).mono ?_
                 rintro e w6 ⟨rfl, hb6⟩
                 have HB6 := Lib.hid hb6
                 clear hb6)
              | (go_at_call 10; refine (awake_any _).mono ?_; rintro e w9 ⟨rfl, hb9⟩))
            go_ret
            have e1 := HBX.out.size
            have e2 := HB6.out.size
            exact ⟨rfl, (HBX.out.trans (HB6.out.mono e1)).trans (hb9.mono (by omega))⟩
theorem clocksMove_walk (A A1 : Option Addr) (cap cap1 n m : Nat) (l : List Clk) (z : List Mv) (hn : n = l.length) (hm : m = z.length) (w : World) (hs : Seg w w.heap.size A (clkCells l)) (hs1 : Seg w w.heap.size A1 (mvCells z)) (hl : n ≤ 2513169434843) :
    Calls Try.prog 5 #[.slice A n cap, .slice A1 m cap1] w fun e w' => e = .returned (.bool true) ∧ Below w.heap.size w w' := by
  rcases hmay : mayB l with _ | _
  · exact move_no A A1 cap cap1 n m l z hn hm w hs hs1 hl hmay
  · rcases fit_or l n with hf | hf
    · exact move_ok A A1 cap cap1 n m l z hn hm w hs hs1 hl hmay hf
    · exact move_out A A1 cap cap1 n m l z hn hm w hs hs1 hl hmay hf
end Go.Proofs.Ytbahclnpgdejlaa
