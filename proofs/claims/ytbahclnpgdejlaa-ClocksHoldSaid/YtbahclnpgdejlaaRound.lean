/- The contract of Round. -/
import Derived.Test.YtbahclnpgdejlaaRead
import Derived.Deep.DeepCutAuto
set_option linter.unusedVariables false
namespace Go.Proofs.Ytbahclnpgdejlaa
open Go.RowKit
/-- What a net keeps: its clocks may be, its rates are theirs. -/
structure Inv (s : St) : Prop where
  may : mayB s.l = true
  fit : ∀ j, j < s.l.length → fitsAt s.l j = true
  rates : s.rs = ratesOf s.l
theorem Inv.good {s : St} (h : Inv s) : Good s.l := fun j hj => (mayB_iff.1 h.may).2 j hj
theorem Inv.base {s : St} (h : Inv s) {k : Nat} (hk : k < s.l.length) : baseOf s.rs s.l[k] = baseOf (ratesOf (s.l.take k)) s.l[k] := by
  rw [h.rates]
  unfold baseOf
  split
  · rfl
  · have o := (h.good.at_ hk).src
    rw [ratesOf_same s.l k _ (by omega) (by omega)]
theorem Inv.base_bd {s : St} (h : Inv s) {k : Nat} (hk : k < s.l.length) : 0 ≤ baseOf s.rs s.l[k] ∧ baseOf s.rs s.l[k] ≤ 1099511627776 := by
  rw [h.base hk]
  exact _root_.Go.Proofs.Ytbahclnpgdejlaa.base_bd h.good hk (fun j hj => h.fit j (by omega))
theorem base_st {w : World} {B nb n : Nat} {Ac Ar Au Ah : Option Addr} {cc cr cu ch : Nat} {s : St} (h : NetAt w B nb n Ac Ar Au Ah cc cr cu ch s) (hi : Inv s) {k : Nat} (hk : k < s.l.length) (w2 : World) (hw : Below w.heap.size w w2) :
    Calls Try.prog 26 #[.slice Ac n cc, .slice Ar n cr, .int .i64 k] w2 fun e w' => e = .returned (.int .i64 (baseOf s.rs s.l[k])) ∧ w' = w2 := by
  have hs : Seg w2 w.heap.size Ac (clkCells s.l) := h.vc.seg.below hw
  have hr : Seg w2 w.heap.size Ar (i64s s.rs) := h.vr.seg.below hw
  refine turn_same ?_
  rcases (hi.good.at_ hk).src with ⟨h1, _, _⟩ | ⟨h1, h2, _⟩
  · have e : baseOf s.rs s.l[k] = s.l[k].rate := by unfold baseOf; rw [if_pos (by omega)]
    rw [e]
    exact base_own _ _ _ _ _ _ s.l h.len k hk w2 _ hs (by omega)
  · have e : baseOf s.rs s.l[k] = s.rs.getD s.l[k].frm.toNat 0 := by unfold baseOf; rw [if_neg (by omega)]
    have hl := h.len
    have hlr := h.lenr
    have := base_from Ac Ar n n cc cr s.l s.rs h.len k s.l[k].frm.toNat hk (by omega) (by omega) (by omega) w2 _ _ hs hr
    rw [e]
    simpa [List.getD, show s.l[k].frm.toNat < s.rs.length by omega] using this
def dist (a b : Int) : Int := max a b - min a b
def roundOf (all want : Int) : Int × Int :=
  let below := leastOf all want
  if 1 < below then
    let up := all / (below - 1)
    if dist up want ≤ dist (all / below) want then (leastOf all up, up) else (below, all / below)
  else (below, all / below)
theorem least_bd (all r : Int) (h1 : 0 ≤ all) (h2 : 0 ≤ r) : 1 ≤ leastOf all r ∧ leastOf all r ≤ 65535 := by
  have d1 : 0 ≤ all / (r + 1) := Int.ediv_nonneg h1 (by omega)
  unfold leastOf
  omega
theorem up_gt (all r : Int) (h1 : 0 ≤ all) (h2 : 0 ≤ r) : 1 < leastOf all r → r < all / (leastOf all r - 1) := by
  intro h
  have d1 : 0 ≤ all / (r + 1) := Int.ediv_nonneg h1 (by omega)
  have h3 : leastOf all r - 1 ≤ all / (r + 1) := by unfold leastOf; omega
  have h4 : (leastOf all r - 1) * (r + 1) ≤ all / (r + 1) * (r + 1) := Int.mul_le_mul_of_nonneg_right h3 (by omega)
  have h5 : all / (r + 1) * (r + 1) ≤ all := Int.ediv_mul_le _ (by omega)
  have h6 : r + 1 ≤ all / (leastOf all r - 1) := Int.le_ediv_of_mul_le (by omega) (by rw [Int.mul_comm]; omega)
  omega
set_option maxRecDepth 100000 in
set_option maxHeartbeats 4000000 in
theorem round_ok {w : World} {B nb n : Nat} {Ac Ar Au Ah : Option Addr} {cc cr cu ch : Nat} {s : St} (h : NetAt w B nb n Ac Ar Au Ah cc cr cu ch s) (hi : Inv s) {k : Nat} (hk : k < s.l.length) (want : Int) (h1 : 0 ≤ want) (h2 : want ≤ 1099511627776) :
    Calls Try.prog 8 #[.pointer (some ⟨nb, 0, none⟩), .int .i64 k, .int .i64 want] w fun e w' =>
      e = .returned (.tuple #[.int .i64 (roundOf (baseOf s.rs s.l[k] * s.l[k].mul) want).1, .int .i64 (roundOf (baseOf s.rs s.l[k] * s.l[k].mul) want).2, .int .i64 0]) ∧ Below w.heap.size w w' := by
  have c0 := h.c0
  have c1 := h.c1
  have hlen := h.len
  have hki : (k : Int) < (n : Int) := by omega
  obtain ⟨b1, b2⟩ := hi.base_bd hk
  have o := hi.good.at_ hk
  obtain ⟨p1, p2, p3, p4⟩ := prod_bd b1 b2 o.m1 o.m2 (D := 1) (by omega)
  clear p3 p4
  have hb := fun w2 hw => base_st h hi hk w2 hw
  obtain ⟨v, hv⟩ : ∃ v, v = baseOf s.rs s.l[k] := ⟨_, rfl⟩
  obtain ⟨M, hM⟩ : ∃ M, M = s.l[k].mul := ⟨_, rfl⟩
  obtain ⟨b, off, hA, hbb, g0, g1, hm, g2⟩ := h.vc.seg.clk hk
  rw [← hM] at hm p1 p2 ⊢
  rw [← hv] at b1 b2 p1 p2 ⊢
  simp only [← hv] at hb
  have HB := Lib.hid hb
  clear g0 g1 g2
  rw [hA] at c0
  subst hA
  have hkeep : ∀ X, Below w.heap.size w X → Below w.heap.size w X ∧ X.cell? ⟨nb, 0, none⟩ = some (.slice (some ⟨b, off, none⟩) n cc) ∧ X.cell? ⟨nb, 1, none⟩ = some (.slice Ar n cr) ∧ X.cell? ⟨b, off + k * 7 + 2, none⟩ = some (.int .i64 M) :=
    fun X hX => ⟨hX, (hX.cell h.lt).trans c0, (hX.cell h.lt).trans c1, (hX.cell hbb).trans hm⟩
  have HK := Lib.hid hkeep
  clear hv hM hb hlen hkeep o hi hk
  have e1 : IntKind.i64.wrap (v * M) = v * M := IntWalk.i64_in _ (by omega)
  go_enter Try.func8, Try.ntmps8
  go_upto_region 6 with (go_at_call 25; refine (there_ok _ _ _ _ _ _ c0 (by omega) (by omega)).mono ?_; rintro e w' ⟨rfl, rfl⟩)
  go_cut [10] (fun p wx => p = .pointer (some ⟨w.heap.size, 0, none⟩) ∧ (w.alloc (.cells #[.int .i64 (v * M)] 2)).drew = wx)
  case first =>
    go_region_held3 (fun w' => Below w.heap.size w w' ∧ w'.cell? ⟨nb, 0, none⟩ = some (.slice (some ⟨b, off, none⟩) n cc) ∧ w'.cell? ⟨nb, 1, none⟩ = some (.slice Ar n cr) ∧ w'.cell? ⟨b, off + k * 7 + 2, none⟩ = some (.int .i64 M))
      ((refine HK.out _ ?_; repeat (first | exact Below.refl _ _ | refine Below.drew ?_ | (refine Below.alloc ?_ ?_ _; rotate_left; (first | exact Nat.le_refl _ | (simp; done))) | refine Below.setCell ?_ (Nat.le_refl _) _)))
      (first
        | (go_at_call 26; refine (HB.out _ (And.left ‹Below w.heap.size w _ ∧ _›)).mono ?_; rintro e w' ⟨rfl, rfl⟩)
        | fail)
    all_goals (go_wp2_with fail; go_meet; exact ⟨rfl, rfl⟩)
  case rest =>
    obtain ⟨rfl, rfl⟩ := hcut
    clear c0 c1 hm HB HK h e1
    obtain ⟨a, ha⟩ : ∃ a, a = v * M := ⟨_, rfl⟩
    rw [← ha] at p1 p2 ⊢
    have HAM := Lib.hid ha
    clear ha
    have hbel : Below w.heap.size w (w.alloc (.cells #[.int .i64 a] 2)).drew := ((Below.refl _ _).alloc (Nat.le_refl _) _).drew
    have HBL := Lib.hid hbel
    have hcl : (w.alloc (.cells #[.int .i64 a] 2)).drew.cell? ⟨w.heap.size, 0, none⟩ = some (.int .i64 a) := by simp
    obtain ⟨W, hW⟩ : ∃ W, W = (w.alloc (.cells #[.int .i64 a] 2)).drew := ⟨_, rfl⟩
    rw [← hW] at hcl HBL ⊢
    clear hbel hW
    have l1 := least_bd a want p1 h1
    have hL := fun w => least_any a want w.heap.size w
    have hup0 := up_gt a want p1 h1
    obtain ⟨L, hLL⟩ : ∃ L, L = leastOf a want := ⟨_, rfl⟩
    rw [← hLL] at l1 hup0
    have HUP := Lib.hid hup0
    clear hup0
    obtain ⟨l1, l2⟩ := l1
    have r1 : 0 ≤ a / L := Int.ediv_nonneg p1 (by omega)
    have r2 : a / L ≤ a := Int.ediv_le_self _ p1
    have hr : (roundOf a want) = if 1 < L then (if dist (a / (L - 1)) want ≤ dist (a / L) want then (leastOf a (a / (L - 1)), a / (L - 1)) else (L, a / L)) else (L, a / L) := by rw [hLL]; rfl
    have HRO := Lib.hid hr
    have hcall : Calls Try.prog 27 #[.int .i64 want, .pointer (some ⟨w.heap.size, 0, none⟩)] W fun e w' => e = .returned (.int .i64 L) ∧ W = w' := by rw [hLL]; exact least_any a want _ W hcl p1 p2 h1 (by omega)
    have HC := Lib.hid hcall
    clear hr hcall hLL hL
    by_cases h3 : 1 < L
    · have u1 : 0 ≤ a / (L - 1) := Int.ediv_nonneg p1 (by omega)
      have u2 : a / (L - 1) ≤ a := Int.ediv_le_self _ p1
      have hup : want < a / (L - 1) := HUP.out h3
      have hcall2 : ∀ nq, Calls Try.prog 27 #[.int .i64 (a / (L - 1)), .pointer (some ⟨w.heap.size, 0, none⟩)] (W.drewN nq) fun e w' => e = .returned (.int .i64 (leastOf a (a / (L - 1)))) ∧ W.drewN nq = w' := fun nq => least_any a _ _ (W.drewN nq) hcl p1 p2 u1 (by omega)
      have HC2 := Lib.hid hcall2
      clear hcall2
      obtain ⟨up, hu⟩ : ∃ up, up = a / (L - 1) := ⟨_, rfl⟩
      obtain ⟨r0, hr0⟩ : ∃ r0, r0 = a / L := ⟨_, rfl⟩
      have HRO2 : Hid ((roundOf a want) = if dist up want ≤ dist r0 want then (leastOf a up, up) else (L, r0)) := by rw [HRO.out, if_pos h3, hu, hr0]; rfl
      have HC3 : Hid (∀ nq, Calls Try.prog 27 #[.int .i64 up, .pointer (some ⟨w.heap.size, 0, none⟩)] (W.drewN nq) fun e w' => e = .returned (.int .i64 (leastOf a up)) ∧ W.drewN nq = w') := by rw [hu]; exact HC2.out
      have e2 : IntKind.i64.wrap (a.tdiv L) = r0 := by rw [hr0]; exact IntWalk.i64_quo _ _ (by omega)
      have e4 : IntKind.i64.wrap (a.tdiv (L - 1)) = up := by rw [hu]; exact IntWalk.i64_quo _ _ (by omega)
      have e3 : ¬ L = 0 := by omega
      rw [← hu] at u1 u2 hup
      rw [← hr0] at r1 r2
      have HU := Lib.hid hu
      have HR0 := Lib.hid hr0
      clear hu hr0 HRO HC2
      have hd : dist up want = up - want := by unfold dist; omega
      have l3 := least_bd a up p1 u1
      by_cases h4 : r0 ≤ want
      · have hd2 : dist r0 want = want - r0 := by unfold dist; omega
        by_cases h5 : up - want ≤ want - r0
        · have hro : roundOf a want = (leastOf a up, up) := by rw [HRO2.out, if_pos (by omega)]
          have HRR := Lib.hid hro
          clear hro hd hd2 HRO2 HU HR0
          go_wp2_with (go_at_call 27; refine HC.out.mono ?_; rintro e w' ⟨rfl, rfl⟩)
          go_quiet (fail)
          go_wp2_with (go_at_call 27; refine (HC3.out _).mono ?_; rintro e w' ⟨rfl, rfl⟩)
          all_goals go_ret3
          all_goals exact ⟨by rw [← HAM.out, HRR.out]; rfl, below_drewN HBL.out _⟩
        · have hro : roundOf a want = (L, r0) := by rw [HRO2.out, if_neg (by omega)]
          have HRR := Lib.hid hro
          clear hro hd hd2 HRO2 HU HR0
          go_wp2_with (go_at_call 27; refine HC.out.mono ?_; rintro e w' ⟨rfl, rfl⟩)
          go_quiet (fail)
          go_wp2_with (go_at_call 27; refine (HC3.out _).mono ?_; rintro e w' ⟨rfl, rfl⟩)
          all_goals go_ret3
          all_goals exact ⟨by rw [← HAM.out, HRR.out]; rfl, below_drewN HBL.out _⟩
      · have hd2 : dist r0 want = r0 - want := by unfold dist; omega
        by_cases h5 : up - want ≤ r0 - want
        · have hro : roundOf a want = (leastOf a up, up) := by rw [HRO2.out, if_pos (by omega)]
          have HRR := Lib.hid hro
          clear hro hd hd2 HRO2 HU HR0
          go_wp2_with (go_at_call 27; refine HC.out.mono ?_; rintro e w' ⟨rfl, rfl⟩)
          go_quiet (fail)
          go_wp2_with (go_at_call 27; refine (HC3.out _).mono ?_; rintro e w' ⟨rfl, rfl⟩)
          all_goals go_ret3
          all_goals exact ⟨by rw [← HAM.out, HRR.out]; rfl, below_drewN HBL.out _⟩
        · have hro : roundOf a want = (L, r0) := by rw [HRO2.out, if_neg (by omega)]
          have HRR := Lib.hid hro
          clear hro hd hd2 HRO2 HU HR0
          go_wp2_with (go_at_call 27; refine HC.out.mono ?_; rintro e w' ⟨rfl, rfl⟩)
          go_quiet (fail)
          go_wp2_with (go_at_call 27; refine (HC3.out _).mono ?_; rintro e w' ⟨rfl, rfl⟩)
          all_goals go_ret3
          all_goals exact ⟨by rw [← HAM.out, HRR.out]; rfl, below_drewN HBL.out _⟩
    · have e2 : IntKind.i64.wrap (a.tdiv L) = a / L := IntWalk.i64_quo _ _ (by omega)
      have e3 : ¬ L = 0 := by omega
      go_wp2_with (go_at_call 27; refine HC.out.mono ?_; rintro e w' ⟨rfl, rfl⟩)
      go_quiet (fail)
      go_wp2
      go_ret3
      exact ⟨by rw [← HAM.out, HRO.out, if_neg (show ¬ 1 < L by omega)]; rfl, below_drewN HBL.out _⟩
end Go.Proofs.Ytbahclnpgdejlaa
