/- The document's Round, all Divs tried: the contract. -/
import Derived.Test.YtbahclnpgdejlaaROn
import Derived.Test.YtbahclnpgdejlaaBest
set_option linter.unusedVariables false
namespace Go.Proofs.Ytbahclnpgdejlaa
open Go.RowKit
theorem ret_int3 {k k' k'' : IntKind} {a b c d x y : Int} (h : a = b) (h' : c = d) (h'' : x = y) : Ending.returned (.tuple #[.int k a, .int k' c, .int k'' x]) = .returned (.tuple #[.int k b, .int k' d, .int k'' y]) := by rw [h, h', h'']
/-- b is the least of the Divs below D that are as near as any of these. -/
def BestTo (all want : Int) (D b : Int) : Prop := 1 ≤ b ∧ b < D ∧ ∀ e, 1 ≤ e → e < D → dist (all / b) want < dist (all / e) want ∨ (dist (all / b) want = dist (all / e) want ∧ b ≤ e)
theorem best_two (all want : Int) : BestTo all want 2 1 := by
  refine ⟨by omega, by omega, fun e h1 h2 => ?_⟩
  obtain rfl : e = 1 := by omega
  exact .inr ⟨rfl, Int.le_refl _⟩
theorem best_take {all want D b : Int} (h : BestTo all want D b) (hlt : dist (all / D) want < dist (all / b) want) : BestTo all want (D + 1) D :=
  ⟨by have := h.1; have := h.2.1; omega, by omega, fun e h1 h2 => by
    rcases (show e < D ∨ e = D by omega) with h3 | rfl
    · have := h.2.2 e h1 h3; omega
    · exact .inr ⟨rfl, Int.le_refl _⟩⟩
theorem best_leave {all want D b : Int} (h : BestTo all want D b) (hlt : ¬ dist (all / D) want < dist (all / b) want) : BestTo all want (D + 1) b :=
  ⟨h.1, by have := h.2.1; omega, fun e h1 h2 => by
    rcases (show e < D ∨ e = D by omega) with h3 | rfl
    · exact h.2.2 e h1 h3
    · have := h.2.1; omega⟩
theorem best_end {all want b : Int} (h : BestTo all want 65536 b) (h1 : 0 ≤ all) (hw : 0 ≤ want) : b = (roundOf all want).1 := by
  have hb := round_best all want b h1 hw h.1 (by have := h.2.1; omega)
  have hr := round_bd all want h1 hw
  have := h.2.2 (roundOf all want).1 (by omega) (by omega)
  omega
theorem rround_no {w : World} {B rb n : Nat} {Al Au : Option Addr} {cl cu : Nat} {l : List Clk} {us : List Int} (h : RNet w B rb n Al Au cl cu l us) (i want : Int) (hi : i < 0 ∨ n ≤ i ∨ want < 0 ∨ 1099511627776 < want) :
    Calls Try.prog 41 #[.pointer (some ⟨rb, 0, none⟩), .int .i64 i, .int .i64 want] w fun e w' => e = .returned (.tuple #[.int .i64 0, .int .i64 0, .int .i64 1]) ∧ w = w' := by
  have c0 := h.c0
  clear h
  by_cases h1 : i < 0 ∨ n ≤ i
  · clear hi
    go_enter Try.func41, Try.ntmps41
    go_wp2_with (go_at_call 49; refine (rthere_no _ _ _ _ _ _ c0 h1).mono ?_; rintro e w' ⟨rfl, rfl⟩)
    go_ret3
    exact ⟨rfl, rfl⟩
  · rcases (show want < 0 ∨ (0 ≤ want ∧ 1099511627776 < want) by omega) with h2 | ⟨h2, h3⟩
    all_goals
      have h4 : 0 ≤ i := by omega
      have h5 : i < n := by omega
      clear hi h1
      go_enter Try.func41, Try.ntmps41
      go_wp2_with (go_at_call 49; refine (rthere_yes _ _ _ _ _ _ c0 h4 h5).mono ?_; rintro e w' ⟨rfl, rfl⟩)
      go_ret3
      exact ⟨rfl, rfl⟩
set_option maxRecDepth 100000 in
set_option maxHeartbeats 4000000 in
theorem rround_ok {w : World} {B rb n : Nat} {Al Au : Option Addr} {cl cu : Nat} {l : List Clk} {us rs : List Int} (h : RNet w B rb n Al Au cl cu l us) (hg : Good l) (hn5 : n ≤ 512) (hrs : capRates l = rs) {k : Nat} (hk : k < l.length) (hb0 : 0 ≤ baseOf rs l[k]) (hb1 : baseOf rs l[k] ≤ 1099511627776)
    (want : Int) (h1 : 0 ≤ want) (h2 : want ≤ 1099511627776) :
    Calls Try.prog 41 #[.pointer (some ⟨rb, 0, none⟩), .int .i64 k, .int .i64 want] w fun e w' =>
      e = .returned (.tuple #[.int .i64 (roundOf (baseOf rs l[k] * l[k].mul) want).1, .int .i64 (roundOf (baseOf rs l[k] * l[k].mul) want).2, .int .i64 0]) ∧ Below w.heap.size w w' := by
  have c0 := h.c0
  have hrbl := h.lt
  have hr := rates_any Al cl l n h.len hg w w.heap.size (Nat.le_refl _) h.vl.seg (by omega)
  have hlen := h.len
  have hkn : k < n := by omega
  have hki : (k : Int) < (n : Int) := by omega
  obtain ⟨gl, rfl, _, hrl⟩ := h.row_l (by omega)
  have o := hg.at_ hk
  have hbf : (l[k].frm < 0 ∧ baseOf rs l[k] = l[k].rate) ∨ ∃ f : Nat, l[k].frm = f ∧ f < k ∧ baseOf rs l[k] = rs.getD f 0 := by
    rcases o.src with ⟨h1, _, _⟩ | ⟨h1, h2, _⟩
    · left; exact ⟨by omega, by unfold baseOf; rw [if_pos (by omega)]⟩
    · right; exact ⟨l[k].frm.toNat, by omega, by omega, by unfold baseOf; rw [if_neg (by omega)]⟩
  have hm1 := o.m1
  have hm2 := o.m2
  obtain ⟨p1, p2, _, _⟩ := prod_bd hb0 hb1 hm1 hm2 (D := 1) (by omega)
  obtain ⟨v, hv⟩ : ∃ v, v = baseOf rs l[k] := ⟨_, rfl⟩
  rw [← hv] at hb0 hb1 p1 p2 hbf ⊢
  obtain ⟨b, off, e, hbb, g0, g1, g2, _, _, _, _⟩ := h.vl.seg.clk hk
  injection e with e
  injection e with e1 e2
  subst e1 e2
  rw [Nat.zero_add] at g0 g1 g2
  obtain ⟨⟨F, R, M, D0, L, H, st⟩, hc⟩ : ∃ c : Clk, c = l[k] := ⟨_, rfl⟩
  rw [← hc] at g0 g1 g2 hm1 hm2 p1 p2 hbf ⊢
  simp only at g0 g1 g2 hm1 hm2 p1 p2 hbf ⊢
  have hgll : gl < w.heap.size := hrl.lt
  clear hc hv o hrl
  have HR := Lib.hid hr
  have HL := Lib.hid hlen
  have HRS := Lib.hid hrs
  clear hr hlen hrs hg h
  obtain ⟨all, ha⟩ : ∃ all, v * M = all := ⟨_, rfl⟩
  rw [ha] at p1 p2 ⊢
  have e1 : IntKind.i64.wrap (v * M) = all := by rw [ha]; exact IntWalk.i64_in _ (by omega)
  have e1' : wrap64 (v * M) = all := by rw [ha]; exact IntWalk.wrap64_in _ (by omega)
  have hend : ∀ b, BestTo all want 65536 b → b = (roundOf all want).1 := fun b hb => best_end hb p1 h1
  have hrr := round_rate all want p1 h1
  have HE := Lib.hid hend
  have HRR := Lib.hid hrr
  clear hend hrr
  rcases hbf with ⟨hF, rfl⟩ | ⟨f, rfl, hfk, hvf⟩
  focus
    go_enter Try.func41, Try.ntmps41
    go_wp2_with (first
      | (go_at_call 49; refine (rthere_yes _ _ _ _ _ _ c0 (by omega) (by omega)).mono ?_; rintro e w' ⟨rfl, rfl⟩)
      | (go_at_call 33; refine HR.out.mono ?_; rintro e w2 ⟨A', c', rfl, hown, hb⟩; obtain ⟨g, rfl, hg1, hg2, hrow⟩ := RowAt.of_own hown (by omega); have k0 := (hb.cell (p := ⟨rb, 0, none⟩) hrbl).trans c0; have k1 := (hb.cell (p := ⟨gl, k * 7, none⟩) hgll).trans g0; have k2 := (hb.cell (p := ⟨gl, k * 7 + 1, none⟩) hgll).trans g1; have k3 := (hb.cell (p := ⟨gl, k * 7 + 2, none⟩) hgll).trans g2; have HB := Lib.hid hb; have HROW := Lib.hid hrow; clear hown hrow hb))
  rotate_left
  focus
    go_enter Try.func41, Try.ntmps41
    go_upto_region 6 with (first
      | (go_at_call 49; refine (rthere_yes _ _ _ _ _ _ c0 (by omega) (by omega)).mono ?_; rintro e w' ⟨rfl, rfl⟩)
      | (go_at_call 33; refine HR.out.mono ?_; rintro e w2 ⟨A', c', rfl, hown, hb⟩; obtain ⟨g, rfl, hg1, hg2, hrow⟩ := RowAt.of_own hown (by omega); have k0 := (hb.cell (p := ⟨rb, 0, none⟩) hrbl).trans c0; have k1 := (hb.cell (p := ⟨gl, k * 7, none⟩) hgll).trans g0; have k2 := (hb.cell (p := ⟨gl, k * 7 + 1, none⟩) hgll).trans g1; have k3 := (hb.cell (p := ⟨gl, k * 7 + 2, none⟩) hgll).trans g2; have HB := Lib.hid hb; have HROW := Lib.hid hrow; clear hown hrow hb))
    have hcl := HROW.out.cell (k := f) (by rw [i64s_len, capRates_len, ← HL.out]; omega)
    rw [i64s_get _ _ (by rw [capRates_len, ← HL.out]; omega), HRS.out, ← hvf] at hcl
    clear hvf
    go_wp2_with fail
  all_goals
    clear HR k0 k1 k2 k3 c0 g0 g1 g2 e1 e1' ha
    go_loopw [13, 14] (fun bv dv wr => ∃ b D : Int, 2 ≤ D ∧ D ≤ 65536 ∧ bv = .int .i64 b ∧ dv = .int .i64 D ∧ 1 ≤ b ∧ b < D ∧ BestTo all want D b ∧ Below w.heap.size w wr) (fun _ dv _ => (65536 - intOf dv).toNat)
    case atStart => exact ⟨1, 2, by omega, by omega, rfl, rfl, by omega, by omega, best_two _ _, HB.out⟩
    case round =>
      obtain ⟨b, D, hD1, hD2, rfl, rfl, hb1', hb2', hbest, hbel⟩ := hrel
      have HBT := Lib.hid hbest
      have HBE := Lib.hid hbel
      clear hbest hbel
      have q1 : 0 ≤ all / b := Int.ediv_nonneg p1 (by omega)
      have q2 : all / b ≤ all := Int.ediv_le_self _ p1
      have f1 : IntKind.i64.wrap (all.tdiv b) = all / b := by rw [Int.tdiv_eq_ediv_of_nonneg p1]; exact IntWalk.i64_in _ (by omega)
      have f1' : wrap64 (all.tdiv b) = all / b := by rw [Int.tdiv_eq_ediv_of_nonneg p1]; exact IntWalk.wrap64_in _ (by omega)
      have f0 : ¬ b = 0 := by omega
      by_cases hlt : D ≤ 65535
      · have q3 : 0 ≤ all / D := Int.ediv_nonneg p1 (by omega)
        have q4 : all / D ≤ all := Int.ediv_le_self _ p1
        have f2 : IntKind.i64.wrap (all.tdiv D) = all / D := by rw [Int.tdiv_eq_ediv_of_nonneg p1]; exact IntWalk.i64_in _ (by omega)
        have f3 : ¬ D = 0 := by omega
        have hyes := fun h => best_take HBT.out h
        have hno := fun h => best_leave HBT.out h
        have HY := Lib.hid hyes
        have HNO := Lib.hid hno
        clear hyes hno
        by_cases hd : dist (all / D) want < dist (all / b) want
        all_goals
          go_wp2_with fail
          go_quiet ((go_at_call 52; exact Calls.quiet_of_same (turn_same (away_any _ _ _ (by omega) (by omega) (by omega) (by omega)))))
          go_wp2_with fail
          go_roundw
          case rel => first | exact ⟨D, D + 1, by omega, by omega, rfl, rfl, by omega, by omega, HY.out hd, below_drewN HBE.out _⟩ | exact ⟨b, D + 1, by omega, by omega, rfl, rfl, by omega, by omega, HNO.out hd, below_drewN HBE.out _⟩
          case measure => simp [intOf]; omega
      · obtain rfl : D = 65536 := by omega
        go_wp2_with fail
        go_quiet (fail)
        go_wp2_with fail
        go_ret3
        have hbe := HE.out b HBT.out
        exact ⟨ret_int3 hbe (by rw [HRR.out, ← hbe]) rfl, below_drewN HBE.out _⟩
end Go.Proofs.Ytbahclnpgdejlaa
