import Derived.Test.YtbahclnpgdejlaaAwake
import Derived.Test.YtbahclnpgdejlaaBest
import Derived.Deep.DeepCutAuto
set_option linter.unusedVariables false
namespace Go.Proofs.Ytbahclnpgdejlaa
open Go.RowKit
theorem near_best (all w D : Int) (h1 : 0 ≤ all) (hw : 0 ≤ w) : nearerB all w (roundOf all w).1 D = true := by
  unfold nearerB
  split
  · rfl
  · have h := round_best all w D h1 hw (by omega) (by omega)
    have ha : ∀ a, absI (a - w) = dist a w := by intro a; unfold absI dist; split <;> omega
    rw [ha, ha]
    simp only [Bool.or_eq_true, Bool.and_eq_true, decide_eq_true_eq, beq_iff_eq]
    exact h
def oneClk (r m : Int) : List Clk := [⟨-1, r, m, 1, 0, 1099511627776, false⟩]
theorem one_may (r m : Int) (h1 : 0 ≤ r) (h2 : r ≤ 1099511627776) (h3 : 1 ≤ m) (h4 : m ≤ 65535) : mayB (oneClk r m) = true := by
  rw [mayB_iff]
  refine ⟨by simp [oneClk], fun j hj => ?_⟩
  obtain rfl : j = 0 := by simp [oneClk] at hj; omega
  rw [okAt_get _ _ hj]
  simp [oneClk, okB, facB, h1, h2, h3, h4]
theorem one_rates (r m : Int) : ratesOf (oneClk r m) = [r * m] := by
  simp [ratesOf, oneClk, rateStep, baseOf]
theorem one_fit (r m : Int) (h1 : 0 ≤ r * m) (h2 : r * m ≤ 1099511627776) : ∀ j, j < 1 → fitsAt (oneClk r m) j = true := by
  intro j hj
  obtain rfl : j = 0 := by omega
  unfold fitsAt
  rw [one_rates]
  simp [oneClk]; omega
theorem one_seg (w : World) (r m : Int) (n : Nat) (hn : n = w.heap.size) : Seg (w.alloc (.cells #[.int .i64 (-1), .int .i64 r, .int .i64 m, .int .i64 1, .int .i64 0, .int .i64 1099511627776, .bool false] 30)) (n + 1) (some ⟨n, 0, none⟩) (clkCells (oneClk r m)) := by
  subst hn
  exact seg_new w 30 #[.int .i64 (-1), .int .i64 r, .int .i64 m, .int .i64 1, .int .i64 0, .int .i64 1099511627776, .bool false]
theorem one_inv (r m : Int) (h1 : 0 ≤ r) (h2 : r ≤ 1099511627776) (h3 : 1 ≤ m) (h4 : m ≤ 65535) (h5 : 0 ≤ r * m) (h6 : r * m ≤ 1099511627776) : Inv ⟨oneClk r m, [r * m], zeros 1, zeros 1⟩ :=
  ⟨one_may r m h1 h2 h3 h4, fun j hj => one_fit r m h5 h6 j hj, (one_rates r m).symm⟩
theorem one_round {w : World} {B nb : Nat} {Ac Ar Au Ah : Option Addr} {cc cr cu ch : Nat} {r m q d g : Int} (h : NetAt w B nb 1 Ac Ar Au Ah cc cr cu ch ⟨oneClk r m, [r * m], zeros 1, zeros 1⟩) (hi : Inv ⟨oneClk r m, [r * m], zeros 1, zeros 1⟩)
    (h1 : 0 ≤ q) (h2 : q ≤ 1099511627776) (hd : d = (roundOf (r * m) q).1) (hg : g = (roundOf (r * m) q).2) :
    Calls Try.prog 8 #[.pointer (some ⟨nb, 0, none⟩), .int .i64 0, .int .i64 q] w fun e w' => e = .returned (.tuple #[.int .i64 d, .int .i64 g, .int .i64 0]) ∧ Below w.heap.size w w' := by
  have := round_ok h hi (k := 0) (by simp [oneClk]) q h1 h2
  rw [hd, hg]
  exact this
set_option maxRecDepth 100000 in
set_option maxHeartbeats 2000000 in
theorem near_walk (R W M D : Int) (hR1 : -9223372036854775808 ≤ R) (hR2 : R ≤ 9223372036854775807) (hW1 : -9223372036854775808 ≤ W) (hW2 : W ≤ 9223372036854775807)
    (hM1 : 0 ≤ M) (hM2 : M ≤ 65535) (hD1 : 0 ≤ D) (hD2 : D ≤ 65535) (w : World) :
    Calls Try.prog 3 #[.agg #[.int .i64 R, .int .i64 W, .int .u16 M, .int .u16 D]] w fun e w' => e = .returned (.bool true) ∧ Below w.heap.size w w' := by
  have tb : ∀ n : Int, ∃ r, (wrap64 (n.tmod 1099511627776 + 1099511627776)).tmod 1099511627776 = r ∧ 0 ≤ r ∧ r < 1099511627776 := by
    intro n
    have h1 : -1099511627776 < n.tmod 1099511627776 ∧ n.tmod 1099511627776 < 1099511627776 := by
      have := Int.tmod_lt_of_pos n (b := 1099511627776) (by omega)
      have := Int.lt_tmod_of_pos n (b := 1099511627776) (by omega)
      omega
    have h2 : wrap64 (n.tmod 1099511627776 + 1099511627776) = n.tmod 1099511627776 + 1099511627776 := by unfold wrap64; omega
    rw [h2, Int.tmod_eq_emod_of_nonneg (by omega)]
    exact ⟨_, rfl, Int.emod_nonneg _ (by omega), Int.emod_lt_of_pos _ (by omega)⟩
  obtain ⟨r, hr, r1, r2⟩ := tb R
  obtain ⟨q, hq, q1, q2⟩ := tb W
  obtain ⟨m, hm, m1, m2⟩ : ∃ m, M % 65535 + 1 = m ∧ 1 ≤ m ∧ m ≤ 65535 := ⟨_, rfl, by omega, by omega⟩
  clear tb hR1 hR2 hW1 hW2
  go_enter Try.func3, Try.ntmps3
  go_upto_region 5 with fail
  go_cut [37] (fun t wx => t = .bool (decide (0 < r) && decide (1099511627776 / r < m)) ∧ w.alloc (.cells #[.int .i64 R, .int .i64 W, .int .u16 M, .int .u16 D] 24) = wx)
  case first =>
    rcases (show 0 < r ∨ r ≤ 0 by omega) with hr0 | hr0
    all_goals
      go_wp2_with fail
      go_meet
      refine ⟨?_, rfl⟩
      simp [hr0]
      try omega
  case rest =>
  obtain ⟨rfl, rfl⟩ := hcut
  clear hr hq hm
  go_upto_if 37 with fail
  go_cut [5] (fun c wx => (∃ m' : Int, c = .int .i64 m' ∧ 1 ≤ m' ∧ m' ≤ 65535 ∧ r * m' ≤ 1099511627776) ∧ w.alloc (.cells #[.int .i64 R, .int .i64 W, .int .u16 M, .int .u16 D] 24) = wx)
  case first =>
    go_wp2_with fail
    all_goals go_meet
    · exact ⟨⟨1, rfl, by omega, by omega, by omega⟩, rfl⟩
    · refine ⟨⟨m, rfl, by omega, by omega, ?_⟩, rfl⟩
      rename_i hor
      rcases hor with hor | hor
      · obtain rfl : r = 0 := by omega
        simp
      · rcases (show r = 0 ∨ 0 < r by omega) with rfl | hr0
        · simp
        · have := Int.mul_le_of_le_ediv hr0 hor
          rw [Int.mul_comm]; exact this
  case rest =>
  obtain ⟨⟨m', rfl, n1, n2, n3⟩, rfl⟩ := hcut
  clear m1 m2
  have a1 : 0 ≤ r * m' := Int.mul_nonneg r1 (by omega)
  have hmay := one_may r m' r1 (by omega) n1 n2
  have hfit := one_fit r m' a1 n3
  have hinv := one_inv r m' r1 (by omega) n1 n2 a1 n3
  have hbd := round_bd (r * m') q a1 q1
  have hrr := round_rate (r * m') q a1 q1
  have hbest := fun D => near_best (r * m') q D a1 q1
  have hs0 : Seg ((w.alloc (.cells #[.int .i64 R, .int .i64 W, .int .u16 M, .int .u16 D] 24)).alloc (.cells #[.int .i64 (-1), .int .i64 r, .int .i64 m', .int .i64 1, .int .i64 0, .int .i64 1099511627776, .bool false] 30)) (w.heap.size + 1 + 1) (some ⟨w.heap.size + 1, 0, none⟩) (clkCells (oneClk r m')) := one_seg _ _ _ _ (by simp)
  have HI := Lib.hid hinv
  have HF := Lib.hid hfit
  have HM := Lib.hid hmay
  have HS := Lib.hid hs0
  obtain ⟨d, hd⟩ : ∃ d, d = (roundOf (r * m') q).1 := ⟨_, rfl⟩
  obtain ⟨g, hg⟩ : ∃ g, g = (roundOf (r * m') q).2 := ⟨_, rfl⟩
  rw [← hd] at hbd hrr
  rw [← hg] at hrr
  simp only [← hd] at hbest
  obtain ⟨d1, d2⟩ := hbd
  have HD := Lib.hid hd
  have HG := Lib.hid hg
  obtain ⟨a, ha⟩ : ∃ a, r * m' = a := ⟨_, rfl⟩
  rw [ha] at a1 n3 hrr hbest
  have e1 : wrap64 (r * m') = a := by rw [ha]; exact IntWalk.wrap64_in _ (by omega)
  have e2 : wrap64 (a.tdiv d) = g := by rw [hrr, Int.tdiv_eq_ediv_of_nonneg a1]; exact IntWalk.wrap64_in _ (by have := Int.ediv_le_self d a1; have := Int.ediv_nonneg a1 (show 0 ≤ d by omega); omega)
  have e3 : ¬ d = 0 := by omega
  have e4 : a / d = g := hrr.symm
  have hnear : ∀ D W', Calls Try.prog 9 #[.int .i64 a, .int .i64 q, .int .i64 d, .int .i64 D] W' fun e w' => e = .returned (.bool true) ∧ W' = w' := fun D W' => by have := nearer_any a q d D a1 (by omega) q1 (by omega) d1 W'; rw [hbest D] at this; exact this
  have HNE := Lib.hid hnear
  have HB := Lib.hid hbest
  have g1 : 0 ≤ g := by rw [hrr]; exact Int.ediv_nonneg a1 (by omega)
  have HA := Lib.hid ha
  clear hnear hd hg hbest hrr hs0 hmay hfit hinv ha
  go_upto_region 13 with (first
    | (go_at_call 7
       refine (new_ok _ _ (oneClk r m') 1 rfl _ _ (by simp) HS.out (by omega) HM.out HF.out).mono ?_
       rintro e w1 ⟨nb, rfl, ⟨n, Ac, Ar, Au, Ah, cc, cr, cu, ch, hn⟩, hb1⟩
       obtain rfl : n = 1 := hn.len
       rw [one_rates] at hn
       have hbel : Below w.heap.size w w1 := ((Below.refl _ _).alloc (Nat.le_refl _) _).alloc (by simp) _ |>.trans (hb1.mono (by simp; omega))
       have HN := Lib.hid hn
       have HB1 := Lib.hid hbel
       clear hn hb1 hbel)
    | (go_at_call 8
       refine (one_round HN.out HI.out q1 (by omega) HD.out HG.out).mono ?_
       rintro e w2 ⟨rfl, hb2⟩
       have HB2 := Lib.hid (HB1.out.trans (hb2.mono HB1.out.size))
       clear hb2))
  clear HI HF HM HS HB HD HG HN HB1
  go_wp2_with fail
  go_loopw [12] (fun i wr => ∃ k : Int, -3 ≤ k ∧ k ≤ 4 ∧ i = .int .i64 k ∧ Below w.heap.size w wr) (fun i _ => (4 - intOf i).toNat)
  case atStart => exact ⟨-3, by omega, by omega, rfl, HB2.out⟩
  case round =>
    obtain ⟨k, k1, k2, rfl, hbr⟩ := hrel
    have HBR := Lib.hid hbr
    clear hbr
    have e5 : wrap64 (d + k) = d + k := IntWalk.wrap64_in _ (by omega)
    have e6 : wrap64 (D + k) = D + k := IntWalk.wrap64_in _ (by omega)
    rcases (show k ≤ 3 ∨ 3 < k by omega) with hk | hk
    · go_wp2_with (go_at_call 9; refine (HNE.out _ _).mono ?_; rintro e w' ⟨rfl, rfl⟩)
      exact ⟨⟨k + 1, by omega, by omega, rfl, HBR.out⟩, by simp [intOf]; omega⟩
    · go_wp2_with (first
        | (go_at_call 9; refine (HNE.out _ _).mono ?_; rintro e w' ⟨rfl, rfl⟩)
        | (go_at_call 10; refine (awake_any _).mono ?_; rintro e w' ⟨rfl, hb4⟩))
      go_ret
      exact ⟨rfl, HBR.out.trans (hb4.mono HBR.out.size)⟩
end Go.Proofs.Ytbahclnpgdejlaa
