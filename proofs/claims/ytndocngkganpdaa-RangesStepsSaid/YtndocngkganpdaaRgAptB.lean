/- Apart, apart, and the plain law of RangesBack. -/
import Derived.Test.YtndocngkganpdaaRgLentF
set_option linter.unusedVariables false
namespace Go.Proofs.Ytndocngkganpdaa
open Go.RowKit
/-- Have two stretches a byte in common? -/
def meetsB (a b n m : Nat) : Bool := !(n == 0 || m == 0) && (if a ≤ b then decide (b - a < n) else decide (a - b < m))
/-- Have two maps a byte in common, on either side? -/
def mtB (x y : Mp) : Bool := meetsB x.k y.k x.s y.s || meetsB x.a y.a x.s y.s
def apartM (L : List Mp) : Bool := (List.range L.length).all fun a => (List.range a).all fun b => match L[a]?, L[b]? with
  | some x, some y => !mtB x y
  | _, _ => true
def apart1B (M : List Mp × Bool × Int) : Bool := M.2.2 == 0 && apartM M.1
def apartB (l : List Nd) (n : Nat) : Bool := (wayF l n).all fun i => apart1B (mapsF l i)
theorem apartM_bad {L : List Mp} {a b : Nat} (ha : a < L.length) (hb : b < a) (h : mtB L[a] L[b] = true) : apartM L = false := by
  unfold apartM
  rw [List.all_eq_false]
  refine ⟨a, by simpa using ha, ?_⟩
  rw [Bool.not_eq_true, List.all_eq_false]
  refine ⟨b, by simpa using hb, ?_⟩
  rw [List.getElem?_eq_getElem ha, List.getElem?_eq_getElem (show b < L.length by omega)]
  simp [h]
theorem apartM_iff {L : List Mp} : apartM L = true ↔ ∀ (a b : Nat) (ha : a < L.length) (hb : b < a), mtB L[a] (L[b]'(by omega)) = false := by
  unfold apartM
  rw [List.all_eq_true]
  constructor
  · intro h a b ha hb
    have := h a (by simpa using ha)
    rw [List.all_eq_true] at this
    have := this b (by simpa using hb)
    rw [List.getElem?_eq_getElem ha, List.getElem?_eq_getElem (show b < L.length by omega)] at this
    simpa using this
  · intro h a ha
    rw [List.all_eq_true]
    intro b hb
    have ha : a < L.length := by simpa using ha
    have hb : b < a := by simpa using hb
    rw [List.getElem?_eq_getElem ha, List.getElem?_eq_getElem (show b < L.length by omega)]
    simp [h a b ha hb]
set_option maxRecDepth 100000 in
set_option maxHeartbeats 16000000 in
theorem meets_any (a b n m : Nat) (ha : a < 18446744073709551616) (hb : b < 18446744073709551616) (hn : n < 18446744073709551616) (hm : m < 18446744073709551616) (w : World) :
    Calls Try.prog 53 #[.int .u64 (a : Nat), .int .u64 (b : Nat), .int .u64 (n : Nat), .int .u64 (m : Nat)] w fun e w' => e = .returned (.bool (meetsB a b n m)) ∧ w = w' := by
  obtain ⟨r, hr⟩ : ∃ r, r = meetsB a b n m := ⟨_, rfl⟩
  rw [← hr]
  unfold meetsB at hr
  by_cases h0 : n = 0
  · subst h0
    obtain rfl : r = false := by rw [hr]; rfl
    go_enter Try.func53, Try.ntmps53
    go_wp2_with fail
    go_ret
    exact ⟨rfl, rfl⟩
  have e0 : ((n : Int) == 0) = false := by rw [beq_eq_false_iff_ne]; omega
  have f0 : (n == 0) = false := by rw [beq_eq_false_iff_ne]; exact h0
  by_cases h1 : m = 0
  · subst h1
    obtain rfl : r = false := by rw [hr]; simp
    clear hr
    go_enter Try.func53, Try.ntmps53
    go_wp2_with fail
    go_ret
    exact ⟨rfl, rfl⟩
  have e1 : ((m : Int) == 0) = false := by rw [beq_eq_false_iff_ne]; omega
  have f1 : (m == 0) = false := by rw [beq_eq_false_iff_ne]; exact h1
  rw [f0, f1] at hr
  by_cases h2 : a ≤ b
  · have hr2 : r = decide ((b : Int) - (a : Int) < (n : Int)) := by
      rw [hr, if_pos h2]
      show decide (b - a < n) = _
      rw [Bool.eq_iff_iff, decide_eq_true_iff, decide_eq_true_iff]; omega
    have d2 : (a : Int) ≤ (b : Int) := by omega
    have d3 : (0 : Int) ≤ (b : Int) - (a : Int) := by omega
    clear hr
    by_cases h3 : (b : Int) - (a : Int) < (n : Int)
    · obtain rfl : r = true := by rw [hr2]; exact decide_eq_true h3
      clear hr2
      go_enter Try.func53, Try.ntmps53
      go_wp2_with fail
      go_ret
      exact ⟨rfl, rfl⟩
    · obtain rfl : r = false := by rw [hr2]; exact decide_eq_false h3
      clear hr2
      go_enter Try.func53, Try.ntmps53
      go_wp2_with fail
      go_ret
      exact ⟨rfl, rfl⟩
  · have hr2 : r = decide ((a : Int) - (b : Int) < (m : Int)) := by
      rw [hr, if_neg h2]
      show decide (a - b < m) = _
      rw [Bool.eq_iff_iff, decide_eq_true_iff, decide_eq_true_iff]; omega
    have d2 : ¬ (a : Int) ≤ (b : Int) := by omega
    have d3 : (0 : Int) ≤ (a : Int) - (b : Int) := by omega
    clear hr
    by_cases h3 : (a : Int) - (b : Int) < (m : Int)
    · obtain rfl : r = true := by rw [hr2]; exact decide_eq_true h3
      clear hr2
      go_enter Try.func53, Try.ntmps53
      go_wp2_with fail
      go_ret
      exact ⟨rfl, rfl⟩
    · obtain rfl : r = false := by rw [hr2]; exact decide_eq_false h3
      clear hr2
      go_enter Try.func53, Try.ntmps53
      go_wp2_with fail
      go_ret
      exact ⟨rfl, rfl⟩
set_option maxRecDepth 100000 in
set_option maxHeartbeats 16000000 in
theorem apart1_any (A : Option Addr) (cap n : Nat) (l : List Nm) (hn : n = l.length) (hsz : Sized l) (hsh : ShortL (dat l)) (i : Nat) (hi : i < n) (hp : 0 ≤ parAt (dat l) i) (hp2 : parAt (dat l) i < n) (w : World) (B : Nat) (hB : B ≤ w.heap.size) (hs : Nodes w B A l) :
    Calls Try.prog 32 #[.slice A n cap, .int .i64 (i : Nat)] w fun e w' => e = .returned (.bool (apart1B (mapsF (dat l) i))) ∧ Below w.heap.size w w' := by
  have MA := rmaps_any A cap n l hn hsz hsh i hi hp hp2 w B hB hs
  have hgm := maps_goodM (dat l) i
  generalize mapsF (dat l) i = M at *
  obtain ⟨L, same, er⟩ := M
  have MA' : Calls Try.prog 52 #[.slice A n cap, .int .i64 (i : Nat)] w fun e w' => (∃ AL cL, e = .returned (.tuple #[.slice AL L.length cL, .bool same, .int .i64 er]) ∧ w'.ownsRow w.heap.size 84 3 (.slice AL L.length cL) L.length (mpCells L)) ∧ Below w.heap.size w w' := MA
  obtain ⟨N, hN⟩ : ∃ N, N = L.length := ⟨_, rfl⟩
  rw [← hN] at MA'
  have HMA := Lib.hid MA'
  have HGM := Lib.hid hgm
  have HN := Lib.hid hN
  unfold apart1B
  show Calls Try.prog 32 _ _ fun e w' => e = .returned (.bool (er == 0 && apartM L)) ∧ _
  clear MA MA' hgm hsz hsh hs hN hn
  by_cases her : er = 0
  case neg =>
    have d1 : (er == 0) = false := by rw [beq_eq_false_iff_ne]; exact her
    rw [d1]
    show Calls Try.prog 32 _ _ fun e w' => e = .returned (.bool false) ∧ _
    go_enter Try.func32, Try.ntmps32
    go_wp2_with (first
      | (go_at_call 52; refine HMA.out.mono ?_; rintro e w1 ⟨⟨AL, cL, rfl, hown⟩, hb1⟩
         have HB1 := Lib.hid hb1
         clear hb1 hown)
      | fail)
    go_ret
    exact ⟨rfl, HB1.out⟩
  subst her
  show Calls Try.prog 32 _ _ fun e w' => e = .returned (.bool (apartM L)) ∧ _
  have hbad := fun (a b : Nat) (ha : a < L.length) (hb : b < a) (h : mtB L[a] (L[b]'(by omega)) = true) => apartM_bad ha hb h
  have hgood := (apartM_iff (L := L)).2
  obtain ⟨r, hr⟩ : ∃ r, r = apartM L := ⟨_, rfl⟩
  rw [← hr] at hbad hgood ⊢
  have HBAD := Lib.hid hbad
  have HGOOD := Lib.hid hgood
  clear hr hbad hgood
  go_enter Try.func32, Try.ntmps32
  go_wp2_with (first
    | (go_at_call 52; refine HMA.out.mono ?_; rintro e w1 ⟨⟨AL, cL, rfl, hown⟩, hb1⟩
       have HB1 := Lib.hid hb1
       have HO := Lib.hid hown
       clear hb1 hown)
    | fail)
  have hNb : N ≤ maxLen := by
    rcases HO.out.2 with ⟨_, h⟩ | ⟨g, cap, cur, hv, h1, h2, h3, h4, _⟩
    · rw [h]; exact Nat.zero_le _
    · injection hv with _ hv
      exact Nat.le_trans h3 h4
  unfold maxLen at hNb
  go_loopw [8] (fun iv wx => ∃ a : Nat, a ≤ N ∧ iv = .int .i64 a ∧ (∀ (c b : Nat) (hc : c < L.length) (hb : b < c), c < a → mtB L[c] (L[b]'(by omega)) = false) ∧ wx.ownsRow w.heap.size 84 3 (.slice AL N cL) N (mpCells L) ∧ Below w.heap.size w wx) (fun iv _ => N - (intOf iv).toNat)
  case atStart => exact ⟨0, by omega, rfl, fun c b _ _ h => absurd h (Nat.not_lt_zero c), HO.out, HB1.out⟩
  case round =>
    obtain ⟨a, ha, rfl, hok, hown, hb⟩ := hrel
    have HOK := Lib.hid hok
    have HOW := Lib.hid hown
    have HB := Lib.hid hb
    clear hok hown hb
    by_cases haN : a < N
    · have haL : a < L.length := by rw [← HN.out]; exact haN
      have hai : (a : Int) < (N : Int) := by omega
      obtain ⟨g, off, eA, hg, xa⟩ := (own_seg HOW.out).thing (f := mpOne) (m := 3) mp_len (by omega) haL
      subst eA
      go_wp2_with fail
      clear xa hg
      go_loopw [9] (fun iv wx => ∃ b : Nat, b ≤ a ∧ iv = .int .i64 b ∧ (∀ (b' : Nat) (hb : b' < a), b' < b → mtB L[a] (L[b']'(by omega)) = false) ∧ wx.ownsRow w.heap.size 84 3 (.slice (some ⟨g, off, none⟩) N cL) N (mpCells L) ∧ Below w.heap.size w wx) (fun iv _ => a - (intOf iv).toNat)
      case atStart => exact ⟨0, by omega, rfl, fun b' _ h => absurd h (Nat.not_lt_zero b'), HOW.out, HB.out⟩
      case round =>
        clear HOW HB
        obtain ⟨b, hb, rfl, hok2, how, hbb⟩ := hrel
        have HOK2 := Lib.hid hok2
        have HOW := Lib.hid how
        have HB := Lib.hid hbb
        clear hok2 how hbb
        by_cases hba : b < a
        · have hbi : (b : Int) < (a : Int) := by omega
          have hbN : (b : Int) < (N : Int) := by omega
          have hbL : b < L.length := by omega
          obtain ⟨g3, off3, eA, _, xa⟩ := (own_seg HOW.out).thing (f := mpOne) (m := 3) mp_len (by omega) haL
          injection eA with eA
          injection eA with eA1 eA2
          subst eA1 eA2
          obtain ⟨g2, off2, eB, _, xb⟩ := (own_seg HOW.out).thing (f := mpOne) (m := 3) mp_len (by omega) hbL
          injection eB with eB
          injection eB with eB1 eB2
          subst eB1 eB2
          have x0 : wr.cell? ⟨g, off + a * 3, none⟩ = some (.int .u64 (L[a].k : Int)) := xa 0 _ rfl
          have x1 : wr.cell? ⟨g, off + a * 3 + 1, none⟩ = some (.int .u64 (L[a].a : Int)) := xa 1 _ rfl
          have x2 : wr.cell? ⟨g, off + a * 3 + 2, none⟩ = some (.int .u64 (L[a].s : Int)) := xa 2 _ rfl
          have y0 : wr.cell? ⟨g, off + b * 3, none⟩ = some (.int .u64 (L[b].k : Int)) := xb 0 _ rfl
          have y1 : wr.cell? ⟨g, off + b * 3 + 1, none⟩ = some (.int .u64 (L[b].a : Int)) := xb 1 _ rfl
          have y2 : wr.cell? ⟨g, off + b * 3 + 2, none⟩ = some (.int .u64 (L[b].s : Int)) := xb 2 _ rfl
          obtain ⟨_, p1, p2, p3⟩ := HGM.out L[a] (List.getElem_mem haL)
          obtain ⟨_, q1, q2, q3⟩ := HGM.out L[b] (List.getElem_mem hbL)
          have hmt : mtB L[a] L[b] = (meetsB L[a].k L[b].k L[a].s L[b].s || meetsB L[a].a L[b].a L[a].s L[b].s) := rfl
          have hbd := HBAD.out a b haL hba
          have MK0 := fun W => meets_any L[a].k L[b].k L[a].s L[b].s p1 q1 p3 q3 W
          have ML0 := fun W => meets_any L[a].a L[b].a L[a].s L[b].s p2 q2 p3 q3 W
          have HMT := Lib.hid hmt
          have HBD := Lib.hid hbd
          clear hmt hbd xb xa
          obtain ⟨X, hX⟩ : ∃ X, X = meetsB L[a].k L[b].k L[a].s L[b].s := ⟨_, rfl⟩
          obtain ⟨Y, hY⟩ : ∃ Y, Y = meetsB L[a].a L[b].a L[a].s L[b].s := ⟨_, rfl⟩
          rw [← hX] at MK0 HMT
          rw [← hY] at ML0 HMT
          clear hX hY
          generalize L[a].k = ak at *
          generalize L[a].a = aa at *
          generalize L[a].s = az at *
          generalize L[b].k = bk at *
          generalize L[b].a = ba at *
          generalize L[b].s = bz at *
          have MK := Lib.hid MK0
          have ML := Lib.hid ML0
          clear MK0 ML0
          cases X with
          | true =>
            obtain rfl : r = false := HBD.out (by rw [HMT.out]; rfl)
            clear HBAD HGOOD HBD
            go_wp2_with fail
            go_quiet ((go_at_call 53; first | with_reducible exact Calls.quiet_of_same (turn_same (MK.out _)) | with_reducible exact Calls.quiet_of_same (turn_same (ML.out _))))
            go_wp2_with fail
            go_ret
            exact ⟨rfl, below_drewN HB.out _⟩
          | false =>
          cases Y with
          | true =>
            obtain rfl : r = false := HBD.out (by rw [HMT.out]; rfl)
            clear HBAD HGOOD HBD
            go_wp2_with fail
            go_quiet ((go_at_call 53; first | with_reducible exact Calls.quiet_of_same (turn_same (MK.out _)) | with_reducible exact Calls.quiet_of_same (turn_same (ML.out _))))
            go_wp2_with fail
            go_ret
            exact ⟨rfl, below_drewN HB.out _⟩
          | false =>
            have hok3 : ∀ (b' : Nat) (hb : b' < a), b' < b + 1 → mtB L[a] (L[b']'(by omega)) = false := fun b' hb' h => by
              rcases (show b' < b ∨ b' = b by omega) with h2 | rfl
              · exact HOK2.out b' hb' h2
              · exact HMT.out
            have HOK3 := Lib.hid hok3
            clear hok3 HBD
            go_wp2_with fail
            go_quiet ((go_at_call 53; first | with_reducible exact Calls.quiet_of_same (turn_same (MK.out _)) | with_reducible exact Calls.quiet_of_same (turn_same (ML.out _))))
            go_wp2_with fail
            exact ⟨⟨b + 1, by omega, by go_num, HOK3.out, (show (wr.drewN _).ownsRow w.heap.size 84 3 (.slice (some ⟨g, off, none⟩) N cL) N (mpCells L) from HOW.out), below_drewN HB.out _⟩, by simp [intOf]; omega⟩
        · obtain rfl : b = a := by omega
          have hok3 : ∀ (c b' : Nat) (hc : c < L.length) (hb : b' < c), c < b + 1 → mtB L[c] (L[b']'(by omega)) = false := fun c b' hc hb' h => by
            rcases (show c < b ∨ c = b by omega) with h2 | rfl
            · exact HOK.out c b' hc hb' h2
            · exact HOK2.out b' hb' hb'
          have HOK3 := Lib.hid hok3
          clear hok3
          go_wp2_with fail
          exact ⟨⟨b + 1, by omega, by go_num, HOK3.out, HOW.out, HB.out⟩, by simp [intOf]; omega⟩
    · obtain rfl : a = N := by omega
      obtain rfl : r = true := HGOOD.out (fun c b hc hb => HOK.out c b hc hb (by rw [HN.out]; exact hc))
      clear HBAD HGOOD
      go_wp2_with fail
      go_ret
      exact ⟨rfl, HB.out⟩
set_option maxRecDepth 100000 in
set_option maxHeartbeats 16000000 in
theorem apart_any (A : Option Addr) (cap n : Nat) (l : List Nm) (hn : n = l.length) (hsz : Sized l) (hsh : ShortL (dat l)) (hu : Ups (dat l)) (hn5 : n ≤ 512) (i : Nat) (hi : i < n) (w : World) (B : Nat) (hB : B ≤ w.heap.size) (hs : Nodes w B A l) :
    Calls Try.prog 11 #[.slice A n cap, .int .i64 (i : Nat)] w fun e w' => e = .returned (.bool (apartB (dat l) i)) ∧ Below w.heap.size w w' := by
  obtain ⟨r, hr⟩ : ∃ r, r = apartB (dat l) i := ⟨_, rfl⟩
  rw [← hr]
  have CA : ∀ (j : Nat), 0 < j → j < n → ∀ W, Below w.heap.size w W → Calls Try.prog 32 #[.slice A n cap, .int .i64 (j : Nat)] W fun e w' => e = .returned (.bool (apart1B (mapsF (dat l) j))) ∧ Below W.heap.size W w' := fun j h0 hj W hW => by
    have hp := hu j h0 (by rw [dat_len, ← hn]; exact hj)
    exact apart1_any A cap n l hn hsz hsh j hj hp.1 (by omega) W B (Nat.le_trans hB hW.size) (hs.below (hW.mono hB))
  have HCA := Lib.hid CA
  have HN := Lib.hid hn
  have HS := Lib.hid hs
  have HU := Lib.hid hu
  have HR := Lib.hid hr
  clear hr CA hn hsz hsh hs hu
  go_enter Try.func11, Try.ntmps11
  go_wp2_with fail
  go_loopw [1] (fun iv wx => ∃ j : Nat, j ≤ i ∧ iv = .int .i64 j ∧ r = apartB (dat l) j ∧ Below w.heap.size w wx) (fun iv _ => (intOf iv).toNat)
  case atStart => exact ⟨i, Nat.le_refl _, rfl, HR.out, Below.refl _ _⟩
  case round =>
    obtain ⟨j, hj, rfl, hrj, hb⟩ := hrel
    have HB := Lib.hid hb
    have hbs := hb.size
    by_cases h0 : 0 < j
    · have hji : (0 : Int) < (j : Int) := by omega
      have hjn : j < n := by omega
      have hjl : j < l.length := by rw [← HN.out]; exact hjn
      have hjn2 : (j : Int) < (n : Int) := by omega
      have hup := ups_par HU.out h0 (by rw [dat_len]; exact hjl)
      have hst : apartB (dat l) j = (apart1B (mapsF (dat l) j) && apartB (dat l) (parN (dat l) j)) := by
        unfold apartB
        rw [way_step HU.out h0 (by rw [dat_len]; exact hjl), List.all_cons]
      have hpj : l[j].d.p = (parN (dat l) j : Nat) := by rw [← par_get l hjl]; exact hup.2
      have hup1 := hup.1
      obtain ⟨q, hq⟩ : ∃ q, q = parN (dat l) j := ⟨_, rfl⟩
      rw [← hq] at hst hpj hup1
      rw [hst] at hrj
      obtain ⟨b9, off, eA, hbB, x0, _⟩ := (HS.out.below (hb.mono hB)).at_ hjl
      rw [hpj] at x0
      subst eA
      have hb9 : b9 < wr.heap.size := by omega
      have CB := HCA.out j h0 hjn wr hb
      generalize apart1B (mapsF (dat l) j) = X at *
      have HCB := Lib.hid CB
      clear hup hq hpj hb CB hst
      cases X with
      | false =>
        obtain rfl : r = false := hrj
        clear HR
        go_wp2_with (first
          | (go_at_call 32; refine HCB.out.mono ?_; rintro e w2 ⟨rfl, hb2⟩
             have HB2 := Lib.hid (below_next HB.out hb2)
             clear hb2)
          | fail)
        go_ret
        exact ⟨rfl, HB2.out⟩
      | true =>
        have hr2 : r = apartB (dat l) q := hrj
        have HR2 := Lib.hid hr2
        clear hrj hr2 HR
        go_wp2_with (first
          | (go_at_call 32; refine HCB.out.mono ?_; rintro e w2 ⟨rfl, hb2⟩
             have HB2 := Lib.hid (below_next HB.out hb2)
             have y0 : w2.cell? ⟨b9, off + j * 3, none⟩ = some (.int .i64 (q : Int)) := (hb2.cell (p := ⟨b9, off + j * 3, none⟩) hb9).trans x0
             clear hb2)
          | fail)
        exact ⟨⟨q, by omega, rfl, HR2.out, HB2.out⟩, by simp [intOf]; omega⟩
    · obtain rfl : j = 0 := by omega
      obtain rfl : r = true := hrj
      clear HR hb
      go_wp2_with fail
      go_ret
      exact ⟨rfl, HB.out⟩
end Go.Proofs.Ytndocngkganpdaa

set_option linter.unusedVariables false
namespace Go.Proofs.Ytndocngkganpdaa
open Go.RowKit
theorem meets_of {a b n m p : Nat} (h1 : a ≤ p) (h2 : p - a < n) (h3 : b ≤ p) (h4 : p - b < m) : meetsB a b n m = true := by
  unfold meetsB
  rw [show (n == 0) = false from by rw [beq_eq_false_iff_ne]; omega, show (m == 0) = false from by rw [beq_eq_false_iff_ne]; omega]
  by_cases h : a ≤ b
  · rw [if_pos h, decide_eq_true (by omega)]; rfl
  · rw [if_neg h, decide_eq_true (by omega)]; rfl
theorem meets_symm {a b n m : Nat} (h : meetsB a b n m = true) : meetsB b a m n = true := by
  unfold meetsB at h ⊢
  rw [Bool.and_eq_true, Bool.not_eq_true', Bool.or_eq_false_iff, beq_eq_false_iff_ne, beq_eq_false_iff_ne] at h
  obtain ⟨⟨h1, h2⟩, h3⟩ := h
  rw [show (n == 0) = false from by rw [beq_eq_false_iff_ne]; omega, show (m == 0) = false from by rw [beq_eq_false_iff_ne]; omega]
  show (true && _) = true
  rw [Bool.true_and]
  by_cases h : a ≤ b
  · rw [if_pos h, decide_eq_true_iff] at h3
    by_cases h' : b ≤ a
    · rw [if_pos h', decide_eq_true_iff]; omega
    · rw [if_neg h', decide_eq_true_iff]; omega
  · rw [if_neg h, decide_eq_true_iff] at h3
    rw [if_pos (by omega), decide_eq_true_iff]; omega
/-- Of maps apart one alone has a byte. -/
theorem uniq_k {L : List Mp} (h : apartM L = true) {x y : Mp} (hx : x ∈ L) (hy : y ∈ L) {p : Nat} (h1 : x.k ≤ p) (h2 : p - x.k < x.s) (h3 : y.k ≤ p) (h4 : p - y.k < y.s) : x = y := by
  obtain ⟨i, hi, rfl⟩ := List.mem_iff_getElem.1 hx
  obtain ⟨j, hj, rfl⟩ := List.mem_iff_getElem.1 hy
  have ha := apartM_iff.1 h
  rcases (show i < j ∨ i = j ∨ j < i by omega) with hij | rfl | hij
  · have := ha j i hj hij
    unfold mtB at this
    rw [meets_of h3 h4 h1 h2] at this
    cases this
  · rfl
  · have := ha i j hi hij
    unfold mtB at this
    rw [meets_of h1 h2 h3 h4] at this
    cases this
theorem uniq_a {L : List Mp} (h : apartM L = true) {x y : Mp} (hx : x ∈ L) (hy : y ∈ L) {p : Nat} (h1 : x.a ≤ p) (h2 : p - x.a < x.s) (h3 : y.a ≤ p) (h4 : p - y.a < y.s) : x = y := by
  obtain ⟨i, hi, rfl⟩ := List.mem_iff_getElem.1 hx
  obtain ⟨j, hj, rfl⟩ := List.mem_iff_getElem.1 hy
  have ha := apartM_iff.1 h
  rcases (show i < j ∨ i = j ∨ j < i by omega) with hij | rfl | hij
  · have := ha j i hj hij
    unfold mtB at this
    rw [meets_of h3 h4 h1 h2, Bool.or_true] at this
    cases this
  · rfl
  · have := ha i j hi hij
    unfold mtB at this
    rw [meets_of h1 h2 h3 h4, Bool.or_true] at this
    cases this
theorem find_uniq {L : List Mp} {p : Mp → Bool} {x : Mp} (hx : x ∈ L) (hp : p x = true) (hu : ∀ y ∈ L, p y = true → y = x) : L.find? p = some x := by
  cases h : L.find? p with
  | none => rw [List.find?_eq_none] at h; exact absurd hp (h x hx)
  | some y => rw [hu y (List.mem_of_find?_eq_some h) (List.find?_some h)]
theorem within_sp {b s k n : Nat} : withinB b s k n = true ↔ k ≤ b ∧ b - k < n ∧ s ≤ n - (b - k) := by
  unfold withinB
  rw [Bool.and_eq_true, Bool.and_eq_true, decide_eq_true_iff, decide_eq_true_iff, decide_eq_true_iff, and_assoc]
/-- What a step up says of the maps. -/
theorem up_inv {m : List Mp × Bool × Int} {b s u : Nat} (h : upM m b s = (u, 0)) : m.2.2 = 0 ∧ ((m.2.1 = true ∧ u = b) ∨ (m.2.1 = false ∧ ∃ x ∈ m.1, withinB b s x.k x.s = true ∧ u = x.a + (b - x.k))) := by
  unfold upM at h
  by_cases h0 : m.2.2 ≠ 0
  · rw [if_pos h0] at h; injection h with _ h; exact absurd h h0
  · rw [if_neg h0] at h
    refine ⟨by omega, ?_⟩
    cases hm : m.2.1
    · right
      rw [hm] at h
      simp only [Bool.false_eq_true, if_false] at h
      cases hf : m.1.find? fun x => withinB b s x.k x.s with
      | none => rw [hf] at h; injection h with _ h; cases h
      | some x =>
        rw [hf] at h
        injection h with h _
        have hp := List.find?_some hf
        exact ⟨rfl, x, List.mem_of_find?_eq_some hf, hp, h.symm⟩
    · left
      rw [hm] at h
      simp only [if_true] at h
      injection h with h _
      exact ⟨rfl, h.symm⟩
theorem down_inv {m : List Mp × Bool × Int} {b u : Nat} (h : downM m b = (u, 0)) : m.2.2 = 0 ∧ ((m.2.1 = true ∧ u = b) ∨ (m.2.1 = false ∧ ∃ x ∈ m.1, withinB b 1 x.a x.s = true ∧ u = x.k + (b - x.a))) := by
  unfold downM at h
  by_cases h0 : m.2.2 ≠ 0
  · rw [if_pos h0] at h; injection h with _ h; exact absurd h h0
  · rw [if_neg h0] at h
    refine ⟨by omega, ?_⟩
    cases hm : m.2.1
    · right
      rw [hm] at h
      simp only [Bool.false_eq_true, if_false] at h
      cases hf : m.1.find? fun x => withinB b 1 x.a x.s with
      | none => rw [hf] at h; injection h with _ h; cases h
      | some x =>
        rw [hf] at h
        injection h with h _
        have hp := List.find?_some hf
        exact ⟨rfl, x, List.mem_of_find?_eq_some hf, hp, h.symm⟩
    · left
      rw [hm] at h
      simp only [if_true] at h
      injection h with h _
      exact ⟨rfl, h.symm⟩
theorem up_same {m : List Mp × Bool × Int} (h0 : m.2.2 = 0) (h1 : m.2.1 = true) (b s : Nat) : upM m b s = (b, 0) := by
  unfold upM
  rw [if_neg (fun h => h h0), h1]; rfl
theorem down_same {m : List Mp × Bool × Int} (h0 : m.2.2 = 0) (h1 : m.2.1 = true) (b : Nat) : downM m b = (b, 0) := by
  unfold downM
  rw [if_neg (fun h => h h0), h1]; rfl
theorem up_by {m : List Mp × Bool × Int} (h0 : m.2.2 = 0) (h1 : m.2.1 = false) (ha : apartM m.1 = true) {x : Mp} (hx : x ∈ m.1) {b s : Nat} (hs : 1 ≤ s) (hw : withinB b s x.k x.s = true) : upM m b s = (x.a + (b - x.k), 0) := by
  have hw' := within_sp.1 hw
  unfold upM
  rw [if_neg (fun h => h h0), h1]
  simp only [Bool.false_eq_true, if_false]
  rw [find_uniq (p := fun x => withinB b s x.k x.s) hx hw (fun y hy hp => by
    have := within_sp.1 hp
    exact uniq_k ha hy hx (p := b) this.1 this.2.1 hw'.1 hw'.2.1)]
theorem down_by {m : List Mp × Bool × Int} (h0 : m.2.2 = 0) (h1 : m.2.1 = false) (ha : apartM m.1 = true) {x : Mp} (hx : x ∈ m.1) {b : Nat} (hw : withinB b 1 x.a x.s = true) : downM m b = (x.k + (b - x.a), 0) := by
  have hw' := within_sp.1 hw
  unfold downM
  rw [if_neg (fun h => h h0), h1]
  simp only [Bool.false_eq_true, if_false]
  rw [find_uniq (p := fun x => withinB b 1 x.a x.s) hx hw (fun y hy hp => by
    have := within_sp.1 hp
    exact uniq_a ha hy hx (p := b) this.1 this.2.1 hw'.1 hw'.2.1)]
theorem step_updown {m : List Mp × Bool × Int} (ha : apartM m.1 = true) {b u : Nat} (h : upM m b 1 = (u, 0)) : downM m u = (b, 0) := by
  obtain ⟨h0, h1 | ⟨h1, x, hx, hw, rfl⟩⟩ := up_inv h
  · rw [h1.2]; exact down_same h0 h1.1 b
  · have hw' := within_sp.1 hw
    rw [down_by h0 h1 ha hx (within_sp.2 ⟨by omega, by omega, by omega⟩), show x.k + (x.a + (b - x.k) - x.a) = b from by omega]
theorem step_downup {m : List Mp × Bool × Int} (ha : apartM m.1 = true) {b u : Nat} (h : downM m b = (u, 0)) : upM m u 1 = (b, 0) := by
  obtain ⟨h0, h1 | ⟨h1, x, hx, hw, rfl⟩⟩ := down_inv h
  · rw [h1.2]; exact up_same h0 h1.1 b 1
  · have hw' := within_sp.1 hw
    rw [up_by h0 h1 ha hx (Nat.le_refl 1) (within_sp.2 ⟨by omega, by omega, by omega⟩), show x.a + (x.k + (b - x.a) - x.k) = b from by omega]
theorem step_far {m : List Mp × Bool × Int} (ha : apartM m.1 = true) {b s u : Nat} (hs : 1 ≤ s) (h : upM m b s = (u, 0)) : upM m b 1 = (u, 0) ∧ upM m (b + s - 1) 1 = (u + s - 1, 0) := by
  obtain ⟨h0, h1 | ⟨h1, x, hx, hw, rfl⟩⟩ := up_inv h
  · rw [h1.2]; exact ⟨up_same h0 h1.1 b 1, up_same h0 h1.1 _ 1⟩
  · have hw' := within_sp.1 hw
    refine ⟨up_by h0 h1 ha hx (Nat.le_refl 1) (within_sp.2 ⟨by omega, by omega, by omega⟩), ?_⟩
    rw [up_by h0 h1 ha hx (Nat.le_refl 1) (within_sp.2 ⟨by omega, by omega, by omega⟩), show x.a + (b + s - 1 - x.k) = x.a + (b - x.k) + s - 1 from by omega]
theorem apart_step {l : List Nd} (hu : Ups l) {i : Nat} (h0 : 0 < i) (hi : i < l.length) (h : apartB l i = true) : apartM (mapsF l i).1 = true ∧ apartB l (parN l i) = true := by
  unfold apartB at h ⊢
  rw [way_step hu h0 hi, List.all_cons, Bool.and_eq_true] at h
  refine ⟨?_, h.2⟩
  have := h.1
  unfold apart1B at this
  rw [Bool.and_eq_true] at this
  exact this.2
theorem pair_snd {x : Nat × Int} (h : x.2 = 0) : x = (x.1, 0) := by rw [← h]
theorem out_in {l : List Nd} (hu : Ups l) {i b s u : Nat} (h0 : 0 < i) (hi : i < l.length) (h : outF l i b s = (u, 0)) : ∃ q, upM (mapsF l i) b s = (q, 0) ∧ outF l (parN l i) q s = (u, 0) := by
  rw [out_step hu h0 hi] at h
  by_cases h1 : (upF l i b s).2 ≠ 0
  · rw [if_pos h1] at h; injection h with _ h; exact absurd h h1
  · rw [if_neg h1] at h
    exact ⟨(upF l i b s).1, pair_snd (by show (upF l i b s).2 = 0; omega), h⟩
theorem out_of {l : List Nd} (hu : Ups l) {i b s q : Nat} (h0 : 0 < i) (hi : i < l.length) (h : upM (mapsF l i) b s = (q, 0)) : outF l i b s = outF l (parN l i) q s := by
  rw [out_step hu h0 hi]
  unfold upF
  rw [h]
  exact if_neg (fun h => h rfl)
theorem back_out {l : List Nd} (hu : Ups l) : ∀ (i : Nat), i < l.length → apartB l i = true → ∀ (b u : Nat), outF l i b 1 = (u, 0) → downF l i u = (b, 0) := by
  intro i
  induction i using Nat.strongRecOn with
  | ind i ih =>
    intro hi ha b u h
    rcases Nat.eq_zero_or_pos i with rfl | h0
    · rw [out_zero] at h
      injection h with h
      subst h
      rfl
    · obtain ⟨a1, a2⟩ := apart_step hu h0 hi ha
      obtain ⟨q, h1, h2⟩ := out_in hu h0 hi h
      have hp := ups_par hu h0 hi
      rw [down_step hu h0 hi, ih _ hp.1 (by omega) a2 q u h2, if_neg (fun h => h rfl)]
      exact step_updown a1 h1
theorem back_down {l : List Nd} (hu : Ups l) : ∀ (i : Nat), i < l.length → apartB l i = true → ∀ (b u : Nat), downF l i b = (u, 0) → outF l i u 1 = (b, 0) := by
  intro i
  induction i using Nat.strongRecOn with
  | ind i ih =>
    intro hi ha b u h
    rcases Nat.eq_zero_or_pos i with rfl | h0
    · rw [down_zero] at h
      injection h with h
      subst h
      rfl
    · obtain ⟨a1, a2⟩ := apart_step hu h0 hi ha
      have hp := ups_par hu h0 hi
      rw [down_step hu h0 hi] at h
      by_cases h1 : (downF l (parN l i) b).2 ≠ 0
      · rw [if_pos h1] at h; injection h with _ h; exact absurd h h1
      · rw [if_neg h1] at h
        rw [out_of hu h0 hi (step_downup a1 h)]
        exact ih _ hp.1 (by omega) a2 b _ (pair_snd (by omega))
theorem back_far {l : List Nd} (hu : Ups l) : ∀ (i : Nat), i < l.length → apartB l i = true → ∀ (b s u : Nat), 1 ≤ s → outF l i b s = (u, 0) → outF l i b 1 = (u, 0) ∧ outF l i (b + s - 1) 1 = (u + s - 1, 0) := by
  intro i
  induction i using Nat.strongRecOn with
  | ind i ih =>
    intro hi ha b s u hs h
    rcases Nat.eq_zero_or_pos i with rfl | h0
    · rw [out_zero] at h
      injection h with h
      subst h
      exact ⟨rfl, rfl⟩
    · obtain ⟨a1, a2⟩ := apart_step hu h0 hi ha
      obtain ⟨q, h1, h2⟩ := out_in hu h0 hi h
      have hp := ups_par hu h0 hi
      obtain ⟨h3, h4⟩ := step_far a1 hs h1
      rw [out_of hu h0 hi h3, out_of hu h0 hi h4]
      exact ih _ hp.1 (by omega) a2 q s u hs h2
end Go.Proofs.Ytndocngkganpdaa
