/- The 3rd document's Tree: the contract. -/
import Derived.BigQuiet
import Derived.Test.YtndocngkganpdaaT3Up
import Derived.Test.YtndocngkganpdaaRefD
import Derived.Test.YtndocngkganpdaaRgLaw
set_option linter.unusedVariables false
namespace Go.Proofs.Ytndocngkganpdaa
open Go.RowKit
theorem tree_no {l : List Nd} {k : Nat} (hk : k < l.length) (h : nodeOkB l k = false) : treeB l = false := by
  unfold treeB checkF
  cases hf : (List.range l.length).find? fun i => !nodeOkB l i with
  | none =>
    have := List.find?_eq_none.1 hf k (by simpa using hk)
    rw [h] at this; simp at this
  | some i => rfl
theorem tree_nil {l : List Nd} (h : l.length = 0) : treeB l = false := by
  unfold treeB
  rw [check_ok (fun j hj => absurd hj (by omega)), if_pos h]
  rfl
theorem tree_yes {l : List Nd} (h : l.length ≠ 0) (hf : Fine l l.length) : treeB l = true := by
  unfold treeB
  rw [check_ok hf, if_neg h]
  rfl
theorem tree_fine {l : List Nd} (h : treeB l = true) : Fine l l.length := fun j hj => by
  cases hb : nodeOkB l j with
  | true => rfl
  | false => rw [tree_no hj hb] at h; cases h
theorem tree_big {l : List Nd} (h : 512 < l.length) : treeB l = false := tree_no (k := 512) h ((fits (i := 512) h).big (Nat.le_refl _))
set_option maxRecDepth 100000 in
set_option maxHeartbeats 16000000 in
theorem tree3_any (A : Option Addr) (cap n : Nat) (l : List Nm) (hn : n = l.length) (hsz : Sized l) (w : World) (B : Nat) (hB : B ≤ w.heap.size) (hs : Nodes w B A l) :
    Calls Try.prog 7 #[.slice A n cap] w fun e w' => e = .returned (.bool (treeB (dat l))) ∧ Below w.heap.size w w' := by
  have hnil := fun h : n = 0 => tree_nil (l := dat l) (by rw [dat_len, ← hn]; exact h)
  have hbig := fun h : 512 < n => tree_big (l := dat l) (by rw [dat_len, ← hn]; exact h)
  have hno := fun (k : Nat) (hk : k < n) (h : nodeOkB (dat l) k = false) => tree_no (l := dat l) (k := k) (by rw [dat_len, ← hn]; exact hk) h
  have hyes := fun (h0 : n ≠ 0) (hf : Fine (dat l) n) => tree_yes (l := dat l) (by rw [dat_len, ← hn]; exact h0) (by rw [dat_len, ← hn]; exact hf)
  have hfit := fun (k : Nat) (hk : k < (dat l).length) => fits (l := dat l) (i := k) hk
  have hnn : n ≤ 2932031007403 := by have := hsz.n; omega
  obtain ⟨r, hr⟩ : ∃ r, r = treeB (dat l) := ⟨_, rfl⟩
  rw [← hr] at hnil hbig hno hyes ⊢
  have HNIL := Lib.hid hnil
  have HBIG := Lib.hid hbig
  have HNO := Lib.hid hno
  have HYES := Lib.hid hyes
  have HFIT := Lib.hid hfit
  have HN := Lib.hid hn
  have HS := Lib.hid hs
  have HSZ := Lib.hid hsz
  clear hnil hbig hno hyes hfit hn hs hr hsz
  by_cases h0 : n = 0
  · obtain rfl : r = false := HNIL.out h0
    subst h0
    go_enter Try.func7, Try.ntmps7
    go_wp2_with fail
    go_ret
    exact ⟨rfl, Below.refl _ _⟩
  by_cases h512 : 512 < n
  · obtain rfl : r = false := HBIG.out h512
    have d0 : ¬ (n : Int) < 1 := by omega
    have d1 : decide (512 < (n : Int)) = true := decide_eq_true (by omega)
    have d2 : (512 : Int) < (n : Int) := by omega
    go_enter Try.func7, Try.ntmps7
    go_wp2_with fail
    go_ret
    exact ⟨rfl, Below.refl _ _⟩
  have d0 : ¬ (n : Int) < 1 := by omega
  have d1 : ¬ (512 : Int) < (n : Int) := by omega
  have d2 : (0 : Int) < (n : Int) := by omega
  have hl0 : 0 < l.length := by rw [← HN.out]; omega
  have F0 := HFIT.out 0 (by rw [dat_len]; exact hl0)
  simp only [dat_get l hl0] at F0
  obtain ⟨b, off, rfl, hbB, x0, x1, x2, hp0⟩ := HS.out.at_ hl0
  obtain ⟨p0, s0, ps0, A0, c0, hnode⟩ : ∃ p0 s0 ps0 A0 c0, l[0] = ⟨⟨p0, s0, ps0⟩, A0, c0⟩ := ⟨_, _, _, _, _, rfl⟩
  have hsz0 := HSZ.out.props l[0] (List.getElem_mem hl0)
  have hsm0 := HSZ.out.small l[0].d (List.mem_map_of_mem (List.getElem_mem hl0))
  rw [hnode] at F0 x0 x1 x2 hp0 hsz0 hsm0
  simp only [Nat.zero_mul, Nat.add_zero] at F0 x0 x1 x2 hp0 hsz0 hsm0
  have HP0 := Lib.hid hp0
  have PR := Lib.hid (fun W (hW : Below w.heap.size w W) => accum (props3_any A0 c0 ps0.length ps0 rfl (by omega) hsm0.2 W B (Nat.le_trans hB hW.size) (hp0.below (hW.mono hB))) hW)
  have F0 := Lib.hid F0
  clear hp0 hsz0 hsm0 hnode
  by_cases hp : p0 = -1
  case neg =>
    have e1 : (p0 == -1) = false := by rw [beq_eq_false_iff_ne]; exact hp
    obtain rfl : r = false := HNO.out 0 (by omega) (by
      cases hpp : propsB ps0 with
      | false => exact F0.out.props hpp
      | true => rw [F0.out.root rfl hpp, e1]; rfl)
    go_enter Try.func7, Try.ntmps7
    go_wp2_with fail
    go_ret
    exact ⟨rfl, Below.refl _ _⟩
  subst hp
  by_cases hs0 : s0.toList = []
  case neg =>
    have e1 : s0.toList.isEmpty = false := by simpa using hs0
    obtain rfl : r = false := HNO.out 0 (by omega) (by
      cases hpp : propsB ps0 with
      | false => exact F0.out.props hpp
      | true => rw [F0.out.root rfl hpp, e1, Bool.and_false])
    go_enter Try.func7, Try.ntmps7
    go_wp2_with fail
    go_ret
    exact ⟨rfl, Below.refl _ _⟩
  have e1 : s0.toList.isEmpty = true := by rw [hs0]; rfl
  by_cases hpp : propsB ps0 = true
  case neg =>
    have hpp2 : propsB ps0 = false := by simpa using hpp
    obtain rfl : r = false := HNO.out 0 (by omega) (F0.out.props hpp2)
    have PR0 := PR.out w (Below.refl _ w)
    rw [hpp2] at PR0
    have PR0 := Lib.hid PR0
    clear hpp hpp2
    go_enter Try.func7, Try.ntmps7
    go_wp2_with (first
      | (go_at_call 24; refine PR0.out.mono ?_; rintro e w1 ⟨rfl, hb1⟩
         have HB1 := Lib.hid hb1
         clear hb1)
      | fail)
    go_ret
    exact ⟨rfl, HB1.out⟩
  have PR0 := PR.out w (Below.refl _ w)
  rw [hpp] at PR0
  have PR0 := Lib.hid PR0
  have hf1 : Fine (dat l) 1 := fun j hj => by
    obtain rfl : j = 0 := by omega
    rw [F0.out.root rfl hpp, e1]; rfl
  have HF1 := Lib.hid hf1
  clear hpp hf1 F0
  go_enter Try.func7, Try.ntmps7
  go_wp2_with (first
    | (go_at_call 24; refine PR0.out.mono ?_; rintro e w1 ⟨rfl, hb1⟩
       have HB1 := Lib.hid hb1
       clear hb1 x0 x1 x2)
    | fail)
  go_loopw [3] (fun iv wx => ∃ k : Nat, 1 ≤ k ∧ k ≤ n ∧ iv = .int .i64 k ∧ Fine (dat l) k ∧ Below w.heap.size w wx) (fun iv _ => n - (intOf iv).toNat)
  case atStart => exact ⟨1, by omega, by omega, rfl, HF1.out, HB1.out⟩
  case round =>
    obtain ⟨k, hk1, hk, rfl, hf, hb⟩ := hrel
    have HF := Lib.hid hf
    have HB := Lib.hid hb
    clear hf hb
    by_cases hlt : k < n
    · have hki : (k : Int) < (n : Int) := by omega
      have hkl : k < l.length := by rw [← HN.out]; exact hlt
      have FK := HFIT.out k (by rw [dat_len]; exact hkl)
      rw [dat_get l hkl] at FK
      obtain ⟨b', off', e9, _, x0, x1, x2, hpk⟩ := (HS.out.below (HB.out.mono hB)).at_ hkl
      injection e9 with e9
      injection e9 with e91 e92
      subst e91 e92
      obtain ⟨p, s, ps, AK, ck, hnode⟩ : ∃ p s ps AK ck, l[k] = ⟨⟨p, s, ps⟩, AK, ck⟩ := ⟨_, _, _, _, _, rfl⟩
      have hszk := HSZ.out.props l[k] (List.getElem_mem hkl)
      have hsmk := HSZ.out.small l[k].d (List.mem_map_of_mem (List.getElem_mem hkl))
      rw [hnode] at FK x0 x1 x2 hpk hszk hsmk
      simp only at FK x0 x1 x2 hpk hszk hsmk
      have hpar : parAt (dat l) k = p := by rw [par_get l hkl, hnode]
      have hnd : n ≤ (dat l).length := by rw [dat_len, ← HN.out]; exact Nat.le_refl _
      have PK0 := fun W (hW : Below w.heap.size w W) => props3_any AK ck ps.length ps rfl (by omega) hsmk.2 W B (Nat.le_trans hB hW.size) ((HS.out.props _ (List.getElem_mem hkl)).below (hW.mono hB) |> fun h => by rw [hnode] at h; exact h)
      have NM0 := fun W => name3_any s W (by unfold maxLen; omega)
      have HND := Lib.hid hnd
      have HPAR := Lib.hid hpar
      have FK := Lib.hid FK
      have NOK := Lib.hid (HNO.out k hlt)
      obtain ⟨q, hq⟩ : ∃ q, q = wr.heap.size := ⟨_, rfl⟩
      have hbw : Below w.heap.size w (wr.alloc (.cells #[.int .i64 p, .string s, .slice AK ps.length ck] 42)) := HB.out.alloc (by exact HB.out.size) _
      have hzw : (wr.alloc (.cells #[.int .i64 p, .string s, .slice AK ps.length ck] 42)).heap[q]? = some (.cells #[.int .i64 p, .string s, .slice AK ps.length ck] 42) := by rw [hq]; exact heap_alloc_new _ _
      have hqw : q < (wr.alloc (.cells #[.int .i64 p, .string s, .slice AK ps.length ck] 42)).heap.size := by rw [hq]; simp
      have HBW := Lib.hid hbw
      have HZ := Lib.hid hzw
      have HQ := Lib.hid hqw
      have HQQ := Lib.hid hq
      clear hbw hzw hqw hpk hszk hsmk hnode hpar hnd
      go_wp2_with fail
      rw [← HQQ.out]
      clear hq x0 x1 x2
      cases hbn : nameB s.data.toList with
      | false =>
        obtain rfl : r = false := NOK.out (FK.out.name (by omega) hbn)
        rw [hbn] at NM0
        have NM := Lib.hid NM0
        clear NM0 PK0 hbn
        go_wp2_with (first
          | (go_at_call 25; refine (NM.out _).mono ?_; rintro e w1 ⟨rfl, hb1⟩
             have HB1 := Lib.hid (HBW.out.trans (hb1.mono HBW.out.size))
             have z1 : w1.heap[q]? = some (.cells #[.int .i64 p, .string s, .slice AK ps.length ck] 42) := (hb1.block _ HQ.out).trans HZ.out
             have HZ1 := Lib.hid z1
             have HQ1 := Lib.hid (Nat.lt_of_lt_of_le HQ.out hb1.size)
             have c0 : w1.cell? ⟨q, 0, none⟩ = some (.int .i64 p) := (by rw [cell_of_row _ _ _ _ _ _ z1]; rfl)
             have c1 : w1.cell? ⟨q, 1, none⟩ = some (.string s) := (by rw [cell_of_row _ _ _ _ _ _ z1]; rfl)
             have c2 : w1.cell? ⟨q, 2, none⟩ = some (.slice AK ps.length ck) := (by rw [cell_of_row _ _ _ _ _ _ z1]; rfl)
             clear hb1 z1)
          | (go_at_call 24; refine (PK.out _ HB1.out).mono ?_; rintro e w2 ⟨rfl, hb2⟩
             have HB2 := Lib.hid (HB1.out.trans (hb2.mono HB1.out.size))
             have z1 : w2.heap[q]? = some (.cells #[.int .i64 p, .string s, .slice AK ps.length ck] 42) := (hb2.block _ HQ1.out).trans HZ1.out
             have HZ2 := Lib.hid z1
             have HQ2 := Lib.hid (Nat.lt_of_lt_of_le HQ1.out hb2.size)
             have c0 : w2.cell? ⟨q, 0, none⟩ = some (.int .i64 p) := (by rw [cell_of_row _ _ _ _ _ _ z1]; rfl)
             have c1 : w2.cell? ⟨q, 1, none⟩ = some (.string s) := (by rw [cell_of_row _ _ _ _ _ _ z1]; rfl)
             have c2 : w2.cell? ⟨q, 2, none⟩ = some (.slice AK ps.length ck) := (by rw [cell_of_row _ _ _ _ _ _ z1]; rfl)
             clear hb2 z1)
          | (go_at_call 26; refine (UP.out _ HB2.out).mono ?_; rintro e w3 ⟨rfl, rfl⟩)
          | (go_at_call 27; refine (DP.out _ HB2.out).mono ?_; rintro e w3 ⟨rfl, rfl⟩)
          | fail)
        go_ret
        exact ⟨rfl, HB1.out⟩
      | true =>
      rw [hbn] at NM0
      have NM := Lib.hid NM0
      cases hbp : propsB ps with
      | false =>
        obtain rfl : r = false := NOK.out (FK.out.props hbp)
        rw [hbp] at PK0
        have PK := Lib.hid PK0
        clear NM0 PK0 hbn hbp
        go_wp2_with (first
          | (go_at_call 25; refine (NM.out _).mono ?_; rintro e w1 ⟨rfl, hb1⟩
             have HB1 := Lib.hid (HBW.out.trans (hb1.mono HBW.out.size))
             have z1 : w1.heap[q]? = some (.cells #[.int .i64 p, .string s, .slice AK ps.length ck] 42) := (hb1.block _ HQ.out).trans HZ.out
             have HZ1 := Lib.hid z1
             have HQ1 := Lib.hid (Nat.lt_of_lt_of_le HQ.out hb1.size)
             have c0 : w1.cell? ⟨q, 0, none⟩ = some (.int .i64 p) := (by rw [cell_of_row _ _ _ _ _ _ z1]; rfl)
             have c1 : w1.cell? ⟨q, 1, none⟩ = some (.string s) := (by rw [cell_of_row _ _ _ _ _ _ z1]; rfl)
             have c2 : w1.cell? ⟨q, 2, none⟩ = some (.slice AK ps.length ck) := (by rw [cell_of_row _ _ _ _ _ _ z1]; rfl)
             clear hb1 z1)
          | (go_at_call 24; refine (PK.out _ HB1.out).mono ?_; rintro e w2 ⟨rfl, hb2⟩
             have HB2 := Lib.hid (HB1.out.trans (hb2.mono HB1.out.size))
             have z1 : w2.heap[q]? = some (.cells #[.int .i64 p, .string s, .slice AK ps.length ck] 42) := (hb2.block _ HQ1.out).trans HZ1.out
             have HZ2 := Lib.hid z1
             have HQ2 := Lib.hid (Nat.lt_of_lt_of_le HQ1.out hb2.size)
             have c0 : w2.cell? ⟨q, 0, none⟩ = some (.int .i64 p) := (by rw [cell_of_row _ _ _ _ _ _ z1]; rfl)
             have c1 : w2.cell? ⟨q, 1, none⟩ = some (.string s) := (by rw [cell_of_row _ _ _ _ _ _ z1]; rfl)
             have c2 : w2.cell? ⟨q, 2, none⟩ = some (.slice AK ps.length ck) := (by rw [cell_of_row _ _ _ _ _ _ z1]; rfl)
             clear hb2 z1)
          | (go_at_call 26; refine (UP.out _ HB2.out).mono ?_; rintro e w3 ⟨rfl, rfl⟩)
          | (go_at_call 27; refine (DP.out _ HB2.out).mono ?_; rintro e w3 ⟨rfl, rfl⟩)
          | fail)
        go_ret
        exact ⟨rfl, HB2.out⟩
      | true =>
      rw [hbp] at PK0
      have PK := Lib.hid PK0
      have HBN := Lib.hid hbn
      have HBP := Lib.hid hbp
      clear NM0 PK0 hbn hbp
      by_cases hp0 : p < 0
      · obtain rfl : r = false := NOK.out (FK.out.neg (by omega) hp0)
        have e1 : decide (p < 0) = true := decide_eq_true hp0
        go_wp2_with (first
          | (go_at_call 25; refine (NM.out _).mono ?_; rintro e w1 ⟨rfl, hb1⟩
             have HB1 := Lib.hid (HBW.out.trans (hb1.mono HBW.out.size))
             have z1 : w1.heap[q]? = some (.cells #[.int .i64 p, .string s, .slice AK ps.length ck] 42) := (hb1.block _ HQ.out).trans HZ.out
             have HZ1 := Lib.hid z1
             have HQ1 := Lib.hid (Nat.lt_of_lt_of_le HQ.out hb1.size)
             have c0 : w1.cell? ⟨q, 0, none⟩ = some (.int .i64 p) := (by rw [cell_of_row _ _ _ _ _ _ z1]; rfl)
             have c1 : w1.cell? ⟨q, 1, none⟩ = some (.string s) := (by rw [cell_of_row _ _ _ _ _ _ z1]; rfl)
             have c2 : w1.cell? ⟨q, 2, none⟩ = some (.slice AK ps.length ck) := (by rw [cell_of_row _ _ _ _ _ _ z1]; rfl)
             clear hb1 z1)
          | (go_at_call 24; refine (PK.out _ HB1.out).mono ?_; rintro e w2 ⟨rfl, hb2⟩
             have HB2 := Lib.hid (HB1.out.trans (hb2.mono HB1.out.size))
             have z1 : w2.heap[q]? = some (.cells #[.int .i64 p, .string s, .slice AK ps.length ck] 42) := (hb2.block _ HQ1.out).trans HZ1.out
             have HZ2 := Lib.hid z1
             have HQ2 := Lib.hid (Nat.lt_of_lt_of_le HQ1.out hb2.size)
             have c0 : w2.cell? ⟨q, 0, none⟩ = some (.int .i64 p) := (by rw [cell_of_row _ _ _ _ _ _ z1]; rfl)
             have c1 : w2.cell? ⟨q, 1, none⟩ = some (.string s) := (by rw [cell_of_row _ _ _ _ _ _ z1]; rfl)
             have c2 : w2.cell? ⟨q, 2, none⟩ = some (.slice AK ps.length ck) := (by rw [cell_of_row _ _ _ _ _ _ z1]; rfl)
             clear hb2 z1)
          | (go_at_call 26; refine (UP.out _ HB2.out).mono ?_; rintro e w3 ⟨rfl, rfl⟩)
          | (go_at_call 27; refine (DP.out _ HB2.out).mono ?_; rintro e w3 ⟨rfl, rfl⟩)
          | fail)
        go_ret
        exact ⟨rfl, HB2.out⟩
      have e2 : decide (p < 0) = false := decide_eq_false hp0
      by_cases hpk : p < (k : Int)
      case neg =>
        obtain rfl : r = false := NOK.out (FK.out.late (by omega) (by omega))
        have e1 : decide ((k : Int) ≤ p) = true := decide_eq_true (by omega)
        have e3 : (k : Int) ≤ p := by omega
        go_wp2_with (first
          | (go_at_call 25; refine (NM.out _).mono ?_; rintro e w1 ⟨rfl, hb1⟩
             have HB1 := Lib.hid (HBW.out.trans (hb1.mono HBW.out.size))
             have z1 : w1.heap[q]? = some (.cells #[.int .i64 p, .string s, .slice AK ps.length ck] 42) := (hb1.block _ HQ.out).trans HZ.out
             have HZ1 := Lib.hid z1
             have HQ1 := Lib.hid (Nat.lt_of_lt_of_le HQ.out hb1.size)
             have c0 : w1.cell? ⟨q, 0, none⟩ = some (.int .i64 p) := (by rw [cell_of_row _ _ _ _ _ _ z1]; rfl)
             have c1 : w1.cell? ⟨q, 1, none⟩ = some (.string s) := (by rw [cell_of_row _ _ _ _ _ _ z1]; rfl)
             have c2 : w1.cell? ⟨q, 2, none⟩ = some (.slice AK ps.length ck) := (by rw [cell_of_row _ _ _ _ _ _ z1]; rfl)
             clear hb1 z1)
          | (go_at_call 24; refine (PK.out _ HB1.out).mono ?_; rintro e w2 ⟨rfl, hb2⟩
             have HB2 := Lib.hid (HB1.out.trans (hb2.mono HB1.out.size))
             have z1 : w2.heap[q]? = some (.cells #[.int .i64 p, .string s, .slice AK ps.length ck] 42) := (hb2.block _ HQ1.out).trans HZ1.out
             have HZ2 := Lib.hid z1
             have HQ2 := Lib.hid (Nat.lt_of_lt_of_le HQ1.out hb2.size)
             have c0 : w2.cell? ⟨q, 0, none⟩ = some (.int .i64 p) := (by rw [cell_of_row _ _ _ _ _ _ z1]; rfl)
             have c1 : w2.cell? ⟨q, 1, none⟩ = some (.string s) := (by rw [cell_of_row _ _ _ _ _ _ z1]; rfl)
             have c2 : w2.cell? ⟨q, 2, none⟩ = some (.slice AK ps.length ck) := (by rw [cell_of_row _ _ _ _ _ _ z1]; rfl)
             clear hb2 z1)
          | (go_at_call 26; refine (UP.out _ HB2.out).mono ?_; rintro e w3 ⟨rfl, rfl⟩)
          | (go_at_call 27; refine (DP.out _ HB2.out).mono ?_; rintro e w3 ⟨rfl, rfl⟩)
          | fail)
        go_ret
        exact ⟨rfl, HB2.out⟩
      have e3 : decide ((k : Int) ≤ p) = false := decide_eq_false (by omega)
      have e4 : ¬ (k : Int) ≤ p := by omega
      have UP0 : ∀ W, Below w.heap.size w W → Calls Try.prog 26 #[.slice (some ⟨b, off, none⟩) n cap, .int .i64 p, .int .i64 ((k : Int) - 1)] W fun e w' => e = .returned (.bool ((above (dat l) ((k : Int) - 1)).contains p)) ∧ W = w' := fun W hW => up3_any (some ⟨b, off, none⟩) cap n l HN.out (by omega) p (fun j => (above (dat l) j).contains p) k (by omega) (fun j hj => by show (above (dat l) j).contains p = false; rw [above_neg _ hj]; rfl) (fun j hj => ⟨(fine_par HF.out hj (by have := HND.out; omega)).1, by
        show (above (dat l) j).contains p = _
        rw [above_step HF.out (by have := HND.out; omega) hj, List.contains_cons]
        rw [show ((j : Int) == p) = (p == (j : Int)) from by rw [Bool.eq_iff_iff, beq_iff_eq, beq_iff_eq]; exact eq_comm]⟩) ((k : Int) - 1) (by omega) W B (HS.out.below (hW.mono hB))
      cases hbc : (above (dat l) ((k : Int) - 1)).contains p with
      | false =>
        obtain rfl : r = false := NOK.out (FK.out.path (by omega) hbc)
        rw [hbc] at UP0
        have UP := Lib.hid UP0
        clear UP0 hbc
        go_wp2_with (first
          | (go_at_call 25; refine (NM.out _).mono ?_; rintro e w1 ⟨rfl, hb1⟩
             have HB1 := Lib.hid (HBW.out.trans (hb1.mono HBW.out.size))
             have z1 : w1.heap[q]? = some (.cells #[.int .i64 p, .string s, .slice AK ps.length ck] 42) := (hb1.block _ HQ.out).trans HZ.out
             have HZ1 := Lib.hid z1
             have HQ1 := Lib.hid (Nat.lt_of_lt_of_le HQ.out hb1.size)
             have c0 : w1.cell? ⟨q, 0, none⟩ = some (.int .i64 p) := (by rw [cell_of_row _ _ _ _ _ _ z1]; rfl)
             have c1 : w1.cell? ⟨q, 1, none⟩ = some (.string s) := (by rw [cell_of_row _ _ _ _ _ _ z1]; rfl)
             have c2 : w1.cell? ⟨q, 2, none⟩ = some (.slice AK ps.length ck) := (by rw [cell_of_row _ _ _ _ _ _ z1]; rfl)
             clear hb1 z1)
          | (go_at_call 24; refine (PK.out _ HB1.out).mono ?_; rintro e w2 ⟨rfl, hb2⟩
             have HB2 := Lib.hid (HB1.out.trans (hb2.mono HB1.out.size))
             have z1 : w2.heap[q]? = some (.cells #[.int .i64 p, .string s, .slice AK ps.length ck] 42) := (hb2.block _ HQ1.out).trans HZ1.out
             have HZ2 := Lib.hid z1
             have HQ2 := Lib.hid (Nat.lt_of_lt_of_le HQ1.out hb2.size)
             have c0 : w2.cell? ⟨q, 0, none⟩ = some (.int .i64 p) := (by rw [cell_of_row _ _ _ _ _ _ z1]; rfl)
             have c1 : w2.cell? ⟨q, 1, none⟩ = some (.string s) := (by rw [cell_of_row _ _ _ _ _ _ z1]; rfl)
             have c2 : w2.cell? ⟨q, 2, none⟩ = some (.slice AK ps.length ck) := (by rw [cell_of_row _ _ _ _ _ _ z1]; rfl)
             clear hb2 z1)
          | (go_at_call 26; refine (UP.out _ HB2.out).mono ?_; rintro e w3 ⟨rfl, rfl⟩)
          | (go_at_call 27; refine (DP.out _ HB2.out).mono ?_; rintro e w3 ⟨rfl, rfl⟩)
          | fail)
        go_ret
        exact ⟨rfl, HB2.out⟩
      | true =>
      rw [hbc] at UP0
      have UP := Lib.hid UP0
      have HBC := Lib.hid hbc
      clear UP0 hbc
      have hdd : (above (dat l) p).length ≤ k := by
        obtain ⟨pn, rfl⟩ := Int.eq_ofNat_of_zero_le (show 0 ≤ p by omega)
        have := above_len HF.out (by have := HND.out; omega) pn (by omega)
        omega
      have DP0 : ∀ W, Below w.heap.size w W → Calls Try.prog 27 #[.slice (some ⟨b, off, none⟩) n cap, .int .i64 (k : Nat)] W fun e w' => e = .returned (.int .i64 (((above (dat l) p).length + 1 : Nat))) ∧ W = w' := fun W hW => (depth3_any (some ⟨b, off, none⟩) cap n l HN.out (by omega) (fun j => if j = (k : Int) then (above (dat l) p).length + 1 else (above (dat l) j).length) (k + 1) (by omega) (fun j hj => by
        show (if j = (k : Int) then _ else _) = 0
        rw [if_neg (by omega), above_neg _ hj]; rfl) (fun j hj => by
        by_cases hjk : j = k
        · subst hjk
          rw [HPAR.out]
          refine ⟨hpk, ?_⟩
          show (if (j : Int) = (j : Int) then _ else _) = 1 + (if p = (j : Int) then _ else _)
          rw [if_pos rfl, if_neg (by omega)]; omega
        · have hj2 : j < k := by omega
          have hfp := fine_par HF.out hj2 (by have := HND.out; omega)
          refine ⟨hfp.1, ?_⟩
          show (if (j : Int) = (k : Int) then _ else _) = 1 + (if parAt (dat l) j = (k : Int) then _ else _)
          rw [if_neg (by omega), if_neg (by omega), above_step HF.out (by have := HND.out; omega) hj2, List.length_cons]; omega) k (by omega) (by
        show (if (k : Int) = (k : Int) then _ else _) ≤ _
        rw [if_pos rfl]; omega) W B (HS.out.below (hW.mono hB))).mono fun e w' h => ⟨h.1.trans (by
          show Ending.returned (.int .i64 ((if (k : Int) = (k : Int) then (above (dat l) p).length + 1 else (above (dat l) k).length : Nat) : Int)) = _
          rw [if_pos rfl]), h.2⟩
      obtain ⟨dd, hd⟩ : ∃ dd, dd = (above (dat l) p).length + 1 := ⟨_, rfl⟩
      rw [← hd] at DP0
      have DP := Lib.hid DP0
      have HD := Lib.hid hd
      have hdk : dd ≤ k + 1 := by omega
      clear DP0 hd hdd
      by_cases hd16 : 16 < dd
      · obtain rfl : r = false := NOK.out (FK.out.deep (by omega) (by rw [← HD.out]; exact hd16))
        have e5 : decide ((16 : Int) < (dd : Int)) = true := decide_eq_true (by omega)
        go_wp2_with (first
          | (go_at_call 25; refine (NM.out _).mono ?_; rintro e w1 ⟨rfl, hb1⟩
             have HB1 := Lib.hid (HBW.out.trans (hb1.mono HBW.out.size))
             have z1 : w1.heap[q]? = some (.cells #[.int .i64 p, .string s, .slice AK ps.length ck] 42) := (hb1.block _ HQ.out).trans HZ.out
             have HZ1 := Lib.hid z1
             have HQ1 := Lib.hid (Nat.lt_of_lt_of_le HQ.out hb1.size)
             have c0 : w1.cell? ⟨q, 0, none⟩ = some (.int .i64 p) := (by rw [cell_of_row _ _ _ _ _ _ z1]; rfl)
             have c1 : w1.cell? ⟨q, 1, none⟩ = some (.string s) := (by rw [cell_of_row _ _ _ _ _ _ z1]; rfl)
             have c2 : w1.cell? ⟨q, 2, none⟩ = some (.slice AK ps.length ck) := (by rw [cell_of_row _ _ _ _ _ _ z1]; rfl)
             clear hb1 z1)
          | (go_at_call 24; refine (PK.out _ HB1.out).mono ?_; rintro e w2 ⟨rfl, hb2⟩
             have HB2 := Lib.hid (HB1.out.trans (hb2.mono HB1.out.size))
             have z1 : w2.heap[q]? = some (.cells #[.int .i64 p, .string s, .slice AK ps.length ck] 42) := (hb2.block _ HQ1.out).trans HZ1.out
             have HZ2 := Lib.hid z1
             have HQ2 := Lib.hid (Nat.lt_of_lt_of_le HQ1.out hb2.size)
             have c0 : w2.cell? ⟨q, 0, none⟩ = some (.int .i64 p) := (by rw [cell_of_row _ _ _ _ _ _ z1]; rfl)
             have c1 : w2.cell? ⟨q, 1, none⟩ = some (.string s) := (by rw [cell_of_row _ _ _ _ _ _ z1]; rfl)
             have c2 : w2.cell? ⟨q, 2, none⟩ = some (.slice AK ps.length ck) := (by rw [cell_of_row _ _ _ _ _ _ z1]; rfl)
             clear hb2 z1)
          | (go_at_call 26; refine (UP.out _ HB2.out).mono ?_; rintro e w3 ⟨rfl, rfl⟩)
          | (go_at_call 27; refine (DP.out _ HB2.out).mono ?_; rintro e w3 ⟨rfl, rfl⟩)
          | fail)
        go_ret
        exact ⟨rfl, HB2.out⟩
      have e5 : decide ((16 : Int) < (dd : Int)) = false := decide_eq_false (by omega)
      go_wp2_with (first
        | (go_at_call 25; refine (NM.out _).mono ?_; rintro e w1 ⟨rfl, hb1⟩
           have HB1 := Lib.hid (HBW.out.trans (hb1.mono HBW.out.size))
           have z1 : w1.heap[q]? = some (.cells #[.int .i64 p, .string s, .slice AK ps.length ck] 42) := (hb1.block _ HQ.out).trans HZ.out
           have HZ1 := Lib.hid z1
           have HQ1 := Lib.hid (Nat.lt_of_lt_of_le HQ.out hb1.size)
           have c0 : w1.cell? ⟨q, 0, none⟩ = some (.int .i64 p) := (by rw [cell_of_row _ _ _ _ _ _ z1]; rfl)
           have c1 : w1.cell? ⟨q, 1, none⟩ = some (.string s) := (by rw [cell_of_row _ _ _ _ _ _ z1]; rfl)
           have c2 : w1.cell? ⟨q, 2, none⟩ = some (.slice AK ps.length ck) := (by rw [cell_of_row _ _ _ _ _ _ z1]; rfl)
           clear hb1 z1)
        | (go_at_call 24; refine (PK.out _ HB1.out).mono ?_; rintro e w2 ⟨rfl, hb2⟩
           have HB2 := Lib.hid (HB1.out.trans (hb2.mono HB1.out.size))
           have z1 : w2.heap[q]? = some (.cells #[.int .i64 p, .string s, .slice AK ps.length ck] 42) := (hb2.block _ HQ1.out).trans HZ1.out
           have HZ2 := Lib.hid z1
           have HQ2 := Lib.hid (Nat.lt_of_lt_of_le HQ1.out hb2.size)
           have c0 : w2.cell? ⟨q, 0, none⟩ = some (.int .i64 p) := (by rw [cell_of_row _ _ _ _ _ _ z1]; rfl)
           have c1 : w2.cell? ⟨q, 1, none⟩ = some (.string s) := (by rw [cell_of_row _ _ _ _ _ _ z1]; rfl)
           have c2 : w2.cell? ⟨q, 2, none⟩ = some (.slice AK ps.length ck) := (by rw [cell_of_row _ _ _ _ _ _ z1]; rfl)
           clear hb2 z1)
        | (go_at_call 26; refine (UP.out _ HB2.out).mono ?_; rintro e w3 ⟨rfl, rfl⟩)
        | (go_at_call 27; refine (DP.out _ HB2.out).mono ?_; rintro e w3 ⟨rfl, rfl⟩)
        | fail)
      clear c0 c1 c2
      go_loopw [5] (fun iv wx => ∃ j : Nat, 1 ≤ j ∧ j ≤ k ∧ iv = .int .i64 j ∧ (∀ (i : Nat) (h : i < (dat l).length), 1 ≤ i → i < j → (dat l)[i].p = p → (dat l)[i].n ≠ s) ∧ Below w.heap.size w wx ∧ wx.heap[q]? = some (.cells #[.int .i64 p, .string s, .slice AK ps.length ck] 42)) (fun iv _ => k - (intOf iv).toNat)
      case atStart => exact ⟨1, by omega, by omega, rfl, fun i _ _ _ => by omega, HB2.out, HZ2.out⟩
      case round =>
        obtain ⟨j, hj1, hj, rfl, hap, hbx, hzx⟩ := hrel
        have HAP := Lib.hid hap
        have HX := Lib.hid hbx
        have HZX := Lib.hid hzx
        clear hap hbx
        by_cases hjk : j < k
        · have hjl : j < l.length := by omega
          have hjd : j < (dat l).length := by have := HND.out; omega
          have hjn : (j : Int) < (n : Int) := by omega
          have hji : (j : Int) < (k : Int) := by omega
          obtain ⟨b', off', e9, _, y0, y1, _, _⟩ := (HS.out.below (HX.out.mono hB)).at_ hjl
          injection e9 with e9
          injection e9 with e91 e92
          subst e91 e92
          have ht := FK.out.twin j hjd hj1 hjk
          rw [dat_get l hjl] at ht
          have hnx : (l[j].d.p = p → l[j].d.n ≠ s) → ∀ (i : Nat) (h : i < (dat l).length), 1 ≤ i → i < j + 1 → (dat l)[i].p = p → (dat l)[i].n ≠ s := fun hh i h h1 h2 => by
            rcases (show i < j ∨ i = j by omega) with h3 | rfl
            · exact HAP.out i h h1 h3
            · rw [dat_get l hjl]; exact hh
          generalize l[j].d.p = pj at *
          generalize l[j].d.n = sj at *
          have c0 : wr.cell? ⟨q, 0, none⟩ = some (.int .i64 p) := (by rw [cell_of_row _ _ _ _ _ _ hzx]; rfl)
          have c1 : wr.cell? ⟨q, 1, none⟩ = some (.string s) := (by rw [cell_of_row _ _ _ _ _ _ hzx]; rfl)
          have c2 : wr.cell? ⟨q, 2, none⟩ = some (.slice AK ps.length ck) := (by rw [cell_of_row _ _ _ _ _ _ hzx]; rfl)
          clear hzx
          have HT := Lib.hid ht
          have HNX := Lib.hid hnx
          clear ht hnx
          by_cases hpp : pj = p
          · by_cases hss : sj = s
            · obtain rfl : r = false := NOK.out (HT.out hpp hss)
              subst hpp
              subst hss
              have g1 : (pj == pj) = true := beq_self_eq_true _
              go_wp2_with fail
              go_quiet (fail)
              go_wp2_with fail
              go_ret
              exact ⟨rfl, below_drewN HX.out _⟩
            · have HH := Lib.hid (HNX.out fun _ => hss)
              subst hpp
              have g1 : (pj == pj) = true := beq_self_eq_true _
              have g2 := str_ne hss
              clear hss
              go_wp2_with fail
              go_quiet (fail)
              go_wp2_with fail
              exact ⟨⟨j + 1, by omega, by omega, by go_num, HH.out, below_drewN HX.out _, HZX.out⟩, by simp [intOf]; omega⟩
          · have HH := Lib.hid (HNX.out fun h => absurd h hpp)
            have g1 : (pj == p) = false := by rw [beq_eq_false_iff_ne]; exact hpp
            clear hpp
            go_wp2_with fail
            go_quiet (fail)
            go_wp2_with fail
            exact ⟨⟨j + 1, by omega, by omega, by go_num, HH.out, below_drewN HX.out _, HZX.out⟩, by simp [intOf]; omega⟩
        · obtain rfl : j = k := by omega
          have hok : nodeOkB (dat l) j = true := FK.out.ok (by omega) (by omega) HBP.out HBN.out (by omega) hpk HBC.out (by rw [← HD.out]; omega) (fun i h h1 h2 => HAP.out i h h1 h2)
          have hf2 : Fine (dat l) (j + 1) := fun i hi => by
            rcases (show i < j ∨ i = j by omega) with h2 | rfl
            · exact HF.out i h2
            · exact hok
          have HF2 := Lib.hid hf2
          clear hf2 hok hzx
          go_wp2_with fail
          go_roundw
          case rel => exact ⟨j + 1, by omega, by omega, by go_num, HF2.out, HX.out⟩
          case measure => simp [intOf]; omega
    · obtain rfl : k = n := by omega
      obtain rfl : r = true := HYES.out (by omega) HF.out
      go_wp2_with fail
      go_ret
      exact ⟨rfl, HB.out⟩
end Go.Proofs.Ytndocngkganpdaa
