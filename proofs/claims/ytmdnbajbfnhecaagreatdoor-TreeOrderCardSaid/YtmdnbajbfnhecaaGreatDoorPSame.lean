/- The program's Same: the contract. -/
import Derived.Test.YtmdnbajbfnhecaaGreatDoorRSame
set_option linter.unusedVariables false
namespace Go.Proofs.YtmdnbajbfnhecaaGreatDoor
open Go.RowKit
/-- slices.Equal of props. -/
theorem eqprops_any (A : Option Addr) (c m : Nat) (ps : List Pr) (hm : m = ps.length) (hl : m ≤ 4398046511104) (A' : Option Addr) (c' m' : Nat) (qs : List Pr) (hm' : m' = qs.length) (w : World) (B : Nat) (hB : B ≤ w.heap.size) (hs : Seg w B A (prCells ps)) (hs' : Seg w B A' (prCells qs)) :
    Calls Tryz.prog 49 #[.slice A m c, .slice A' m' c'] w fun e w' => e = .returned (.bool (sameProps ps qs)) ∧ Below w.heap.size w w' := by
  have hlen : m ≠ m' → sameProps ps qs = false := fun h => sp_len (by rw [← hm, ← hm']; exact h)
  have hbad := fun (i : Nat) (ha : i < ps.length) (hb : i < qs.length) => sp_at (a := ps) (b := qs) ha hb
  have hall := fun h => sp_all (a := ps) (b := qs) h
  obtain ⟨r, hr⟩ : ∃ r, r = sameProps ps qs := ⟨_, rfl⟩
  rw [← hr] at hlen hall ⊢
  simp only [← hr] at hbad
  have HLEN := Lib.hid hlen
  have HALL := Lib.hid hall
  have HBAD := Lib.hid hbad
  have HM := Lib.hid hm
  have HM' := Lib.hid hm'
  have HS := Lib.hid hs
  have HS' := Lib.hid hs'
  clear hlen hall hbad hm hm' hs hs' hr
  by_cases hmm : m = m'
  case neg =>
    obtain rfl : r = false := HLEN.out hmm
    have e1 : ((m : Int) == (m' : Int)) = false := by rw [beq_eq_false_iff_ne]; omega
    have e2 : ((m : Int) != (m' : Int)) = true := by rw [bne_iff_ne]; omega
    go_enter Tryz.func49, Tryz.ntmps49
    go_wp2
    go_ret
    exact ⟨rfl, Below.refl _ _⟩
  subst hmm
  go_enter Tryz.func49, Tryz.ntmps49
  go_wp2
  go_loopw [13] (fun iv wx => ∃ j : Nat, j ≤ m ∧ iv = .int .i64 j ∧ (∀ (i : Nat) (ha : i < ps.length) (hb : i < qs.length), i < j → ps[i].n = qs[i].n ∧ ps[i].v = qs[i].v) ∧ Below w.heap.size w wx) (fun iv _ => m - (intOf iv).toNat)
  case atStart => exact ⟨0, by omega, rfl, fun i _ _ h => absurd h (Nat.not_lt_zero i), Below.refl _ _⟩
  case round =>
    obtain ⟨j, hj, rfl, heq, hbx⟩ := hrel
    have HEQ := Lib.hid heq
    have HBX := Lib.hid hbx
    clear heq hbx
    by_cases hjm : j < m
    · have hjp : j < ps.length := by rw [← HM.out]; exact hjm
      have hjq : j < qs.length := by rw [← HM'.out]; exact hjm
      have hji : (j : Int) < (m : Int) := by omega
      obtain ⟨gx, ox, rfl, _, u0, u1⟩ := (HS.out.below (HBX.out.mono hB)).pr hjp
      obtain ⟨gy, oy, rfl, _, v0, v1⟩ := (HS'.out.below (HBX.out.mono hB)).pr hjq
      have hbad := HBAD.out j hjp hjq
      have hnext : ps[j].n = qs[j].n ∧ ps[j].v = qs[j].v → ∀ (i : Nat) (ha : i < ps.length) (hb : i < qs.length), i < j + 1 → ps[i].n = qs[i].n ∧ ps[i].v = qs[i].v := fun h i ha hb hi => by
        rcases (show i < j ∨ i = j by omega) with h2 | rfl
        · exact HEQ.out i ha hb h2
        · exact h
      generalize ps[j] = x at *
      generalize qs[j] = y at *
      obtain ⟨xn, xv⟩ := x
      obtain ⟨yn, yv⟩ := y
      simp only at u0 u1 v0 v1 hbad hnext
      have HBD := Lib.hid hbad
      have HNX := Lib.hid hnext
      clear hbad hnext
      by_cases h1 : xn = yn
      case neg =>
        obtain rfl : r = false := HBD.out (fun h => h1 h.1)
        have f1 : (xn.toList == yn.toList) = false := str_ne h1
        clear h1
        go_wp2_with fail
        go_quiet (fail)
        go_wp2_with fail
        go_ret
        exact ⟨rfl, below_drewN HBX.out _⟩
      subst h1
      by_cases h1 : xv = yv
      case neg =>
        obtain rfl : r = false := HBD.out (fun h => h1 h.2)
        have f1 : (xv.toList == yv.toList) = false := str_ne h1
        clear h1
        go_wp2_with fail
        go_quiet (fail)
        go_wp2_with fail
        go_ret
        exact ⟨rfl, below_drewN HBX.out _⟩
      subst h1
      have hn2 := HNX.out ⟨by trivial, by trivial⟩
      have HN2 := Lib.hid hn2
      clear hn2
      go_wp2_with fail
      go_quiet (fail)
      go_wp2_with fail
      exact ⟨⟨j + 1, by omega, by go_num, HN2.out, below_drewN HBX.out _⟩, by simp [intOf]; omega⟩
    · obtain rfl : j = m := by omega
      obtain rfl : r = true := HALL.out (by rw [← HM.out, ← HM'.out]) fun i ha hb => HEQ.out i ha hb (by rw [HM.out]; exact ha)
      go_wp2
      go_ret
      exact ⟨rfl, HBX.out⟩
/-- The closure: two nodes alike? -/
theorem same1_any (P Q : Int) (s t : ByteArray) (A : Option Addr) (c m : Nat) (ps : List Pr) (hm : m = ps.length) (hl : m ≤ 4398046511104) (A' : Option Addr) (c' m' : Nat) (qs : List Pr) (hm' : m' = qs.length) (w : World) (B : Nat) (hB : B ≤ w.heap.size) (hs : Seg w B A (prCells ps)) (hs' : Seg w B A' (prCells qs)) :
    Calls Tryz.prog 48 #[.agg #[.int .i64 P, .string s, .slice A m c], .agg #[.int .i64 Q, .string t, .slice A' m' c']] w fun e w' => e = .returned (.bool (sameNode ⟨P, s, ps⟩ ⟨Q, t, qs⟩)) ∧ Below w.heap.size w w' := by
  have hcall : ∀ w1, Below w.heap.size w w1 → Calls Tryz.prog 49 #[.slice A m c, .slice A' m' c'] w1 fun e w' => e = .returned (.bool (sameProps ps qs)) ∧ Below w.heap.size w w' := fun w1 hb =>
    accum (eqprops_any A c m ps hm hl A' c' m' qs hm' w1 B (Nat.le_trans hB hb.size) (hs.below (hb.mono hB)) (hs'.below (hb.mono hB))) hb
  have hsn : sameNode ⟨P, s, ps⟩ ⟨Q, t, qs⟩ = ((P == Q) && decide (s = t) && sameProps ps qs) := rfl
  rw [hsn]
  generalize sameProps ps qs = sp at *
  have hb1 : Below w.heap.size w ((w.alloc (.cells #[.int .i64 P, .string s, .slice A m c] 50)).alloc (.cells #[.int .i64 Q, .string t, .slice A' m' c'] 50)) := ((Below.refl _ _).alloc (Nat.le_refl _) _).alloc (by simp) _
  have HC := Lib.hid hcall
  have HB1 := Lib.hid hb1
  clear hcall hm hm' hs hs' hsn hb1
  by_cases hpq : P = Q
  case neg =>
    have f1 : (P == Q) = false := by simpa using hpq
    rw [f1, Bool.false_and, Bool.false_and]
    clear hpq
    go_enter Tryz.func48, Tryz.ntmps48
    go_wp2
    go_ret
    exact ⟨rfl, HB1.out⟩
  subst hpq
  by_cases hst : s = t
  case neg =>
    have f1 : (s.toList == t.toList) = false := str_ne hst
    rw [decide_eq_false hst, Bool.and_false, Bool.false_and]
    clear hst
    go_enter Tryz.func48, Tryz.ntmps48
    go_wp2
    go_ret
    exact ⟨rfl, HB1.out⟩
  subst hst
  rw [beq_self_eq_true, decide_eq_true rfl, Bool.true_and, Bool.true_and]
  go_enter Tryz.func48, Tryz.ntmps48
  go_wp2_with (first
    | (go_at_call 49; refine (HC.out _ HB1.out).mono ?_; rintro e w1 ⟨rfl, hb2⟩; have HB2 := Lib.hid hb2; clear hb2))
  all_goals go_ret
  all_goals exact ⟨rfl, HB2.out⟩
set_option maxRecDepth 100000 in
set_option maxHeartbeats 2000000 in
theorem eqfunc_any (A : Option Addr) (c n : Nat) (la : List Nm) (hn : n = la.length) (hz : Sized la) (A' : Option Addr) (c' n' : Nat) (lb : List Nm) (hn' : n' = lb.length) (w : World) (B : Nat) (hB : B ≤ w.heap.size) (hs : Nodes w B A la) (hs' : Nodes w B A' lb) :
    Calls Tryz.prog 47 #[.slice A n c, .slice A' n' c', (.func (.func 48) #[] #[])] w fun e w' => e = .returned (.bool (sameB (dat la) (dat lb))) ∧ Below w.heap.size w w' := by
  have hlen : n ≠ n' → sameB (dat la) (dat lb) = false := fun h => sb_len (by rw [dat_len, dat_len, ← hn, ← hn']; exact h)
  have hall : n = n' → (∀ (i : Nat) (ha : i < (dat la).length) (hb : i < (dat lb).length), i < n → sameNode (dat la)[i] (dat lb)[i] = true) → sameB (dat la) (dat lb) = true := fun e h =>
    sb_all (by rw [dat_len, dat_len, ← hn, ← hn']; exact e) fun i ha hb => h i ha hb (by rw [hn, ← dat_len]; exact ha)
  have hone : ∀ (i : Nat) (ha : i < la.length) (hb : i < lb.length), sameNode la[i].d lb[i].d = false → sameB (dat la) (dat lb) = false := fun i ha hb h => by
    refine sb_at (i := i) (by rw [dat_len]; exact ha) (by rw [dat_len]; exact hb) ?_
    rw [dat_get la ha, dat_get lb hb]
    exact h
  have hnn : n ≤ 2932031007403 := by have := hz.n; omega
  obtain ⟨r, hr⟩ : ∃ r, r = sameB (dat la) (dat lb) := ⟨_, rfl⟩
  rw [← hr] at hlen hall hone ⊢
  have HLEN := Lib.hid hlen
  have HALL := Lib.hid hall
  have HONE := Lib.hid hone
  have HN := Lib.hid hn
  have HN' := Lib.hid hn'
  have HZ := Lib.hid hz
  have HS := Lib.hid hs
  have HS' := Lib.hid hs'
  clear hlen hall hone hn hn' hz hs hs' hr
  by_cases hne : n = n'
  case neg =>
    obtain rfl : r = false := HLEN.out hne
    have e1 : ((n : Int) == (n' : Int)) = false := by rw [beq_eq_false_iff_ne]; omega
    have e2 : ((n : Int) != (n' : Int)) = true := by rw [bne_iff_ne]; omega
    go_enter Tryz.func47, Tryz.ntmps47
    go_wp2
    go_ret
    exact ⟨rfl, Below.refl _ _⟩
  subst hne
  go_enter Tryz.func47, Tryz.ntmps47
  go_wp2
  go_loopw [17] (fun iv wr => ∃ k : Nat, k ≤ n ∧ iv = .int .i64 k ∧ (∀ (i : Nat) (ha : i < (dat la).length) (hb : i < (dat lb).length), i < k → sameNode (dat la)[i] (dat lb)[i] = true) ∧ Below w.heap.size w wr) (fun iv _ => n - (intOf iv).toNat)
  case atStart => exact ⟨0, by omega, rfl, fun i _ _ h => absurd h (Nat.not_lt_zero i), Below.refl _ _⟩
  case round =>
    obtain ⟨k, hk, rfl, hok, hb⟩ := hrel
    have HOK := Lib.hid hok
    have HB := Lib.hid hb
    clear hok hb
    by_cases hlt : k < n
    · have hka : k < la.length := by rw [← HN.out]; exact hlt
      have hkb : k < lb.length := by rw [← HN'.out]; exact hlt
      have hki : (k : Int) < (n : Int) := by omega
      obtain ⟨b, off, rfl, hbB, x0, x1, x2, x3⟩ := (HS.out.below (HB.out.mono hB)).at_ hka
      obtain ⟨b', off', rfl, hbB', y0, y1, y2, y3⟩ := (HS'.out.below (HB.out.mono hB)).at_ hkb
      have hpb := HZ.out.props _ (List.getElem_mem hka)
      have hgo : sameNode la[k].d lb[k].d = true → ∀ (i : Nat) (ha : i < (dat la).length) (hb : i < (dat lb).length), i < k + 1 → sameNode (dat la)[i] (dat lb)[i] = true := fun e i ha hb hi => by
        rcases (show i < k ∨ i = k by omega) with h | rfl
        · exact HOK.out i ha hb h
        · rw [dat_get la hka, dat_get lb hkb]; exact e
      have hno := HONE.out k hka hkb
      generalize la[k] = x at *
      generalize lb[k] = y at *
      obtain ⟨⟨P, s, ps⟩, xA, xc⟩ := x
      obtain ⟨⟨Q, t, qs⟩, yA, yc⟩ := y
      simp only at x0 x1 x2 x3 y0 y1 y2 y3 hpb hgo hno
      have hcell : ∀ w1, Below w.heap.size w w1 → w1.cell? ⟨b', off' + k * 3, none⟩ = some (.int .i64 Q) ∧ w1.cell? ⟨b', off' + k * 3 + 1, none⟩ = some (.string t) ∧ w1.cell? ⟨b', off' + k * 3 + 2, none⟩ = some (.slice yA qs.length yc) := fun w1 h1 =>
        ⟨cell_move y0 HB.out h1 (by show b' < w.heap.size; omega), cell_move y1 HB.out h1 (by show b' < w.heap.size; omega), cell_move y2 HB.out h1 (by show b' < w.heap.size; omega)⟩
      have hcall : ∀ w1, Below w.heap.size w w1 → Calls Tryz.prog 48 #[.agg #[.int .i64 P, .string s, .slice xA ps.length xc], .agg #[.int .i64 Q, .string t, .slice yA qs.length yc]] w1 fun e w' => e = .returned (.bool (sameNode ⟨P, s, ps⟩ ⟨Q, t, qs⟩)) ∧ Below w.heap.size w w' := fun w1 h1 =>
        accum (same1_any P Q s t xA xc ps.length ps rfl (by omega) yA yc qs.length qs rfl w1 B (Nat.le_trans hB h1.size) (seg_move x3 HB.out h1 hB) (seg_move y3 HB.out h1 hB)) h1
      generalize sameNode ⟨P, s, ps⟩ ⟨Q, t, qs⟩ = sn at *
      obtain ⟨m, hm⟩ : ∃ m, m = ps.length := ⟨_, rfl⟩
      obtain ⟨m', hm'⟩ : ∃ m', m' = qs.length := ⟨_, rfl⟩
      simp only [← hm, ← hm'] at x2 y2 hcall hpb hcell
      have hb1 : Below w.heap.size w (wr.alloc (.cells #[.int .i64 P, .string s, .slice xA m xc] 50)) := HB.out.alloc HB.out.size _
      have hb2 : Below w.heap.size w ((wr.alloc (.cells #[.int .i64 P, .string s, .slice xA m xc] 50)).alloc (.cells #[.int .i64 Q, .string t, .slice yA m' yc] 50)) := hb1.alloc hb1.size _
      obtain ⟨q0, q1, q2⟩ := hcell _ hb1
      have HC := Lib.hid hcall
      have HGO := Lib.hid hgo
      have HNO := Lib.hid hno
      have HB1 := Lib.hid hb1
      have HB2 := Lib.hid hb2
      clear hcall hgo hno x3 y3 hm hm' hcell hb1 hb2
      rcases sn with _ | _
      · obtain rfl : r = false := HNO.out rfl
        go_wp2_with (first
          | (go_at_call 48; refine (HC.out _ HB2.out).mono ?_; rintro e w1 ⟨rfl, hb3⟩; have HB3 := Lib.hid hb3; clear hb3))
        go_ret
        exact ⟨rfl, HB3.out⟩
      · have hk2 := HGO.out rfl
        have HK2 := Lib.hid hk2
        clear hk2
        go_wp2_with (first
          | (go_at_call 48; refine (HC.out _ HB2.out).mono ?_; rintro e w1 ⟨rfl, hb3⟩; have HB3 := Lib.hid hb3; clear hb3))
        exact ⟨⟨k + 1, by omega, by go_num, HK2.out, HB3.out⟩, by simp [intOf]; omega⟩
    · obtain rfl : k = n := by omega
      obtain rfl : r = true := HALL.out (by trivial) HOK.out
      go_wp2
      go_ret
      exact ⟨rfl, HB.out⟩
set_option maxHeartbeats 2000000 in
theorem psame_any (A : Option Addr) (c n : Nat) (la : List Nm) (hn : n = la.length) (hz : Sized la) (A' : Option Addr) (c' n' : Nat) (lb : List Nm) (hn' : n' = lb.length) (w : World) (B : Nat) (hB : B ≤ w.heap.size) (hs : Nodes w B A la) (hs' : Nodes w B A' lb) :
    Calls Tryz.prog 24 #[.slice A n c, .slice A' n' c'] w fun e w' => e = .returned (.bool (sameB (dat la) (dat lb))) ∧ Below w.heap.size w w' := by
  have h := eqfunc_any A c n la hn hz A' c' n' lb hn' w B hB hs hs'
  have H := Lib.hid h
  clear h hn hz hn' hs hs'
  go_enter Tryz.func24, Tryz.ntmps24
  go_wp2_with (first
    | (go_at_call 47; refine H.out.mono ?_; rintro e w1 ⟨rfl, hb1⟩; have HB1 := Lib.hid hb1; clear hb1))
  go_ret
  exact ⟨rfl, HB1.out⟩
end Go.Proofs.YtmdnbajbfnhecaaGreatDoor
