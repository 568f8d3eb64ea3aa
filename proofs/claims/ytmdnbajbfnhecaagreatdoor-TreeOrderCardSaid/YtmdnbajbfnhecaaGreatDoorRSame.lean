/- The document's Same: the contract. -/
import Derived.Test.YtmdnbajbfnhecaaGreatDoorOwn
set_option linter.unusedVariables false
namespace Go.Proofs.YtmdnbajbfnhecaaGreatDoor
open Go.RowKit
/-! The plain law of 'the same'. -/
theorem sp_len {a b : List Pr} (h : a.length ≠ b.length) : sameProps a b = false := by
  unfold sameProps
  rw [beq_eq_false_iff_ne.2 h]; rfl
theorem sp_at {a b : List Pr} {i : Nat} (ha : i < a.length) (hb : i < b.length) (h : ¬ (a[i].n = b[i].n ∧ a[i].v = b[i].v)) : sameProps a b = false := by
  unfold sameProps
  rw [Bool.and_eq_false_iff]
  right
  rw [Bool.eq_false_iff]
  intro hh
  have := all_range.1 hh i ha
  rw [List.getElem?_eq_getElem ha, List.getElem?_eq_getElem hb] at this
  simp only [Bool.and_eq_true, decide_eq_true_eq] at this
  exact h this
theorem sp_all {a b : List Pr} (hl : a.length = b.length) (h : ∀ (i : Nat) (ha : i < a.length) (hb : i < b.length), a[i].n = b[i].n ∧ a[i].v = b[i].v) : sameProps a b = true := by
  unfold sameProps
  rw [hl, beq_self_eq_true, Bool.true_and]
  rw [← hl, all_range]
  intro i hi
  rw [List.getElem?_eq_getElem hi, List.getElem?_eq_getElem (by omega)]
  simpa using h i hi (by omega)
theorem sb_len {a b : List Nd} (h : a.length ≠ b.length) : sameB a b = false := by
  unfold sameB
  rw [beq_eq_false_iff_ne.2 h]; rfl
theorem sb_at {a b : List Nd} {i : Nat} (ha : i < a.length) (hb : i < b.length) (h : sameNode a[i] b[i] = false) : sameB a b = false := by
  unfold sameB
  rw [Bool.and_eq_false_iff]
  right
  rw [Bool.eq_false_iff]
  intro hh
  have := all_range.1 hh i ha
  rw [List.getElem?_eq_getElem ha, List.getElem?_eq_getElem hb] at this
  simp only at this
  rw [h] at this
  cases this
theorem sb_all {a b : List Nd} (hl : a.length = b.length) (h : ∀ (i : Nat) (ha : i < a.length) (hb : i < b.length), sameNode a[i] b[i] = true) : sameB a b = true := by
  unfold sameB
  rw [hl, beq_self_eq_true, Bool.true_and]
  rw [← hl, all_range]
  intro i hi
  rw [List.getElem?_eq_getElem hi, List.getElem?_eq_getElem (by omega)]
  exact h i hi (by omega)
theorem sn_p {a b : Nd} (h : a.p ≠ b.p) : sameNode a b = false := by
  unfold sameNode
  rw [beq_eq_false_iff_ne.2 h]; rfl
theorem sn_n {a b : Nd} (h : a.n ≠ b.n) : sameNode a b = false := by
  unfold sameNode
  rw [decide_eq_false h]; simp
theorem sn_ps {a b : Nd} (h : sameProps a.ps b.ps = false) : sameNode a b = false := by
  unfold sameNode
  rw [h]; simp
theorem sn_all {a b : Nd} (h1 : a.p = b.p) (h2 : a.n = b.n) (h3 : sameProps a.ps b.ps = true) : sameNode a b = true := by
  unfold sameNode
  rw [h3, h1, h2]; simp
/-- The two nodes at i as the walk reads them, and what follows for the whole. -/
structure Two (r : Bool) (P Q : Int) (s t : ByteArray) (m m' : Nat) (ps qs : List Pr) : Prop where
  len : m = ps.length
  len' : m' = qs.length
  p : P ≠ Q → r = false
  n : s ≠ t → r = false
  l : m ≠ m' → r = false
  at_ : ∀ (k : Nat) (h : k < ps.length) (h' : k < qs.length), ¬ (ps[k].n = qs[k].n ∧ ps[k].v = qs[k].v) → r = false
theorem two_of {a b : List Nd} {i : Nat} (ha : i < a.length) (hb : i < b.length) : Two (sameB a b) a[i].p b[i].p a[i].n b[i].n a[i].ps.length b[i].ps.length a[i].ps b[i].ps :=
  ⟨rfl, rfl, fun h => sb_at ha hb (sn_p h), fun h => sb_at ha hb (sn_n h), fun h => sb_at ha hb (sn_ps (sp_len h)), fun k h h' hh => sb_at ha hb (sn_ps (sp_at h h' hh))⟩
theorem cell_move {w wr w1 : World} {n : Nat} {p : Addr} {u : Value} (h : wr.cell? p = some u) (hb : Below n w wr) (hb1 : Below n w w1) (hp : p.block < n) : w1.cell? p = some u := (hb1.cell hp).trans ((hb.cell hp).symm.trans h)
theorem seg_move {w wr w1 : World} {n B : Nat} {a : Option Addr} {xs : List Value} (h : Seg wr B a xs) (hb : Below n w wr) (hb1 : Below n w w1) (hB : B ≤ n) : Seg w1 B a xs := h.keep fun p hp => (hb1.cell (by omega)).trans (hb.cell (by omega)).symm
set_option maxRecDepth 100000 in
set_option maxHeartbeats 4000000 in
theorem rsame_any (A : Option Addr) (c n : Nat) (la : List Nm) (hn : n = la.length) (hz : Sized la) (A' : Option Addr) (c' n' : Nat) (lb : List Nm) (hn' : n' = lb.length) (w : World) (B : Nat) (hB : B ≤ w.heap.size) (hs : Nodes w B A la) (hs' : Nodes w B A' lb) :
    Calls Tryz.prog 9 #[.slice A n c, .slice A' n' c'] w fun e w' => e = .returned (.bool (sameB (dat la) (dat lb))) ∧ Below w.heap.size w w' := by
  have hlen : n ≠ n' → sameB (dat la) (dat lb) = false := fun h => sb_len (by rw [dat_len, dat_len, ← hn, ← hn']; exact h)
  have hall : n = n' → (∀ (i : Nat) (ha : i < (dat la).length) (hb : i < (dat lb).length), i < n → sameNode (dat la)[i] (dat lb)[i] = true) → sameB (dat la) (dat lb) = true := fun e h =>
    sb_all (by rw [dat_len, dat_len, ← hn, ← hn']; exact e) fun i ha hb => h i ha hb (by rw [hn, ← dat_len]; exact ha)
  have htwo : ∀ (i : Nat) (ha : i < la.length) (hb : i < lb.length), Two (sameB (dat la) (dat lb)) la[i].d.p lb[i].d.p la[i].d.n lb[i].d.n la[i].d.ps.length lb[i].d.ps.length la[i].d.ps lb[i].d.ps := fun i ha hb => by
    have := two_of (a := dat la) (b := dat lb) (i := i) (by rw [dat_len]; exact ha) (by rw [dat_len]; exact hb)
    rw [dat_get la ha, dat_get lb hb] at this
    exact this
  have hnn : n ≤ 2932031007403 := by have := hz.n; omega
  obtain ⟨r, hr⟩ : ∃ r, r = sameB (dat la) (dat lb) := ⟨_, rfl⟩
  rw [← hr] at hlen hall ⊢
  simp only [← hr] at htwo
  have HLEN := Lib.hid hlen
  have HALL := Lib.hid hall
  have HTWO := Lib.hid htwo
  have HN := Lib.hid hn
  have HN' := Lib.hid hn'
  have HZ := Lib.hid hz
  have HS := Lib.hid hs
  have HS' := Lib.hid hs'
  clear hlen hall htwo hn hn' hz hs hs' hr
  by_cases hne : n = n'
  case neg =>
    obtain rfl : r = false := HLEN.out hne
    have e1 : ((n : Int) == (n' : Int)) = false := by rw [beq_eq_false_iff_ne]; omega
    go_enter Tryz.func9, Tryz.ntmps9
    go_wp2
    go_ret
    exact ⟨rfl, Below.refl _ _⟩
  subst hne
  go_enter Tryz.func9, Tryz.ntmps9
  go_wp2
  go_loopw [5] (fun iv wr => ∃ k : Nat, k ≤ n ∧ iv = .int .i64 k ∧ (∀ (i : Nat) (ha : i < (dat la).length) (hb : i < (dat lb).length), i < k → sameNode (dat la)[i] (dat lb)[i] = true) ∧ Below w.heap.size w wr) (fun iv _ => n - (intOf iv).toNat)
  case atStart => exact ⟨0, by omega, rfl, fun i _ _ h => absurd h (Nat.not_lt_zero i), Below.refl _ _⟩
  case round =>
    obtain ⟨k, hk, rfl, hok, hb⟩ := hrel
    have HOK := Lib.hid hok
    have HB := Lib.hid hb
    clear hok hb
    by_cases hlt : k < n
    · have hka : k < la.length := by rw [← HN.out]; exact hlt
      have hkb : k < lb.length := by rw [← HN'.out]; exact hlt
      have hki : (k : Int) < (n : Int) := by omega
      obtain ⟨b, off, rfl, hbB, x0, x1, x2, x3⟩ := (HS.out.below (HB.out.mono hB)).at_ hka
      obtain ⟨b', off', rfl, hbB', y0, y1, y2, y3⟩ := (HS'.out.below (HB.out.mono hB)).at_ hkb
      have htw := HTWO.out k hka hkb
      have hpb := HZ.out.props _ (List.getElem_mem hka)
      have hgo : la[k].d.p = lb[k].d.p → la[k].d.n = lb[k].d.n → sameProps la[k].d.ps lb[k].d.ps = true → ∀ (i : Nat) (ha : i < (dat la).length) (hb : i < (dat lb).length), i < k + 1 → sameNode (dat la)[i] (dat lb)[i] = true := fun e1 e2 e3 i ha hb hi => by
        rcases (show i < k ∨ i = k by omega) with h | rfl
        · exact HOK.out i ha hb h
        · rw [dat_get la hka, dat_get lb hkb]; exact sn_all e1 e2 e3
      generalize la[k] = x at *
      generalize lb[k] = y at *
      obtain ⟨⟨P, s, ps⟩, xA, xc⟩ := x
      obtain ⟨⟨Q, t, qs⟩, yA, yc⟩ := y
      simp only at x0 x1 x2 x3 y0 y1 y2 y3 htw hpb hgo
      obtain ⟨m, hm⟩ : ∃ m, m = ps.length := ⟨_, rfl⟩
      obtain ⟨m', hm'⟩ : ∃ m', m' = qs.length := ⟨_, rfl⟩
      rw [← hm] at x2 hpb htw
      rw [← hm'] at y2 htw
      have HTW := Lib.hid htw
      have HGO := Lib.hid hgo
      have HX := Lib.hid x3
      have HY := Lib.hid y3
      have HM := Lib.hid hm
      have HM' := Lib.hid hm'
      clear htw hgo x3 y3 hm hm'
      by_cases hpq : P = Q
      case neg =>
        obtain rfl : r = false := HTW.out.p hpq
        have f1 : (P != Q) = true := by simpa using hpq
        clear hpq
        go_wp2_with fail
        go_quiet (fail)
        go_wp2_with fail
        go_ret
        exact ⟨rfl, below_drewN HB.out _⟩
      subst hpq
      by_cases hst : s = t
      case neg =>
        obtain rfl : r = false := HTW.out.n hst
        have f1 : (s.toList == t.toList) = false := str_ne hst
        have f2 : (s.toList != t.toList) = true := by unfold bne; rw [f1]; rfl
        clear hst
        go_wp2_with fail
        go_quiet (fail)
        go_wp2_with fail
        go_ret
        exact ⟨rfl, below_drewN HB.out _⟩
      subst hst
      by_cases hmm : m = m'
      case neg =>
        obtain rfl : r = false := HTW.out.l hmm
        have f1 : ((m : Int) != (m' : Int)) = true := by rw [bne_iff_ne]; omega
        clear hmm
        go_wp2_with fail
        go_quiet (fail)
        go_wp2_with fail
        go_ret
        exact ⟨rfl, below_drewN HB.out _⟩
      subst hmm
      have hcx : ∀ w1, Below w.heap.size w w1 → w1.cell? ⟨b, off + k * 3 + 2, none⟩ = some (.slice xA m xc) ∧ w1.cell? ⟨b', off' + k * 3 + 2, none⟩ = some (.slice yA m yc) ∧ Seg w1 B xA (prCells ps) ∧ Seg w1 B yA (prCells qs) := fun w1 h1 =>
        ⟨cell_move x2 HB.out h1 (by show b < w.heap.size; omega), cell_move y2 HB.out h1 (by show b' < w.heap.size; omega), seg_move HX.out HB.out h1 hB, seg_move HY.out HB.out h1 hB⟩
      have HCX := Lib.hid hcx
      clear hcx
      go_wp2_with fail
      go_quiet (fail)
      go_wp2_with fail
      clear x0 x1 x2 y0 y1 y2
      go_loopw [6] (fun iv wx => ∃ j : Nat, j ≤ m ∧ iv = .int .i64 j ∧ (∀ (i : Nat) (ha : i < ps.length) (hb : i < qs.length), i < j → ps[i].n = qs[i].n ∧ ps[i].v = qs[i].v) ∧ Below w.heap.size w wx) (fun iv _ => m - (intOf iv).toNat)
      case atStart => exact ⟨0, by omega, rfl, fun i _ _ h => absurd h (Nat.not_lt_zero i), below_drewN HB.out _⟩
      case round =>
        obtain ⟨j, hj, rfl, heq, hbx⟩ := hrel
        have HEQ := Lib.hid heq
        have HBX := Lib.hid hbx
        obtain ⟨x2, y2, sx, sy⟩ := HCX.out _ hbx
        clear heq hbx
        by_cases hjm : j < m
        · have hjp : j < ps.length := by rw [← HM.out]; exact hjm
          have hjq : j < qs.length := by rw [← HM'.out]; exact hjm
          have hji : (j : Int) < (m : Int) := by omega
          obtain ⟨gx, ox, rfl, _, u0, u1⟩ := sx.pr hjp
          obtain ⟨gy, oy, rfl, _, v0, v1⟩ := sy.pr hjq
          have hbad := HTW.out.at_ j hjp hjq
          have hnext : ps[j].n = qs[j].n ∧ ps[j].v = qs[j].v → ∀ (i : Nat) (ha : i < ps.length) (hb : i < qs.length), i < j + 1 → ps[i].n = qs[i].n ∧ ps[i].v = qs[i].v := fun h i ha hb hi => by
            rcases (show i < j ∨ i = j by omega) with h2 | rfl
            · exact HEQ.out i ha hb h2
            · exact h
          generalize ps[j] = x at *
          generalize qs[j] = y at *
          obtain ⟨xn, xv⟩ := x
          obtain ⟨yn, yv⟩ := y
          simp only at u0 u1 v0 v1 hbad hnext
          have HBAD := Lib.hid hbad
          have HNX := Lib.hid hnext
          clear hbad hnext sx sy
          by_cases h1 : xn = yn
          case neg =>
            obtain rfl : r = false := HBAD.out (fun h => h1 h.1)
            have f1 : (xn.toList == yn.toList) = false := str_ne h1
            clear h1
            go_wp2_with fail
            go_quiet (fail)
            go_wp2_with fail
            go_ret
            exact ⟨rfl, below_drewN HBX.out _⟩
          subst h1
          by_cases h1 : xv = yv
          case neg =>
            obtain rfl : r = false := HBAD.out (fun h => h1 h.2)
            have f1 : (xv.toList == yv.toList) = false := str_ne h1
            clear h1
            go_wp2_with fail
            go_quiet (fail)
            go_wp2_with fail
            go_ret
            exact ⟨rfl, below_drewN HBX.out _⟩
          subst h1
          have hn2 := HNX.out ⟨by trivial, by trivial⟩
          have HN2 := Lib.hid hn2
          clear hn2
          go_wp2_with fail
          go_quiet (fail)
          go_wp2_with fail
          exact ⟨⟨j + 1, by omega, by go_num, HN2.out, below_drewN HBX.out _⟩, by simp [intOf]; omega⟩
        · obtain rfl : j = m := by omega
          have hk2 := HGO.out (by trivial) (by trivial) (sp_all (by rw [← HM.out, ← HM'.out]) fun i ha hb => HEQ.out i ha hb (by rw [HM.out]; exact ha))
          have HK2 := Lib.hid hk2
          clear hk2
          go_wp2_with fail
          exact ⟨⟨k + 1, by omega, by go_num, HK2.out, HBX.out⟩, by simp [intOf]; omega⟩
    · obtain rfl : k = n := by omega
      obtain rfl : r = true := HALL.out (by trivial) HOK.out
      go_wp2
      go_ret
      exact ⟨rfl, HB.out⟩
end Go.Proofs.YtmdnbajbfnhecaaGreatDoor
