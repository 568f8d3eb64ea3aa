/- The document's way through a tree in order: the contract. -/
import Derived.Test.YtmdnbajbfnhecaaRKids
import Derived.Laws.Cover1
import Derived.Test.YtmdnbajbfnhecaaSpoil
set_option linter.unusedVariables false
namespace Go.Proofs.Ytmdnbajbfnhecaa
open Go.RowKit
theorem less_ltN : ∀ a b : List UInt8, Op.bytesLess a b = ltN a b
  | [], [] => rfl
  | [], _ :: _ => rfl
  | _ :: _, [] => rfl
  | x :: a, y :: b => by
    have ih := less_ltN a b
    unfold ltN at ih ⊢
    rw [Op.bytesLess, Lib.compareBytes]
    by_cases h1 : x < y
    · rw [if_pos h1]; simp [h1]
    · by_cases h2 : y < x
      · rw [if_neg h1, if_pos h2]
        have : x ≠ y := fun e => by subst e; exact h1 h2
        simp [h1, this]
      · rw [if_neg h1, if_neg h2, ← ih]
        have := byte_eq h1 h2
        subst this
        simp [h1]
theorem less_str (a b : ByteArray) : Op.bytesLess a.toList b.toList = ltN a.data.toList b.data.toList := by rw [less_ltN, ByteArray.toList_eq, ByteArray.toList_eq]
/-- A list with one thing at a place. -/
def putAt {α : Type} (Q : List α) (j : Nat) (x : α) : List α := Q.take j ++ x :: Q.drop j
theorem putAt_len {α : Type} (Q : List α) {j : Nat} (h : j ≤ Q.length) (x : α) : (putAt Q j x).length = Q.length + 1 := by
  unfold putAt
  simp
  omega
theorem putAt_at {α : Type} (Q : List α) {j : Nat} (h : j ≤ Q.length) (x : α) : (putAt Q j x)[j]? = some x := by
  unfold putAt
  rw [List.getElem?_append_right (by simp; omega)]
  simp [Nat.min_eq_left h]
theorem putAt_lo {α : Type} (Q : List α) {j k : Nat} (h : k < j) (hj : j ≤ Q.length) (x : α) : (putAt Q j x)[k]? = Q[k]? := by
  unfold putAt
  rw [List.getElem?_append_left (by simp; omega), List.getElem?_take_of_lt h]
/-- One down. -/
theorem putAt_swap {α : Type} (Q : List α) {j : Nat} (h : j + 1 ≤ Q.length) (x : α) : ((putAt Q (j + 1) x).set (j + 1) (Q[j]'(by omega))).set j x = putAt Q j x := by
  apply List.ext_getElem?
  intro k
  have hl : (putAt Q (j + 1) x).length = Q.length + 1 := putAt_len Q h x
  rw [List.getElem?_set]
  by_cases e : j = k
  · subst e
    rw [if_pos rfl, if_pos (by rw [List.length_set, hl]; omega), putAt_at Q (by omega)]
  · rw [if_neg e, List.getElem?_set]
    by_cases e2 : j + 1 = k
    · subst e2
      rw [if_pos rfl, if_pos (by rw [hl]; omega)]
      unfold putAt
      rw [List.getElem?_append_right (by simp; omega)]
      simp only [List.length_take]
      rw [Nat.min_eq_left (by omega), show j + 1 - j = 0 + 1 by omega, List.getElem?_cons_succ, List.getElem?_drop, Nat.add_zero, List.getElem?_eq_getElem (by omega)]
    · rw [if_neg e2]
      unfold putAt
      by_cases e3 : k < j
      · rw [List.getElem?_append_left (by simp; omega), List.getElem?_append_left (by simp; omega), List.getElem?_take_of_lt (by omega), List.getElem?_take_of_lt e3]
      · obtain ⟨q, rfl⟩ : ∃ q, k = j + 2 + q := ⟨k - (j + 2), by omega⟩
        rw [List.getElem?_append_right (by simp; omega), List.getElem?_append_right (by simp; omega)]
        simp only [List.length_take]
        rw [Nat.min_eq_left (by omega), Nat.min_eq_left (by omega), show j + 2 + q - (j + 1) = q + 1 by omega, show j + 2 + q - j = q + 1 + 1 by omega, List.getElem?_cons_succ, List.getElem?_cons_succ, List.getElem?_drop, List.getElem?_drop]
        congr 1
        omega
theorem pr_set (l : List Pr) {k : Nat} (hk : k < l.length) (y : Pr) : ((prCells l).set (k * 2) (.string y.n)).set (k * 2 + 1) (.string y.v) = prCells (l.set k y) := by
  unfold prCells
  have h0 := flat_set Pr.cells 2 pr_len l k 0 ⟨y.n, l[k].v⟩ (.string y.n) hk (by omega) rfl
  rw [Nat.add_zero] at h0
  rw [h0]
  have h1 := flat_set Pr.cells 2 pr_len (l.set k ⟨y.n, l[k].v⟩) k 1 y (.string y.v) (by simpa using hk) (by omega) (by simp [Pr.cells])
  rw [h1, List.set_set]
theorem row_pr {w : World} {B n c g : Nat} {Z : List Pr} (h : w.ownsRow B 32 2 (.slice (some ⟨g, 0, none⟩) n c) n (prCells Z)) {t : Nat} (ht : t < Z.length) :
    w.cell? ⟨g, t * 2, none⟩ = some (.string Z[t].n) ∧ w.cell? ⟨g, t * 2 + 1, none⟩ = some (.string Z[t].v) ∧ w.frozen? ⟨g, t * 2, none⟩ = false ∧ w.frozen? ⟨g, t * 2 + 1, none⟩ = false := by
  have hl : Z.length = n := by have := h.1; rw [prCells_len] at this; omega
  obtain ⟨g', hA, _, _, hr⟩ := RowAt.of_own h (by omega)
  injection hA with hA
  injection hA with hA
  subst hA
  have hlt : t * 2 + 1 < (prCells Z).length := by rw [prCells_len]; omega
  refine ⟨?_, ?_, hr.frozen _, hr.frozen _⟩
  · rw [hr.cell (by omega)]
    have := flat_get Pr.cells 2 pr_len Z t 0 ht (by omega)
    rw [Nat.add_zero] at this
    exact this
  · rw [hr.cell hlt]
    exact flat_get Pr.cells 2 pr_len Z t 1 ht (by omega)
/-- A prop stored into the row. -/
theorem row_put {w : World} {B n c g : Nat} {Z : List Pr} (h : w.ownsRow B 32 2 (.slice (some ⟨g, 0, none⟩) n c) n (prCells Z)) {t : Nat} (ht : t < Z.length) (y : Pr) :
    (w.setCell ⟨g, t * 2, none⟩ (.string y.n)).cell? ⟨g, t * 2 + 1, none⟩ = some (.string Z[t].v) ∧ (w.setCell ⟨g, t * 2, none⟩ (.string y.n)).frozen? ⟨g, t * 2 + 1, none⟩ = false ∧
    ((w.setCell ⟨g, t * 2, none⟩ (.string y.n)).setCell ⟨g, t * 2 + 1, none⟩ (.string y.v)).ownsRow B 32 2 (.slice (some ⟨g, 0, none⟩) n c) n (prCells (Z.set t y)) ∧
    ∀ k, k ≠ g → ((w.setCell ⟨g, t * 2, none⟩ (.string y.n)).setCell ⟨g, t * 2 + 1, none⟩ (.string y.v)).heap[k]? = w.heap[k]? := by
  obtain ⟨x0, x1, f0, f1⟩ := row_pr h ht
  have h1 := (h.stored (t * 2) (.string y.n)).1
  have h2 := (h1.stored (t * 2 + 1) (.string y.v)).1
  refine ⟨?_, ?_, ?_, fun k hk => ?_⟩
  · rw [World.cell?_setCell_other _ _ _ _ (by intro e; simp only [Addr.mk.injEq] at e; omega)]; exact x1
  · rw [World.frozen?_setCell]; exact f1
  · rw [← pr_set Z ht y]; exact h2
  · rw [Below.heap_setCell _ _ _ _ hk, Below.heap_setCell _ _ _ _ hk]
theorem nameN_dat {l : List Nm} {k : Nat} (hk : k < l.length) : nameN (dat l) k = l[k].d.n.data.toList := by
  unfold nameN
  rw [List.getElem?_eq_getElem (by rw [dat_len]; exact hk)]
  simp only [dat_get l hk]
theorem row_nat {w : World} {B n c g : Nat} {Z : List Nat} (h : w.ownsRow B 3 1 (.slice (some ⟨g, 0, none⟩) n c) n (natsV Z)) {t : Nat} (ht : t < Z.length) :
    w.cell? ⟨g, t, none⟩ = some (.int .i64 ((Z[t] : Nat) : Int)) ∧ w.frozen? ⟨g, t, none⟩ = false := by
  have hl : Z.length = n := by have := h.1; rw [natsV_len] at this; omega
  obtain ⟨g', hA, _, _, hr⟩ := RowAt.of_own h (by omega)
  injection hA with hA
  injection hA with hA
  subst hA
  refine ⟨?_, hr.frozen _⟩
  rw [hr.cell (by rw [natsV_len]; exact ht)]
  unfold natsV
  simp [ht]
theorem nat_put {w : World} {B n c g : Nat} {Z : List Nat} (h : w.ownsRow B 3 1 (.slice (some ⟨g, 0, none⟩) n c) n (natsV Z)) (t y : Nat) :
    (w.setCell ⟨g, t, none⟩ (.int .i64 (y : Int))).ownsRow B 3 1 (.slice (some ⟨g, 0, none⟩) n c) n (natsV (Z.set t y)) := by
  have e : natsV (Z.set t y) = (natsV Z).set t (.int .i64 (y : Int)) := by unfold natsV; rw [List.map_set]
  rw [e]
  exact (h.stored t _).1
theorem putAt_swap2 {α : Type} (Q R : List α) {j : Nat} (h : j + 1 ≤ Q.length) (x : α) : ((putAt Q (j + 1) x ++ R).set (j + 1) (Q[j]'(by omega))).set j x = putAt Q j x ++ R := by
  have hl : (putAt Q (j + 1) x).length = Q.length + 1 := putAt_len Q h x
  rw [List.set_append_left _ _ (by omega), List.set_append_left _ _ (by rw [List.length_set]; omega), putAt_swap Q h x]
set_option maxRecDepth 100000 in
set_option maxHeartbeats 16000000 in
theorem rsort_any (A : Option Addr) (cap n : Nat) (l : List Nm) (hn : n = l.length) (hsz : Sized l) (hn5 : n ≤ 512) (htr : Tr (dat l)) (hpb : ∀ x ∈ l, propsB x.d.ps = true) (base : Nat) : ∀ (f i : Nat) (par : Int), n - i ≤ f → i < n → -1 ≤ par → par ≤ 512 → ∀ (w : World) (Ao : Option Addr) (co : Nat) (acc : List Nm),
    OwnN w base Ao acc.length co acc → base ≤ w.heap.size → Nodes w base A l → acc.length + (ordN (dat l) i par acc.length).length ≤ 512 →
    Calls Try.prog 39 #[.slice A n cap, .int .i64 i, .int .i64 par, .slice Ao acc.length co] w fun e w' => ∃ (A' : Option Addr) (n' c' : Nat) (acc' : List Nm), e = .returned (.slice A' n' c') ∧ OwnN w' base A' n' c' acc' ∧ dat acc' = dat acc ++ ordN (dat l) i par acc.length ∧
      Frame (Own1 Ao) w w' ∧ (∀ g, Own1 A' g → Own1 Ao g ∨ w.heap.size ≤ g) := by
  intro f
  induction f with
  | zero => intro i par h1 h2; omega
  | succ f ih =>
    intro i par hf hi hp1 hp2 w Ao co acc hA hbase hS hlen
    have hil : i < l.length := by omega
    obtain ⟨i0, fi, fz0, fz1, fz2⟩ := info_parts Try.info30
    obtain ⟨j0, gi, gz0, gz1, gz2⟩ := info_parts Try.info32
    obtain ⟨b, off, rfl, hbB, x0, x1, x2, hseg⟩ := hS.at_ hil
    have hpr := hpb l[i] (List.getElem_mem hil)
    have hpz := hsz.props l[i] (List.getElem_mem hil)
    obtain ⟨x, hx⟩ : ∃ x, x = l[i] := ⟨_, rfl⟩
    rw [← hx] at x0 x1 x2 hseg hpr hpz
    obtain ⟨⟨P, s, ps⟩, xA, xc⟩ := x
    simp only at x0 x1 x2 hseg hpr hpz
    have hap := props_apart hpr
    have hp32 : ps.length ≤ 32 := by
      unfold propsB at hpr
      simp only [Bool.and_eq_true, decide_eq_true_eq] at hpr
      exact hpr.1
    obtain ⟨m, hm⟩ : ∃ m, m = ps.length := ⟨_, rfl⟩
    rw [← hm] at x2 hpz hp32
    have HAP := Lib.hid hap
    have HA := Lib.hid hA
    have HS := Lib.hid hS
    have HX := Lib.hid hx
    have HM := Lib.hid hm
    have HSG := Lib.hid hseg
    have HLEN := Lib.hid hlen
    have HIH := Lib.hid ih
    have HN := Lib.hid hn
    clear hap hA hS hx hm hseg hlen ih hn hpr
    go_enter Try.func39, Try.ntmps39
    go_wp2_with fail
    go_loopw [10] (fun kv wx => ∃ (k : Nat) (Ax : Option Addr) (cx : Nat) (Q : List Pr), k ≤ m ∧ kv = .int .i64 k ∧ RowAt wx w.heap.size 30 [.int .i64 par, .string s, .slice Ax k cx] ∧ wx.ownsRow (w.heap.size + 1) 32 2 (.slice Ax k cx) k (prCells Q) ∧ Q.Perm (ps.take k) ∧ Up prKey Q ∧ Below w.heap.size w wx) (fun kv _ => m - (intOf kv).toNat)
    case atStart =>
      refine ⟨0, none, 0, [], by omega, rfl, ⟨_, heap_alloc_new _ _, rfl⟩, World.ownsRow_nil _ _ _ _, ?_, List.Pairwise.nil, (Below.refl _ w).alloc (Nat.le_refl _) _⟩
      rw [List.take_zero]
    case round =>
      obtain ⟨k, Ax, cx, Q, hk, rfl, hrow, hown, hQ, hU, hb⟩ := hrel
      have hQl : Q.length = k := by rw [hQ.length_eq, List.length_take, ← HM.out]; omega
      have y2 := (hb.cell (p := ⟨b, off + i * 3 + 2, none⟩) (by show b < w.heap.size; omega)).trans x2
      have y9 := hrow.cell (k := 2) (by simp)
      simp only [List.getElem?_cons_zero, List.getElem?_cons_succ] at y9
      have hwlt := hrow.lt
      have HROW := Lib.hid hrow
      have HOWN := Lib.hid hown
      have HQQ := Lib.hid hQ
      have HU := Lib.hid hU
      have HB := Lib.hid hb
      have HQL := Lib.hid hQl
      clear hrow hown hQ hU hb hQl
      by_cases hlt : k < m
      · have hkl : k < ps.length := by rw [← HM.out]; exact hlt
        have hki : (k : Int) < (m : Int) := by omega
        obtain ⟨pb, poff, e, hpbb, z0, z1⟩ := HSG.out.pr hkl
        subst e
        have y0 := (HB.out.cell (p := ⟨pb, poff + k * 2, none⟩) (by show pb < w.heap.size; omega)).trans z0
        have y1 := (HB.out.cell (p := ⟨pb, poff + k * 2 + 1, none⟩) (by show pb < w.heap.size; omega)).trans z1
        obtain ⟨x, hx⟩ : ∃ x, x = ps[k] := ⟨_, rfl⟩
        rw [← hx] at y0 y1
        have HXK := Lib.hid hx
        obtain ⟨pn, pv⟩ := x
        simp only at y0 y1
        clear hx z0 z1
        go_upto_region 5 with (fail)
        refine wp_region_noPanic ?_
        refine wp_region_F (S := fun W => W.cell? ⟨w.heap.size, 2, none⟩ = some (.slice Ax k cx) ∧ W.cell? ⟨b, off + i * 3 + 2, none⟩ = some (.slice (some ⟨pb, poff, none⟩) m xc) ∧ W.cell? ⟨pb, poff + k * 2, none⟩ = some (.string pn) ∧ W.cell? ⟨pb, poff + k * 2 + 1, none⟩ = some (.string pv)) (f := 13) (by kernel_rfl) ?_
        have hHeld : wr.drew.cell? ⟨w.heap.size, 2, none⟩ = some (.slice Ax k cx) ∧ wr.drew.cell? ⟨b, off + i * 3 + 2, none⟩ = some (.slice (some ⟨pb, poff, none⟩) m xc) ∧ wr.drew.cell? ⟨pb, poff + k * 2, none⟩ = some (.string pn) ∧ wr.drew.cell? ⟨pb, poff + k * 2 + 1, none⟩ = some (.string pv) := ⟨y9, y2, y0, y1⟩
        (refine heldF_take (i := 0) rfl rfl (by kernel_rfl) (by kernel_rfl) (by kernel_rfl) (by kernel_rfl) rfl (by kernel_rfl) (fun _ _ _ h => h) (by rfl) (by intro w hSw; obtain ⟨s1, s2, s3, s4⟩ := hSw; go_simp; first | done | with_reducible rfl) (by assumption) ?_; try simp only [Act.put, List.setIfInBounds_toArray, List.set_cons_zero, List.set_cons_succ])
        (refine heldF_take (i := 1) rfl rfl (by kernel_rfl) (by kernel_rfl) (by kernel_rfl) (by kernel_rfl) rfl (by kernel_rfl) (fun _ _ _ h => h) (by rfl) (by intro w hSw; obtain ⟨s1, s2, s3, s4⟩ := hSw; go_simp; first | done | with_reducible rfl) (by assumption) ?_; try simp only [Act.put, List.setIfInBounds_toArray, List.set_cons_zero, List.set_cons_succ])
        (refine heldF_take (i := 2) rfl rfl (by kernel_rfl) (by kernel_rfl) (by kernel_rfl) (by kernel_rfl) rfl (by kernel_rfl) (fun _ _ _ h => h) (by rfl) (by intro w hSw; obtain ⟨s1, s2, s3, s4⟩ := hSw; go_simp; first | done | with_reducible rfl) (by assumption) ?_; try simp only [Act.put, List.setIfInBounds_toArray, List.set_cons_zero, List.set_cons_succ])
        (refine heldF_take (i := 3) rfl rfl (by kernel_rfl) (by kernel_rfl) (by kernel_rfl) (by kernel_rfl) rfl (by kernel_rfl) (fun _ _ _ h => h) (by rfl) (by intro w hSw; obtain ⟨s1, s2, s3, s4⟩ := hSw; go_simp; first | done | with_reducible rfl) (by assumption) ?_; try simp only [Act.put, List.setIfInBounds_toArray, List.set_cons_zero, List.set_cons_succ])
        (refine heldF_take (i := 4) rfl rfl (by kernel_rfl) (by kernel_rfl) (by kernel_rfl) (by kernel_rfl) rfl (by kernel_rfl) (fun _ _ _ h => h) (by rfl) (by intro w hSw; obtain ⟨s1, s2, s3, s4⟩ := hSw; go_simp; first | done | with_reducible rfl) (by assumption) ?_; try simp only [Act.put, List.setIfInBounds_toArray, List.set_cons_zero, List.set_cons_succ])
        (refine heldF_take (i := 5) rfl rfl (by kernel_rfl) (by kernel_rfl) (by kernel_rfl) (by kernel_rfl) rfl (by kernel_rfl) (fun _ _ _ h => h) (by rfl) (by intro w hSw; obtain ⟨s1, s2, s3, s4⟩ := hSw; go_simp; first | done | with_reducible rfl) (by assumption) ?_; try simp only [Act.put, List.setIfInBounds_toArray, List.set_cons_zero, List.set_cons_succ])
        (refine heldF_take (i := 6) rfl rfl (by kernel_rfl) (by kernel_rfl) (by kernel_rfl) (by kernel_rfl) rfl (by kernel_rfl) (fun _ _ _ h => h) (by rfl) (by intro w hSw; obtain ⟨s1, s2, s3, s4⟩ := hSw; go_simp; first | done | with_reducible rfl) (by assumption) ?_; try simp only [Act.put, List.setIfInBounds_toArray, List.set_cons_zero, List.set_cons_succ])
        (refine heldF_take (i := 7) rfl rfl (by kernel_rfl) (by kernel_rfl) (by kernel_rfl) (by kernel_rfl) rfl (by kernel_rfl) (fun _ _ _ h => h) (by rfl) (by intro w hSw; obtain ⟨s1, s2, s3, s4⟩ := hSw; go_simp; first | done | with_reducible rfl) (by assumption) ?_; try simp only [Act.put, List.setIfInBounds_toArray, List.set_cons_zero, List.set_cons_succ])
        (refine heldF_take (i := 8) rfl rfl (by kernel_rfl) (by kernel_rfl) (by kernel_rfl) (by kernel_rfl) rfl (by kernel_rfl) (fun _ _ _ h => h) (by rfl) (by intro w hSw; obtain ⟨s1, s2, s3, s4⟩ := hSw; go_simp; first | done | with_reducible rfl) (by assumption) ?_; try simp only [Act.put, List.setIfInBounds_toArray, List.set_cons_zero, List.set_cons_succ])
        (refine heldF_take (i := 9) rfl rfl (by kernel_rfl) (by kernel_rfl) (by kernel_rfl) (by kernel_rfl) rfl (by kernel_rfl) (fun _ _ _ h => h) (by rfl) (by intro w hSw; obtain ⟨s1, s2, s3, s4⟩ := hSw; go_simp; first | done | with_reducible rfl) (by assumption) ?_; try simp only [Act.put, List.setIfInBounds_toArray, List.set_cons_zero, List.set_cons_succ])
        refine wpAnyF_ready (rs := [10]) (by kernel_rfl) (by simp) ?_
        refine AllReadyF.cons rfl (fun K hK => ?_) AllReadyF.nil
        go_simp
        have hb1 : Below wr.heap.size wr (wr.drew.alloc (.cells #[.string pn, .string pv] 32)) := ((Below.refl _ wr).drew).alloc (Nat.le_refl _) _
        refine hK.out _ _ ⟨(hb1.cell (p := ⟨w.heap.size, 2, none⟩) hwlt).trans y9, (hb1.cell (p := ⟨b, off + i * 3 + 2, none⟩) (by show b < wr.heap.size; omega)).trans y2, (hb1.cell (p := ⟨pb, poff + k * 2, none⟩) (by show pb < wr.heap.size; omega)).trans y0, (hb1.cell (p := ⟨pb, poff + k * 2 + 1, none⟩) (by show pb < wr.heap.size; omega)).trans y1⟩ (fun hHeld => ?_)
        clear hK K
        try simp only [Act.put, List.setIfInBounds_toArray, List.set_cons_zero, List.set_cons_succ]
        refine wpAnyF_ready (rs := [11]) (by kernel_rfl) (by simp) ?_
        refine AllReadyF.cons rfl (fun K hK => ?_) AllReadyF.nil
        have hbox : RowAt (wr.drew.alloc (.cells #[.string pn, .string pv] 32)) wr.heap.size 32 [.string pn, .string pv] := ⟨_, heap_alloc_new _ _, rfl⟩
        refine step_push rfl (.tmp 37) (.tmp 46) 28 rfl (w.heap.size + 1) 32 j0 _ 2 32 Try.underlying28 gi gz0 gz1 gz2 rfl (by decide) (.slice Ax k cx) k (prCells Q) rfl (HOWN.out.alloc _) wr.heap.size 1 1 [.string pn, .string pv] rfl rfl hbox (by intro u hu; simp at hu; rcases hu with rfl | rfl <;> rfl) (by unfold maxLen; omega) (by omega) (by simp; omega) ?_
        intro A5 c5 w5 hown5 hg5 hid5
        have d0 : Below (w.heap.size + 1) wr w5 := (hb1.mono (by omega)).grown hg5 (by simp; omega) (fun g hg => (HOWN.out.lt g hg).1)
        refine hK.out _ _ ⟨(d0.cell (p := ⟨w.heap.size, 2, none⟩) (by show w.heap.size < w.heap.size + 1; omega)).trans y9, (d0.cell (p := ⟨b, off + i * 3 + 2, none⟩) (by show b < w.heap.size + 1; omega)).trans y2, (d0.cell (p := ⟨pb, poff + k * 2, none⟩) (by show pb < w.heap.size + 1; omega)).trans y0, (d0.cell (p := ⟨pb, poff + k * 2 + 1, none⟩) (by show pb < w.heap.size + 1; omega)).trans y1⟩ (fun hHeld => ?_)
        clear hK K
        try simp only [Act.put, List.setIfInBounds_toArray]
        (refine heldF_take (i := 12) rfl rfl (by kernel_rfl) (by kernel_rfl) (by kernel_rfl) (by kernel_rfl) rfl (by kernel_rfl) (fun _ _ _ h => h) (by rfl) (by intro w hSw; obtain ⟨s1, s2, s3, s4⟩ := hSw; go_simp; first | done | with_reducible rfl) (by assumption) ?_; try simp only [Act.put])
        clear hHeld
        have hr5 := HROW.out.keep (d0.block _ (by omega))
        have f5 := hr5.frozen 2
        have y5 := (d0.cell (p := ⟨w.heap.size, 2, none⟩) (by show w.heap.size < w.heap.size + 1; omega)).trans y9
        have hr6 := hr5.store 2 (.slice A5 (k + 1) c5)
        simp only [List.set_cons_zero, List.set_cons_succ] at hr6
        have ho6 : (w5.setCell ⟨w.heap.size, 2, none⟩ (.slice A5 (k + 1) c5)).ownsRow (w.heap.size + 1) 32 2 (.slice A5 (k + 1) c5) (k + 1) (prCells (putAt Q k ⟨pn, pv⟩)) := by
          have e : prCells (putAt Q k ⟨pn, pv⟩) = prCells Q ++ [.string pn, .string pv] := by
            unfold putAt
            rw [List.take_of_length_le (by rw [HQL.out]; exact Nat.le_refl _), List.drop_of_length_le (by rw [HQL.out]; exact Nat.le_refl _)]
            simp [prCells, Pr.cells]
          rw [e]
          exact own_keep hown5 fun g hg _ => Below.heap_setCell _ _ _ _ (by have := (hown5.lt g hg).1; show g ≠ w.heap.size; omega)
        have hb6 : Below w.heap.size w (w5.setCell ⟨w.heap.size, 2, none⟩ (.slice A5 (k + 1) c5)) := (HB.out.trans (d0.mono (by omega))).setCell (Nat.le_refl _) _
        have R6 := Lib.hid hr6
        have O6 := Lib.hid ho6
        have B6 := Lib.hid hb6
        clear hr5 hr6 ho6 hb6 hown5 hg5 hid5 hbox hb1 d0
        refine wpAnyF_ready (rs := [13]) (by kernel_rfl) (by simp) ?_
        refine AllReadyF.last rfl (fun K hK => ?_)
        go_simp
        refine hK.out _ _ ?_
        clear hK K
        try simp only [Act.put, List.setIfInBounds_toArray, List.set_cons_zero, List.set_cons_succ]
        refine wpAnyF_done (by kernel_rfl) ?_ _
        refine NoPanic.normal ?_
        have y6 := R6.out.cell (k := 2) (by simp)
        simp only [List.getElem?_cons_zero, List.getElem?_cons_succ] at y6
        clear y0 y1 y2 y9 f5 y5
        have hxne : ∀ y ∈ Q, prKey y ≠ prKey (⟨pn, pv⟩ : Pr) := fun y hy => by
          have hy2 := HQQ.out.subset hy
          obtain ⟨t, ht, rfl⟩ := List.mem_iff_getElem.1 hy2
          rw [List.length_take] at ht
          rw [List.getElem_take]
          have := List.pairwise_iff_getElem.mp HAP.out t k (by omega) hkl (by omega)
          rw [← HXK.out] at this
          exact this
        have hbub : ∀ j, j ≤ k → (∀ y ∈ Q.drop j, ltK prKey (⟨pn, pv⟩ : Pr) y = true) → (∀ y, 0 < j → Q[j - 1]? = some y → ltK prKey (⟨pn, pv⟩ : Pr) y = false) → (putAt Q j (⟨pn, pv⟩ : Pr)).Perm (ps.take (k + 1)) ∧ Up prKey (putAt Q j (⟨pn, pv⟩ : Pr)) := fun j hj hd hm => by
          refine ⟨(bubble_perm Q _ j).trans ?_, bubble prKey HU.out hxne hd (by rw [HQL.out]; exact hj) hm⟩
          rw [List.take_succ_eq_append_getElem hkl, ← HXK.out]
          exact HQQ.out.append_right _
        have HNE := Lib.hid hxne
        have HBUB := Lib.hid hbub
        clear hxne hbub
        go_wp2_with fail
        go_loopw [11] (fun jv wx => ∃ (j : Nat), j ≤ k ∧ jv = .int .i64 j ∧ RowAt wx w.heap.size 30 [.int .i64 par, .string s, .slice A5 (k + 1) c5] ∧ wx.ownsRow (w.heap.size + 1) 32 2 (.slice A5 (k + 1) c5) (k + 1) (prCells (putAt Q j ⟨pn, pv⟩)) ∧ (∀ y ∈ Q.drop j, ltK prKey ⟨pn, pv⟩ y = true) ∧ Below w.heap.size w wx) (fun jv _ => (intOf jv).toNat)
        case atStart =>
          exact ⟨k, by omega, by go_num, R6.out, O6.out, by rw [List.drop_of_length_le (by rw [HQL.out]; exact Nat.le_refl _)]; simp, B6.out⟩
        case round =>
          obtain ⟨j, hj, rfl, hrow, hown, hdl, hb⟩ := hrel
          clear y6 hHeld R6 O6 B6
          have hZl : (putAt Q j ⟨pn, pv⟩).length = k + 1 := by rw [putAt_len Q (by rw [HQL.out]; exact hj), HQL.out]
          have y7 := hrow.cell (k := 2) (by simp)
          simp only [List.getElem?_cons_zero, List.getElem?_cons_succ] at y7
          obtain ⟨g, hA5, hgb, hgl, _⟩ := RowAt.of_own hown (by omega)
          subst hA5
          by_cases h0 : j = 0
          · subst h0
            have HR7 := Lib.hid hrow
            have HO7 := Lib.hid hown
            have HD7 := Lib.hid hdl
            have HB7 := Lib.hid hb
            clear hrow hown hdl hb
            go_wp2_with fail
            go_quiet (fail)
            go_wp2_with fail
            have hk1 : (putAt Q 0 (⟨pn, pv⟩ : Pr)).Perm (ps.take (k + 1)) ∧ Up prKey (putAt Q 0 (⟨pn, pv⟩ : Pr)) := HBUB.out 0 (by omega) HD7.out fun y h => absurd h (by omega)
            exact ⟨⟨k + 1, _, _, _, by omega, by go_num, HR7.out, HO7.out, hk1.1, hk1.2, below_drewN HB7.out _⟩, by simp [intOf]; omega⟩
          · obtain ⟨q, hq⟩ : ∃ q, j = q + 1 := ⟨j - 1, by omega⟩
            obtain ⟨u0, u1, u2, u3⟩ := row_pr hown (t := q) (by omega)
            obtain ⟨v0, v1, v2, v3⟩ := row_pr hown (t := j) (by omega)
            have hq1 : (putAt Q j (⟨pn, pv⟩ : Pr))[q]'(by omega) = Q[q]'(by rw [HQL.out]; omega) := by
              have := putAt_lo Q (j := j) (k := q) (by omega) (by rw [HQL.out]; exact hj) (⟨pn, pv⟩ : Pr)
              rw [List.getElem?_eq_getElem (by omega), List.getElem?_eq_getElem (by rw [HQL.out]; omega)] at this
              injection this
            have hq2 : (putAt Q j (⟨pn, pv⟩ : Pr))[j]'(by omega) = ⟨pn, pv⟩ := by
              have := putAt_at Q (j := j) (by rw [HQL.out]; exact hj) (⟨pn, pv⟩ : Pr)
              rw [List.getElem?_eq_getElem (by omega)] at this
              injection this
            rw [hq1] at u0 u1
            rw [hq2] at v0 v1
            obtain ⟨Y, hY⟩ : ∃ Y, Y = Q[q]'(by rw [HQL.out]; omega) := ⟨_, rfl⟩
            rw [← hY] at u0 u1
            have hYo : Q[q]? = some Y := by rw [hY]; exact List.getElem?_eq_getElem _
            have HY := Lib.hid hYo
            have HQE := Lib.hid hq
            obtain ⟨yn, yv⟩ := Y
            simp only at u0 u1 v0 v1
            have HR7 := Lib.hid hrow
            have HO7 := Lib.hid hown
            have HD7 := Lib.hid hdl
            have HB7 := Lib.hid hb
            have hqi : (q : Int) < (k : Int) + 1 := by omega
            have hjk : (j : Int) < (k : Int) + 1 := by omega
            have hj0 : (0 : Int) < (j : Int) := by omega
            have hd0 : decide (0 < j) = true := decide_eq_true (by omega)
            have hjq : (j : Int) - 1 = (q : Int) := by omega
            have hqw : IntKind.i64.wrap (q : Int) = (q : Int) := IntWalk.i64_in _ (by omega)
            clear hrow hown hdl hb hq1 hq2 hY hYo hq
            have hne : yn ≠ pn := fun e => HNE.out ⟨yn, yv⟩ (List.mem_of_getElem? HY.out) (by unfold prKey; rw [e])
            have hne2 : yn.data.toList ≠ pn.data.toList := HNE.out ⟨yn, yv⟩ (List.mem_of_getElem? HY.out)
            have heq : (yn.toList == pn.toList) = false := str_ne hne
            rcases hlt2 : ltK prKey (⟨pn, pv⟩ : Pr) ⟨yn, yv⟩ with _ | _
            · have hbl : Op.bytesLess yn.toList pn.toList = true := by
                rw [less_str]
                rcases ltN_total hne2 with h | h
                · exact h
                · have : ltN pn.data.toList yn.data.toList = false := hlt2
                  rw [this] at h; cases h
              have HL2 := Lib.hid hlt2
              clear hlt2 hne hne2
              go_wp2_with fail
              go_quiet (fail)
              go_wp2_with fail
              have hk1 := HBUB.out j hj HD7.out fun y _ h => by
                rw [HQE.out, show q + 1 - 1 = q by omega, HY.out] at h
                injection h with h
                subst h
                exact HL2.out
              exact ⟨⟨k + 1, _, _, _, by omega, by go_num, HR7.out, HO7.out, hk1.1, hk1.2, below_drewN HB7.out _⟩, by simp [intOf]; omega⟩
            · have hbl : Op.bytesLess yn.toList pn.toList = false := by
                rw [less_str]
                exact ltN_asymm hlt2
              have HL2 := Lib.hid hlt2
              clear hlt2 hne hne2
              go_wp2_with fail
              go_quiet (fail)
              obtain ⟨wq, hwq⟩ : ∃ wq, wq = wr.drewN nq := ⟨_, rfl⟩
              rw [← hwq]
              have HR8 := Lib.hid (show RowAt wq w.heap.size 30 [.int .i64 par, .string s, .slice (some ⟨g, 0, none⟩) (k + 1) c5] from by rw [hwq]; exact HR7.out)
              have HO8 := Lib.hid (show wq.ownsRow (w.heap.size + 1) 32 2 (.slice (some ⟨g, 0, none⟩) (k + 1) c5) (k + 1) (prCells (putAt Q j ⟨pn, pv⟩)) from by rw [hwq]; exact HO7.out)
              have HB8 := Lib.hid (show Below w.heap.size w wq from by rw [hwq]; exact below_drewN HB7.out _)
              have r7 : wq.cell? ⟨w.heap.size, 2, none⟩ = some (.slice (some ⟨g, 0, none⟩) (k + 1) c5) := by rw [hwq]; exact y7
              have r0 : wq.cell? ⟨g, q * 2, none⟩ = some (.string yn) := by rw [hwq]; exact u0
              have r1 : wq.cell? ⟨g, q * 2 + 1, none⟩ = some (.string yv) := by rw [hwq]; exact u1
              have r2 : wq.cell? ⟨g, j * 2, none⟩ = some (.string pn) := by rw [hwq]; exact v0
              have r3 : wq.cell? ⟨g, j * 2 + 1, none⟩ = some (.string pv) := by rw [hwq]; exact v1
              have hgq : g < wq.heap.size := World.block_lt_of_cell? _ _ r0
              have hwlq : w.heap.size < wq.heap.size := HR8.out.lt
              clear hwq y7 u0 u1 u2 u3 v0 v1 v2 v3 HR7 HO7 HB7 hgl
              go_upto_region 10 with (fail)
              obtain ⟨wa, hwa⟩ : ∃ wa, wa = wq.alloc (.cells #[.string pn, .string pv] 32) := ⟨_, rfl⟩
              rw [← hwa]
              have hba : Below wq.heap.size wq wa := by rw [hwa]; exact (Below.refl _ wq).alloc (Nat.le_refl _) _
              have hbx : RowAt wa wq.heap.size 32 [.string pn, .string pv] := by rw [hwa]; exact ⟨_, heap_alloc_new _ _, rfl⟩
              have t7 : wa.drew.cell? ⟨w.heap.size, 2, none⟩ = some (.slice (some ⟨g, 0, none⟩) (k + 1) c5) := (hba.cell (p := ⟨w.heap.size, 2, none⟩) hwlq).trans r7
              have t0 : wa.drew.cell? ⟨g, q * 2, none⟩ = some (.string yn) := (hba.cell (p := ⟨g, q * 2, none⟩) hgq).trans r0
              have t1 : wa.drew.cell? ⟨g, q * 2 + 1, none⟩ = some (.string yv) := (hba.cell (p := ⟨g, q * 2 + 1, none⟩) hgq).trans r1
              have oa : wa.drew.ownsRow (w.heap.size + 1) 32 2 (.slice (some ⟨g, 0, none⟩) (k + 1) c5) (k + 1) (prCells (putAt Q j ⟨pn, pv⟩)) := own_keep HO8.out (w' := wa.drew) fun g' _ hlt => hba.block g' hlt
              have ra : RowAt wa.drew w.heap.size 30 [.int .i64 par, .string s, .slice (some ⟨g, 0, none⟩) (k + 1) c5] := HR8.out.keep (w' := wa.drew) (hba.block _ hwlq)
              have ba : Below w.heap.size w wa.drew := (HB8.out.trans (hba.mono (by omega))).drew
              have bxa : RowAt wa.drew wq.heap.size 32 [.string pn, .string pv] := hbx.keep rfl
              have OA := Lib.hid oa
              have RA := Lib.hid ra
              have BA := Lib.hid ba
              have BX := Lib.hid bxa
              have hgne : g ≠ w.heap.size := by omega
              have hgne2 : wq.heap.size ≠ g := by omega
              have hwne : wq.heap.size ≠ w.heap.size := by omega
              clear hwa hba hbx r7 r0 r1 r2 r3 HR8 HO8 HB8 oa ra ba bxa
              refine wp_region_noPanic ?_
              refine wp_region_F (S := fun W => W.cell? ⟨w.heap.size, 2, none⟩ = some (.slice (some ⟨g, 0, none⟩) (k + 1) c5) ∧ W.cell? ⟨g, q * 2, none⟩ = some (.string yn) ∧ W.cell? ⟨g, q * 2 + 1, none⟩ = some (.string yv)) (f := 10) (by kernel_rfl) ?_
              have hHeld : wa.drew.cell? ⟨w.heap.size, 2, none⟩ = some (.slice (some ⟨g, 0, none⟩) (k + 1) c5) ∧ wa.drew.cell? ⟨g, q * 2, none⟩ = some (.string yn) ∧ wa.drew.cell? ⟨g, q * 2 + 1, none⟩ = some (.string yv) := ⟨t7, t0, t1⟩
              (refine heldF_take (i := 0) rfl rfl (by kernel_rfl) (by kernel_rfl) (by kernel_rfl) (by kernel_rfl) rfl (by kernel_rfl) (fun _ _ _ h => h) (by rfl) (by intro w hSw; obtain ⟨s1, s2, s3⟩ := hSw; go_simp; first | done | with_reducible rfl) (by assumption) ?_; try simp only [Act.put, List.setIfInBounds_toArray, List.set_cons_zero, List.set_cons_succ])
              (refine heldF_take (i := 1) rfl rfl (by kernel_rfl) (by kernel_rfl) (by kernel_rfl) (by kernel_rfl) rfl (by kernel_rfl) (fun _ _ _ h => h) (by rfl) (by intro w hSw; obtain ⟨s1, s2, s3⟩ := hSw; go_simp; first | done | with_reducible rfl) (by assumption) ?_; try simp only [Act.put, List.setIfInBounds_toArray, List.set_cons_zero, List.set_cons_succ])
              (refine heldF_take (i := 2) rfl rfl (by kernel_rfl) (by kernel_rfl) (by kernel_rfl) (by kernel_rfl) rfl (by kernel_rfl) (fun _ _ _ h => h) (by rfl) (by intro w hSw; obtain ⟨s1, s2, s3⟩ := hSw; go_simp; first | done | with_reducible rfl) (by assumption) ?_; try simp only [Act.put, List.setIfInBounds_toArray, List.set_cons_zero, List.set_cons_succ])
              (refine heldF_take (i := 3) rfl rfl (by kernel_rfl) (by kernel_rfl) (by kernel_rfl) (by kernel_rfl) rfl (by kernel_rfl) (fun _ _ _ h => h) (by rfl) (by intro w hSw; obtain ⟨s1, s2, s3⟩ := hSw; go_simp; first | done | with_reducible rfl) (by assumption) ?_; try simp only [Act.put, List.setIfInBounds_toArray, List.set_cons_zero, List.set_cons_succ])
              (refine heldF_take (i := 4) rfl rfl (by kernel_rfl) (by kernel_rfl) (by kernel_rfl) (by kernel_rfl) rfl (by kernel_rfl) (fun _ _ _ h => h) (by rfl) (by intro w hSw; obtain ⟨s1, s2, s3⟩ := hSw; go_simp; first | done | with_reducible rfl) (by assumption) ?_; try simp only [Act.put, List.setIfInBounds_toArray, List.set_cons_zero, List.set_cons_succ])
              (refine heldF_take (i := 5) rfl rfl (by kernel_rfl) (by kernel_rfl) (by kernel_rfl) (by kernel_rfl) rfl (by kernel_rfl) (fun _ _ _ h => h) (by rfl) (by intro w hSw; obtain ⟨s1, s2, s3⟩ := hSw; go_simp; first | done | with_reducible rfl) (by assumption) ?_; try simp only [Act.put, List.setIfInBounds_toArray, List.set_cons_zero, List.set_cons_succ])
              (refine heldF_take (i := 6) rfl rfl (by kernel_rfl) (by kernel_rfl) (by kernel_rfl) (by kernel_rfl) rfl (by kernel_rfl) (fun _ _ _ h => h) (by rfl) (by intro w hSw; obtain ⟨s1, s2, s3⟩ := hSw; go_simp; first | done | with_reducible rfl) (by assumption) ?_; try simp only [Act.put, List.setIfInBounds_toArray, List.set_cons_zero, List.set_cons_succ])
              (refine heldF_take (i := 7) rfl rfl (by kernel_rfl) (by kernel_rfl) (by kernel_rfl) (by kernel_rfl) rfl (by kernel_rfl) (fun _ _ _ h => h) (by rfl) (by intro w hSw; obtain ⟨s1, s2, s3⟩ := hSw; go_simp; first | done | with_reducible rfl) (by assumption) ?_; try simp only [Act.put, List.setIfInBounds_toArray, List.set_cons_zero, List.set_cons_succ])
              (refine heldF_take (i := 8) rfl rfl (by kernel_rfl) (by kernel_rfl) (by kernel_rfl) (by kernel_rfl) rfl (by kernel_rfl) (fun _ _ _ h => h) (by rfl) (by intro w hSw; obtain ⟨s1, s2, s3⟩ := hSw; go_simp; first | done | with_reducible rfl) (by assumption) ?_; try simp only [Act.put, List.setIfInBounds_toArray, List.set_cons_zero, List.set_cons_succ])
              (refine heldF_take (i := 9) rfl rfl (by kernel_rfl) (by kernel_rfl) (by kernel_rfl) (by kernel_rfl) rfl (by kernel_rfl) (fun _ _ _ h => h) (by rfl) (by intro w hSw; obtain ⟨s1, s2, s3⟩ := hSw; go_simp; first | done | with_reducible rfl) (by assumption) ?_; try simp only [Act.put, List.setIfInBounds_toArray, List.set_cons_zero, List.set_cons_succ])
              clear hHeld t7 t0 t1
              generalize wa.drew = wd at *
              have hjl : j < (putAt Q j (⟨pn, pv⟩ : Pr)).length := by omega
              obtain ⟨a0, _, a2, a3⟩ := row_pr OA.out hjl
              obtain ⟨b0, b1, b2, b3⟩ := row_put OA.out hjl ⟨yn, yv⟩
              simp only at b0 b1 b2 b3
              have B2 := Lib.hid b2
              have B3 := Lib.hid b3
              clear b2 b3
              refine wpAnyF_ready (rs := [10]) (by kernel_rfl) (by simp) ?_
              refine AllReadyF.last rfl (fun K hK => ?_)
              go_simp
              refine hK.out _ _ ?_
              clear hK K
              try simp only [Act.put, List.setIfInBounds_toArray, List.set_cons_zero, List.set_cons_succ]
              refine wpAnyF_done (by kernel_rfl) ?_ _
              refine NoPanic.normal ?_
              have re := RA.out.keep (B3.out _ (fun e => hgne e.symm))
              have be : Below w.heap.size w ((wd.setCell ⟨g, j * 2, none⟩ (.string yn)).setCell ⟨g, j * 2 + 1, none⟩ (.string yv)) := (BA.out.setCell (by show w.heap.size ≤ g; omega) _).setCell (by show w.heap.size ≤ g; omega) _
              have bxe := BX.out.keep (B3.out _ hgne2)
              have oe := B2.out
              generalize ((wd.setCell ⟨g, j * 2, none⟩ (.string yn)).setCell ⟨g, j * 2 + 1, none⟩ (.string yv)) = we at *
              have hql : q < ((putAt Q j (⟨pn, pv⟩ : Pr)).set j ⟨yn, yv⟩).length := by rw [List.length_set]; have := HQE.out; omega
              obtain ⟨d0, d1, d2, d3⟩ := row_pr oe hql
              obtain ⟨e0, e1, e2, e3⟩ := row_put oe hql ⟨pn, pv⟩
              simp only at e0 e1 e2 e3
              have z7 := re.cell (k := 2) (by simp)
              have z0 := bxe.cell (k := 0) (by simp)
              have z1 := bxe.cell (k := 1) (by simp)
              simp only [List.getElem?_cons_zero, List.getElem?_cons_succ] at z7 z0 z1
              have RE := Lib.hid re
              have BE := Lib.hid be
              have E2 := Lib.hid e2
              have E3 := Lib.hid e3
              clear b0 b1 a0 a2 a3 re be bxe oe e2 e3 B2 B3 OA RA BA BX
              go_wp2_with fail
              refine ⟨⟨q, by have := HQE.out; omega, rfl, RE.out.keep (E3.out _ (fun e => hgne e.symm)), ?_, ?_, (BE.out.setCell (by show w.heap.size ≤ g; omega) _).setCell (by show w.heap.size ≤ g; omega) _⟩, ?_⟩
              · have h2 := E2.out
                have hqk : q < Q.length := by rw [HQL.out]; have := HQE.out; omega
                have e5 : Q[q] = ⟨yn, yv⟩ := by
                  have := HY.out
                  rw [List.getElem?_eq_getElem hqk] at this
                  injection this
                have e6 := putAt_swap Q (j := q) (by omega) (⟨pn, pv⟩ : Pr)
                rw [e5, ← HQE.out] at e6
                rw [e6] at h2
                exact h2
              · intro y hy
                have hqk : q < Q.length := by rw [HQL.out]; have := HQE.out; omega
                rw [List.drop_eq_getElem_cons hqk] at hy
                rcases List.mem_cons.1 hy with e | hy
                · have e5 : Q[q] = ⟨yn, yv⟩ := by
                    have := HY.out
                    rw [List.getElem?_eq_getElem hqk] at this
                    injection this
                  rw [e, e5]
                  exact HL2.out
                · refine HD7.out y ?_
                  rw [HQE.out]
                  exact hy
              · have := HQE.out
                simp [intOf]
                omega
      · obtain rfl : k = m := by omega
        have hf0 : ¬ (k : Int) < (k : Int) := by omega
        have hQs : Q = sortN prKey ps := sort_is prKey HAP.out (HQQ.out.trans (by rw [HM.out, List.take_length])) HU.out
        have y0 := HROW.out.cell (k := 0) (by simp)
        have y1 := HROW.out.cell (k := 1) (by simp)
        simp only [List.getElem?_cons_zero, List.getElem?_cons_succ] at y0 y1
        have hrow0 := own_keep HA.out.row (w' := wr) (fun g _ hlt => HB.out.block g hlt)
        have HR0 := Lib.hid hrow0
        have hbs := HB.out.size
        have hbw : base ≤ wr.heap.size := Nat.le_trans hbase hbs
        have HQS := Lib.hid hQs
        clear hrow0 hQs
        have hpl := HLEN.out
        rw [ordN_step (dat l) i par acc.length (by rw [dat_len]; exact hil), List.length_cons] at hpl
        go_wp2_with (first
          | (at_builtin; refine wpList_push2 rfl (.tmp 94) (.tmp 96) 22 rfl base 30 i0 _ 3 48 Try.underlying22 fi fz0 fz1 fz2 rfl (by decide) _ acc.length (nmCells acc) rfl HR0.out #[.int .i64 par, .string s, .slice Ax k cx] rfl rfl ?_ ?_ ?_ ?_ ?_))
        · first | exact ⟨rfl, rfl, rfl⟩ | (intro u hu; simp at hu; rcases hu with rfl | rfl | rfl <;> rfl)
        · unfold maxLen; omega
        · omega
        intro A5 c5 w5 hown5 hp5 hid5
        obtain ⟨X, hX⟩ : ∃ X : Nm, X = ⟨⟨par, s, Q⟩, Ax, cx⟩ := ⟨_, rfl⟩
        have hxv : X.val = .slice Ax k cx := by rw [hX]; unfold Nm.val; simp only [HQL.out]
        have hxc : X.cells = [.int .i64 par, .string s, .slice Ax k cx] := by rw [hX]; unfold Nm.cells; simp only [HQL.out]
        have hown6 : w5.ownsRow base 30 3 (.slice A5 (acc.length + 1) c5) (acc.length + 1) (nmCells (acc ++ [X])) := by
          have : nmCells (acc ++ [X]) = nmCells acc ++ [.int .i64 par, .string s, .slice Ax k cx] := by simp [nmCells, hxc]
          rw [this]
          simpa using hown5
        have hO5 : OwnN w5 base A5 (acc.length + 1) c5 (acc ++ [X]) := HA.out.snoc HB.out (B := w.heap.size + 1) (by omega) (by rw [hxv, hX]; show wr.ownsRow _ 32 2 _ Q.length (prCells Q); rw [HQL.out]; exact HOWN.out) hown6 hp5 hbase
        have hF5 : Frame (Own1 Ao) w w5 := frame_pushed (Frame.of_below HB.out) hp5 fun g hg => .inl (own1_val.1 hg)
        have hI5 : ∀ g, Own1 A5 g → Own1 Ao g ∨ w.heap.size ≤ g := fun g hg => (hid5 g (own1_val.2 hg)).elim (fun h => .inl (own1_val.1 h)) fun h => .inr (by omega)
        have hS5 : Nodes w5 base (some ⟨b, off, none⟩) l := HS.out.below ((HB.out.mono hbase).trans hp5.low)
        have hb5 : base ≤ w5.heap.size := Nat.le_trans hbw hp5.low.size
        have hkd := rkids_any (some ⟨b, off, none⟩) cap n l HN.out hn5 i hi w5 base hb5 hS5
        have HO5 := Lib.hid hO5
        have HF5 := Lib.hid hF5
        have HI5 := Lib.hid hI5
        have HS5 := Lib.hid hS5
        have HKD := Lib.hid hkd
        have HX5 := Lib.hid hX
        clear hown5 hown6 hp5 hid5 hxv hxc hX hO5 hF5 hI5 hS5 hkd y0 y1 y2 y9
        obtain ⟨ks, hks⟩ : ∃ ks, ks = kidsN (dat l) i := ⟨_, rfl⟩
        have HKS := Lib.hid hks
        have HAK := Lib.hid (kids_apart htr.twin i)
        clear hks
        go_wp2_with (first
          | (go_at_call 51
             refine HKD.out.mono ?_
             rintro e w6 ⟨Ak, mk, ck, rfl, hmk, hok, hbk⟩
             rw [← HKS.out] at hmk hok
             have HMK := Lib.hid hmk
             have HOK := Lib.hid hok
             have HBK := Lib.hid hbk
             clear hmk hok hbk))
        go_loopw [15] (fun kv wx => ∃ (t : Nat) (Qs : List Nat), t ≤ mk ∧ kv = .int .i64 t ∧ wx.ownsRow w5.heap.size 3 1 (.slice Ak mk ck) mk (natsV (Qs ++ ks.drop t)) ∧ Qs.Perm (ks.take t) ∧ Up (nameN (dat l)) Qs ∧ Below w5.heap.size w5 wx) (fun kv _ => mk - (intOf kv).toNat)
        case atStart =>
          refine ⟨0, [], by omega, rfl, ?_, ?_, List.Pairwise.nil, HBK.out⟩
          · rw [List.drop_zero, List.nil_append]; exact HOK.out
          · rw [List.take_zero]
        case round =>
          obtain ⟨t, Qs, ht, rfl, hown, hQ, hU, hb⟩ := hrel
          have hQl : Qs.length = t := by rw [hQ.length_eq, List.length_take, ← HMK.out]; omega
          have hm5 : mk ≤ 512 := by
            rw [HMK.out, HKS.out]
            unfold kidsN
            refine Nat.le_trans (List.length_filter_le ..) ?_
            rw [List.length_drop, List.length_range, dat_len, ← HN.out]
            omega
          have HQ := Lib.hid hQ
          have HU2 := Lib.hid hU
          have HO := Lib.hid hown
          have HB2 := Lib.hid hb
          have HQL2 := Lib.hid hQl
          clear hown hQ hU hb hQl
          have hkz : ∀ y ∈ ks, y < n := fun y hy => by
            rw [HKS.out] at hy
            have := (kidsN_mem hy).2.1
            rw [dat_len] at this
            rw [HN.out]; exact this
          by_cases hlt : t < mk
          · have htl : t < ks.length := by have := HMK.out; omega
            have htk : (t : Int) < (mk : Int) := by omega
            have hdr : ks.drop t = ks[t] :: ks.drop (t + 1) := List.drop_eq_getElem_cons htl
            obtain ⟨x, hx⟩ : ∃ x, x = ks[t] := ⟨_, rfl⟩
            rw [← hx] at hdr
            have hxn : x < n := hkz x (by rw [hx]; exact List.getElem_mem htl)
            have hstart : Qs ++ ks.drop t = putAt Qs t x ++ ks.drop (t + 1) := by
              unfold putAt
              rw [hdr, List.take_of_length_le (l := Qs) (by rw [HQL2.out]; exact Nat.le_refl _), List.drop_of_length_le (l := Qs) (by rw [HQL2.out]; exact Nat.le_refl _)]
              simp
            have hQz : ∀ y ∈ Qs, y < n ∧ nameN (dat l) y ≠ nameN (dat l) x := fun y hy => by
              have hy2 := HQ.out.subset hy
              obtain ⟨z, hz, rfl⟩ := List.mem_iff_getElem.1 hy2
              rw [List.length_take] at hz
              rw [List.getElem_take]
              refine ⟨hkz _ (List.getElem_mem _), ?_⟩
              have hap := HAK.out
              rw [← HKS.out] at hap
              have := List.pairwise_iff_getElem.mp hap z t (by omega) htl (by omega)
              rw [← hx] at this
              exact this
            have hbub : ∀ j, j ≤ t → (∀ y ∈ Qs.drop j, ltK (nameN (dat l)) x y = true) → (∀ y, 0 < j → Qs[j - 1]? = some y → ltK (nameN (dat l)) x y = false) → (putAt Qs j x).Perm (ks.take (t + 1)) ∧ Up (nameN (dat l)) (putAt Qs j x) := fun j hj hd hm => by
              refine ⟨(bubble_perm Qs x j).trans ?_, bubble (nameN (dat l)) HU2.out (fun y hy => (hQz y hy).2) hd (by rw [HQL2.out]; exact hj) hm⟩
              rw [List.take_succ_eq_append_getElem htl, ← hx]
              exact HQ.out.append_right _
            have HQZ := Lib.hid hQz
            have HBUB := Lib.hid hbub
            have HST := Lib.hid hstart
            have HXN := Lib.hid hxn
            clear hQz hbub hstart hdr hx
            go_wp2_with fail
            go_loopw [16] (fun jv wx => ∃ (j : Nat), j ≤ t ∧ jv = .int .i64 j ∧ wx.ownsRow w5.heap.size 3 1 (.slice Ak mk ck) mk (natsV (putAt Qs j x ++ ks.drop (t + 1))) ∧ (∀ y ∈ Qs.drop j, ltK (nameN (dat l)) x y = true) ∧ Below w5.heap.size w5 wx) (fun jv _ => (intOf jv).toNat)
            case atStart => exact ⟨t, by omega, rfl, by rw [← HST.out]; exact HO.out, by rw [List.drop_of_length_le (by rw [HQL2.out]; exact Nat.le_refl _)]; simp, HB2.out⟩
            case round =>
              obtain ⟨j, hj, rfl, hown, hdl, hb⟩ := hrel
              have hZl : (putAt Qs j x).length = t + 1 := by rw [putAt_len Qs (by rw [HQL2.out]; exact hj), HQL2.out]
              have hZZ : (putAt Qs j x ++ ks.drop (t + 1)).length = mk := by rw [List.length_append, hZl, List.length_drop, ← HMK.out]; omega
              by_cases h0 : j = 0
              · subst h0
                have HO7 := Lib.hid hown
                have HD7 := Lib.hid hdl
                have HB7 := Lib.hid hb
                clear hown hdl hb
                go_wp2_with fail
                go_quiet (fail)
                go_wp2_with fail
                have hk1 := HBUB.out 0 (by omega) HD7.out fun y h => absurd h (by omega)
                exact ⟨⟨t + 1, _, by omega, by go_num, HO7.out, hk1.1, hk1.2, below_drewN HB7.out _⟩, by simp [intOf]; omega⟩
              · obtain ⟨q, hq⟩ : ∃ q, j = q + 1 := ⟨j - 1, by omega⟩
                obtain ⟨g, hg, hgb, hgl, _⟩ := RowAt.of_own hown (by omega)
                subst hg
                obtain ⟨u0, u1⟩ := row_nat hown (t := q) (by omega)
                obtain ⟨v0, v1⟩ := row_nat hown (t := j) (by omega)
                have hqQ : q < Qs.length := by rw [HQL2.out]; omega
                have hq1 : (putAt Qs j x ++ ks.drop (t + 1))[q]'(by omega) = Qs[q] := by
                  rw [List.getElem_append_left (by omega)]
                  have := putAt_lo Qs (j := j) (k := q) (by omega) (by rw [HQL2.out]; exact hj) x
                  rw [List.getElem?_eq_getElem (by omega), List.getElem?_eq_getElem hqQ] at this
                  injection this
                have hq2 : (putAt Qs j x ++ ks.drop (t + 1))[j]'(by omega) = x := by
                  rw [List.getElem_append_left (by omega)]
                  have := putAt_at Qs (j := j) (by rw [HQL2.out]; exact hj) x
                  rw [List.getElem?_eq_getElem (by omega)] at this
                  injection this
                rw [hq1] at u0
                rw [hq2] at v0
                obtain ⟨y, hY⟩ : ∃ y, y = Qs[q] := ⟨_, rfl⟩
                rw [← hY] at u0
                have hYo : Qs[q]? = some y := by rw [hY]; exact List.getElem?_eq_getElem _
                have HY := Lib.hid hYo
                have HQE := Lib.hid hq
                obtain ⟨hyn, hynx⟩ := HQZ.out y (List.mem_of_getElem? hYo)
                have hyl : y < l.length := by rw [← HN.out]; exact hyn
                have hxl2 : x < l.length := by rw [← HN.out]; exact HXN.out
                have hS7 := HS5.out.below (hb.mono hb5)
                obtain ⟨b', off', e', _, _, n1, _, _⟩ := hS7.at_ hyl
                injection e' with e'
                injection e' with e1 e2
                subst e1 e2
                obtain ⟨b', off', e', _, _, n2, _, _⟩ := hS7.at_ hxl2
                injection e' with e'
                injection e' with e1 e2
                subst e1 e2
                rw [nameN_dat hyl, nameN_dat hxl2] at hynx
                have hlk : ltK (nameN (dat l)) x y = ltN l[x].d.n.data.toList l[y].d.n.data.toList := by
                  show ltN (nameN (dat l) x) (nameN (dat l) y) = _
                  rw [nameN_dat hyl, nameN_dat hxl2]
                generalize l[y].d.n = yn at n1 hynx hlk
                generalize l[x].d.n = xn at n2 hynx hlk
                have HO7 := Lib.hid hown
                have HD7 := Lib.hid hdl
                have HB7 := Lib.hid hb
                have hqi : (q : Int) < (mk : Int) := by omega
                have hjk : (j : Int) < (mk : Int) := by omega
                have hyi : (y : Int) < (n : Int) := by omega
                have hxi : (x : Int) < (n : Int) := by have := HXN.out; omega
                have hd0 : decide (0 < j) = true := decide_eq_true (by omega)
                have hjq : (j : Int) - 1 = (q : Int) := by omega
                have hqw : IntKind.i64.wrap (q : Int) = (q : Int) := IntWalk.i64_in _ (by omega)
                clear hown hdl hb hq1 hq2 hY hYo hq hS7
                have hne : yn ≠ xn := fun e => hynx (by rw [e])
                have heq : (yn.toList == xn.toList) = false := str_ne hne
                rcases hlt2 : ltK (nameN (dat l)) x y with _ | _
                · have hbl : Op.bytesLess yn.toList xn.toList = true := by
                    rw [less_str]
                    rw [hlk] at hlt2
                    rcases ltN_total hynx with h | h
                    · exact h
                    · rw [hlt2] at h; cases h
                  have HL2 := Lib.hid hlt2
                  clear hlt2 hne hynx hlk
                  go_wp2_with fail
                  go_quiet (fail)
                  go_wp2_with fail
                  have hk1 := HBUB.out j hj HD7.out fun z _ h => by
                    rw [HQE.out, show q + 1 - 1 = q by omega, HY.out] at h
                    injection h with h
                    subst h
                    exact HL2.out
                  exact ⟨⟨t + 1, _, by omega, by go_num, HO7.out, hk1.1, hk1.2, below_drewN HB7.out _⟩, by simp [intOf]; omega⟩
                · have hbl : Op.bytesLess yn.toList xn.toList = false := by
                    rw [less_str]
                    rw [hlk] at hlt2
                    exact ltN_asymm hlt2
                  have HL2 := Lib.hid hlt2
                  clear hlt2 hne hynx hlk
                  go_wp2_with fail
                  go_quiet (fail)
                  obtain ⟨wq, hwq⟩ : ∃ wq, wq = wr.drewN nq := ⟨_, rfl⟩
                  rw [← hwq]
                  have ho8 : wq.ownsRow w5.heap.size 3 1 (.slice (some ⟨g, 0, none⟩) mk ck) mk (natsV (putAt Qs j x ++ ks.drop (t + 1))) := by rw [hwq]; exact HO7.out
                  have hb8 : Below w5.heap.size w5 wq := by rw [hwq]; exact below_drewN HB7.out _
                  have r0 : wq.cell? ⟨g, q, none⟩ = some (.int .i64 (y : Int)) := by rw [hwq]; exact u0
                  have r1 : wq.cell? ⟨g, j, none⟩ = some (.int .i64 (x : Int)) := by rw [hwq]; exact v0
                  have f1 : wq.frozen? ⟨g, j, none⟩ = false := by rw [hwq]; exact v1
                  have ho9 := nat_put ho8 j y
                  have hb9 := hb8.setCell (p := ⟨g, j, none⟩) (by show w5.heap.size ≤ g; omega) (.int .i64 (y : Int))
                  obtain ⟨c0, c1⟩ := row_nat ho9 (t := q) (by rw [List.length_set]; omega)
                  have ho10 := nat_put ho9 q x
                  have hb10 := hb9.setCell (p := ⟨g, q, none⟩) (by show w5.heap.size ≤ g; omega) (.int .i64 (x : Int))
                  have HO10 := Lib.hid ho10
                  have HB10 := Lib.hid hb10
                  clear hwq ho8 hb8 u0 u1 v0 v1 HO7 HB7 ho9 hb9 ho10 hb10
                  go_wp2_with fail
                  refine ⟨⟨q, by have := HQE.out; omega, rfl, ?_, ?_, HB10.out⟩, ?_⟩
                  · have h2 := HO10.out
                    have hqk : q < Qs.length := by rw [HQL2.out]; have := HQE.out; omega
                    have e5 : Qs[q] = y := by
                      have := HY.out
                      rw [List.getElem?_eq_getElem hqk] at this
                      injection this
                    have e6 := putAt_swap2 Qs (ks.drop (t + 1)) (j := q) (by omega) x
                    rw [e5, ← HQE.out] at e6
                    rw [e6] at h2
                    exact h2
                  · intro z hz
                    have hqk : q < Qs.length := by rw [HQL2.out]; have := HQE.out; omega
                    rw [List.drop_eq_getElem_cons hqk] at hz
                    rcases List.mem_cons.1 hz with e | hz
                    · have e5 : Qs[q] = y := by
                        have := HY.out
                        rw [List.getElem?_eq_getElem hqk] at this
                        injection this
                      rw [e, e5]
                      exact HL2.out
                    · refine HD7.out z ?_
                      rw [HQE.out]
                      exact hz
                  · have := HQE.out
                    simp [intOf]
                    omega
          · obtain rfl : t = mk := by omega
            have hf1 : ¬ (t : Int) < (t : Int) := by omega
            have hks2 : Qs = sortN (nameN (dat l)) ks := by
              have hap := HAK.out
              rw [← HKS.out] at hap
              exact sort_is _ hap (HQ.out.trans (by rw [HMK.out, List.take_length])) HU2.out
            have hrow := HO.out
            rw [List.drop_of_length_le (l := ks) (by rw [HMK.out]; exact Nat.le_refl _), List.append_nil, hks2] at hrow
            obtain ⟨zs, hzs⟩ : ∃ zs, zs = sortN (nameN (dat l)) ks := ⟨_, rfl⟩
            rw [← hzs] at hrow
            have hzl : zs.length = t := by rw [hzs, sort_len, HMK.out]
            obtain ⟨rec, hrec⟩ : ∃ rec : Nat → Nat → List Nd, rec = fun k c => ordN (dat l) k acc.length c := ⟨_, rfl⟩
            have hstep : ordN (dat l) i par acc.length = X.d :: ordKids rec zs (acc.length + 1) := by
              rw [ordN_step (dat l) i par acc.length (by rw [dat_len]; exact hil), ← HKS.out, ← hzs, hrec, HX5.out, HQS.out]
              congr 1
              unfold bareN propsN
              rw [List.getElem?_eq_getElem (by rw [dat_len]; exact hil)]
              simp only [dat_get l hil, ← HX.out]
              rfl
            have hmem : ∀ y ∈ zs, i < y ∧ y < n := fun y hy => by
              rw [hzs, HKS.out] at hy
              have := kidsN_mem (sort_mem _ _ _ hy)
              rw [dat_len, ← HN.out] at this
              exact ⟨this.1, this.2.1⟩
            have HROWZ := Lib.hid hrow
            have HZL := Lib.hid hzl
            have HREC := Lib.hid hrec
            have HSTEP := Lib.hid hstep
            have HMEM := Lib.hid hmem
            clear hks2 hrow hzs hzl hrec hstep hmem hkz hpl
            go_wp2_with fail
            go_loopw [18, 3] (fun kv ov wx => ∃ (q : Nat) (At : Option Addr) (ct nt : Nat) (acct : List Nm), q ≤ t ∧ kv = .int .i64 q ∧ ov = .slice At nt ct ∧ nt = acct.length ∧ OwnN wx base At nt ct acct ∧
              dat acct ++ ordKids rec (zs.drop q) acct.length = dat acc ++ ordN (dat l) i par acc.length ∧ wx.ownsRow w5.heap.size 3 1 (.slice Ak t ck) t (natsV zs) ∧ Frame (Own1 Ao) w wx ∧ (∀ g, Own1 At g → Own1 Ao g ∨ w.heap.size ≤ g) ∧ Nodes wx base (some ⟨b, off, none⟩) l) (fun kv _ _ => t - (intOf kv).toNat)
            case atStart =>
              have hbz : Below w5.heap.size w5 wr := HB2.out
              refine ⟨0, A5, c5, acc.length + 1, acc ++ [X], by omega, rfl, rfl, by simp, HO5.out.below hbz, ?_, HROWZ.out, HF5.out.below hbz, HI5.out, HS5.out.below (hbz.mono hb5)⟩
              rw [HSTEP.out, List.drop_zero]
              simp [dat]
            case round =>
              obtain ⟨q, At, ct, nt, acct, hq, rfl, rfl, rfl, hoa, hda, hrow, hfr, hid, hnd⟩ := hrel
              by_cases hqt : q < t
              · have hql : q < zs.length := by rw [HZL.out]; exact hqt
                have hqi : (q : Int) < (t : Int) := by omega
                obtain ⟨g, hg, y0⟩ := row_at hrow hql
                subst hg
                obtain ⟨hik, hkn⟩ := HMEM.out zs[q] (List.getElem_mem hql)
                have hdr : zs.drop q = zs[q] :: zs.drop (q + 1) := List.drop_eq_getElem_cons hql
                rw [hdr] at hda
                obtain ⟨y, hy⟩ : ∃ y, y = zs[q] := ⟨_, rfl⟩
                rw [← hy] at y0 hik hkn hda
                rw [ordKids] at hda
                have hln := congrArg List.length hda
                simp only [List.length_append, dat_len] at hln
                have hreck : rec y acct.length = ordN (dat l) y acc.length acct.length := by rw [HREC.out]
                have hbx : base ≤ wr.heap.size := Nat.le_trans hbase hfr.size
                have hih := HIH.out y acc.length (by omega) hkn (by omega) (by have := HLEN.out; omega) wr At ct acct hoa hbx hnd (by rw [← hreck]; have := HLEN.out; omega)
                have hbA : ∀ g, Own1 At g → base ≤ g := fun g hg => (hoa.row.lt g (own1_val.2 hg)).1
                have hne : ∀ g', Own1 (some ⟨g, 0, none⟩) g' → ¬ Own1 At g' := fun g' hg' ha => own_types hrow hoa.row (by decide) g' (own1_val.2 hg') (own1_val.2 ha)
                have HIHK := Lib.hid hih
                have HDA := Lib.hid hda
                have HROW2 := Lib.hid hrow
                have HFR := Lib.hid hfr
                have HID := Lib.hid hid
                have HND := Lib.hid hnd
                have HRK := Lib.hid hreck
                have HNE := Lib.hid hne
                have HBA := Lib.hid hbA
                clear hih hda hrow hfr hid hnd hreck hne hbA hoa hln hdr hy
                go_wp2_with (first
                  | (go_at_call 39
                     refine HIHK.out.mono ?_
                     rintro e w8 ⟨A8, n8, c8, acc8, rfl, ho8, hd8, hf8, hi8⟩
                     have HO8 := Lib.hid ho8
                     have HD8 := Lib.hid hd8
                     have HF8 := Lib.hid hf8
                     have HI8 := Lib.hid hi8
                     clear ho8 hd8 hf8 hi8))
                refine ⟨⟨q + 1, A8, c8, n8, acc8, by omega, by go_num, rfl, HO8.out.len, HO8.out, ?_, ?_, ?_, ?_, ?_⟩, by simp [intOf]; omega⟩
                · have hl := congrArg List.length HD8.out
                  simp only [List.length_append, dat_len] at hl
                  rw [hl, HD8.out, List.append_assoc, ← HRK.out]
                  exact HDA.out
                · exact own_frame HROW2.out HF8.out fun g' hg' => HNE.out g' (own1_val.1 hg')
                · exact HFR.out.next HF8.out fun g' hg' ha => (HID.out g' ha).elim id fun h => by omega
                · intro g' hg'
                  rcases HI8.out g' hg' with h | h
                  · exact HID.out g' h
                  · exact .inr (Nat.le_trans HFR.out.size h)
                · exact HND.out.below (HF8.out.toBelow hbx fun k hk ha => by have := HBA.out k ha; omega)
              · obtain rfl : q = t := by omega
                have hf2 : ¬ (q : Int) < (q : Int) := by omega
                rw [List.drop_of_length_le (l := zs) (by rw [HZL.out]; exact Nat.le_refl _), ordKids, List.append_nil] at hda
                have HOA := Lib.hid hoa
                have HDA := Lib.hid hda
                have HFR := Lib.hid hfr
                have HID := Lib.hid hid
                clear hoa hda hrow hfr hid hnd
                go_wp2_with fail
                go_ret
                first | exact ⟨At, acct.length, ct, acct, rfl, HOA.out, HDA.out, HFR.out, HID.out⟩ | exact ⟨At, acct.length, ct, rfl, acct, HOA.out, HDA.out, HFR.out, HID.out⟩
end Go.Proofs.Ytmdnbajbfnhecaa
