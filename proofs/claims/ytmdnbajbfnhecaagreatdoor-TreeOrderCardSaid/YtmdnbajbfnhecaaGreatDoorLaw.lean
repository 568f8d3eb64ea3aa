/- A list of nodes as data, and what the document says of it. -/
import Derived.ProofKit
set_option linter.unusedVariables false
namespace Go.Proofs.YtmdnbajbfnhecaaGreatDoor
/-! A list of nodes as data; what the document says of it. -/
def chB (c : Int) : Bool := decide (97 ≤ c ∧ c ≤ 122) || decide (48 ≤ c ∧ c ≤ 57) || (c == 44) || (c == 46) || (c == 95) || (c == 43) || (c == 45) || (c == 64) || (c == 35) || (c == 63)
def nameB (l : List UInt8) : Bool := decide (1 ≤ l.length) && decide (l.length ≤ 31) && l.all fun c => chB c.toNat
structure Pr where
  n : ByteArray
  v : ByteArray
structure Nd where
  p : Int
  n : ByteArray
  ps : List Pr
def propOkB (ps : List Pr) (i : Nat) : Bool := match ps[i]? with
  | none => true
  | some x => nameB x.n.data.toList && decide (x.v.size ≤ 1024) && (ps.take i).all fun y => !decide (y.n = x.n)
def propsB (ps : List Pr) : Bool := decide (ps.length ≤ 32) && (List.range ps.length).all (propOkB ps)
def parAt (l : List Nd) (i : Int) : Int := match l[i.toNat]? with
  | none => -1
  | some x => x.p
/-- A node and those above it, from it on. -/
def aboveF (l : List Nd) : Nat → Int → List Int
  | 0, _ => []
  | f + 1, i => if i < 0 then [] else i :: aboveF l f (parAt l i)
def above (l : List Nd) (i : Int) : List Int := aboveF l (i + 1).toNat i
/-- A kid of the same name ahead of it, from the second node on. -/
def twinB (l : List Nd) (i : Nat) (p : Int) (n : ByteArray) : Bool := ((l.take i).drop 1).any fun y => (y.p == p) && decide (y.n = n)
def nodeOkB (l : List Nd) (i : Nat) : Bool := match l[i]? with
  | none => true
  | some x => decide (i < 512) && propsB x.ps && (if i = 0 then (x.p == -1) && decide (x.n = ByteArray.empty)
      else nameB x.n.data.toList && decide (0 ≤ x.p) && decide (x.p < i) && (above l (i - 1 : Nat)).contains x.p && decide ((above l x.p).length + 1 ≤ 16) && !twinB l i x.p x.n)
/-- The nodes ahead of i begin a tree. -/
def Fine (l : List Nd) (i : Nat) : Prop := ∀ j, j < i → nodeOkB l j = true
theorem all_range {n : Nat} {p : Nat → Bool} : (List.range n).all p = true ↔ ∀ i, i < n → p i = true := by
  simp [List.all_eq_true, List.mem_range]
theorem fine_par {l : List Nd} {i : Nat} (h : Fine l i) {j : Nat} (hj : j < i) (hl : j < l.length) : parAt l j < j ∧ -1 ≤ parAt l j ∧ (0 < j → 0 ≤ parAt l j) := by
  have hn := h j hj
  unfold nodeOkB at hn
  unfold parAt
  rw [Int.toNat_natCast, List.getElem?_eq_getElem hl]
  rw [List.getElem?_eq_getElem hl] at hn
  simp only at hn ⊢
  by_cases h0 : j = 0
  · rw [if_pos h0] at hn
    simp only [Bool.and_eq_true, beq_iff_eq] at hn
    have := hn.2.1
    omega
  · rw [if_neg h0] at hn
    simp only [Bool.and_eq_true, decide_eq_true_eq] at hn
    omega
theorem aboveF_fuel {l : List Nd} {n : Nat} (h : Fine l n) (hn : n ≤ l.length) : ∀ (f : Nat) (i : Int), i < n → i < f → aboveF l f i = above l i
  | 0, i, _, hf => by
    unfold above
    rw [show (i + 1).toNat = 0 by omega]
  | f + 1, i, hi, hf => by
    unfold above
    by_cases h0 : i < 0
    · rw [show (i + 1).toNat = 0 by omega]
      simp [aboveF, h0]
    · obtain ⟨k, rfl⟩ := Int.eq_ofNat_of_zero_le (show 0 ≤ i by omega)
      rw [show ((k : Int) + 1).toNat = k + 1 by omega]
      have hp := fine_par h (j := k) (by omega) (by omega)
      unfold aboveF
      rw [if_neg h0, if_neg h0, aboveF_fuel h hn f _ (by omega) (by omega), aboveF_fuel h hn k _ (by omega) (by omega)]
theorem above_neg (l : List Nd) {i : Int} (h : i < 0) : above l i = [] := by
  unfold above
  rw [show (i + 1).toNat = 0 by omega]
  rfl
theorem above_step {l : List Nd} {n : Nat} (h : Fine l n) (hn : n ≤ l.length) {k : Nat} (hk : k < n) : above l k = (k : Int) :: above l (parAt l k) := by
  have hp := fine_par h hk (by omega)
  conv => lhs; unfold above
  rw [show ((k : Int) + 1).toNat = k + 1 by omega]
  unfold aboveF
  rw [if_neg (by omega), aboveF_fuel h hn k _ (by omega) (by omega)]
theorem above_mem {l : List Nd} {n : Nat} (h : Fine l n) (hn : n ≤ l.length) : ∀ (k : Nat), k < n → ∀ x, x ∈ above l k → 0 ≤ x ∧ x ≤ k ∧ ∃ pre, above l k = pre ++ above l x := by
  intro k
  induction k using Nat.strongRecOn with
  | ind k ih =>
    intro hk x hx
    have hp := fine_par h hk (by omega)
    have hs := above_step h hn hk
    rw [hs] at hx
    rcases List.mem_cons.1 hx with rfl | hx
    · exact ⟨by omega, Int.le_refl _, [], rfl⟩
    · by_cases h0 : parAt l k < 0
      · rw [above_neg l h0] at hx
        cases hx
      · obtain ⟨q, hq⟩ := Int.eq_ofNat_of_zero_le (show 0 ≤ parAt l k by omega)
        rw [hq] at hx hs
        obtain ⟨h1, h2, pre, e⟩ := ih q (by omega) (by omega) x hx
        exact ⟨h1, by omega, (k : Int) :: pre, by rw [hs, e]; rfl⟩
theorem above_pos {l : List Nd} {n : Nat} (h : Fine l n) (hn : n ≤ l.length) {k : Nat} (hk : k < n) : 1 ≤ (above l k).length ∧ (above l k)[0]? = some (k : Int) := by
  rw [above_step h hn hk]
  simp
theorem above_len {l : List Nd} {n : Nat} (h : Fine l n) (hn : n ≤ l.length) : ∀ (k : Nat), k < n → (above l k).length ≤ k + 1 := by
  intro k
  induction k using Nat.strongRecOn with
  | ind k ih =>
    intro hk
    have hp := fine_par h hk (by omega)
    rw [above_step h hn hk]
    by_cases h0 : parAt l k < 0
    · rw [above_neg l h0]; simp
    · obtain ⟨q, hq⟩ := Int.eq_ofNat_of_zero_le (show 0 ≤ parAt l k by omega)
      rw [hq]
      have := ih q (by omega) (by omega)
      simp
      omega
/-- How the program finds a parent on the path from the root. -/
theorem on_path {l : List Nd} {n : Nat} (h : Fine l n) (hn : n ≤ l.length) {k q : Nat} (hk : k < n) (hq : q < n) :
    (above l k).contains (q : Int) = (decide ((above l q).length ≤ (above l k).length) && ((above l k).reverse[(above l q).length - 1]? == some (q : Int))) := by
  have hp := above_pos h hn hq
  rw [Bool.eq_iff_iff]
  simp only [List.contains_iff_mem, Bool.and_eq_true, decide_eq_true_eq, beq_iff_eq]
  constructor
  · intro hm
    obtain ⟨_, _, pre, e⟩ := above_mem h hn k hk _ hm
    refine ⟨by rw [e]; simp, ?_⟩
    rw [e, List.reverse_append, List.getElem?_append_left (by simp; omega), List.getElem?_reverse (by omega)]
    rw [show (above l q).length - 1 - ((above l q).length - 1) = 0 by omega]
    exact hp.2
  · rintro ⟨_, hm⟩
    have := List.mem_of_getElem? hm
    simpa using this
/-- The path behind a node that is fine. -/
theorem path_step {l : List Nd} {n : Nat} (h : Fine l n) (hn : n ≤ l.length) {k q : Nat} (hk : k < n) (hm : (above l k).contains (q : Int) = true) : (above l k).reverse.take (above l q).length = (above l q).reverse := by
  obtain ⟨_, _, pre, e⟩ := above_mem h hn k hk _ (by simpa using hm)
  rw [e, List.reverse_append, List.take_append_of_le_length (by simp)]
  rw [List.take_of_length_le (by simp)]
theorem node_zero {l : List Nd} (h : 0 < l.length) : nodeOkB l 0 = (propsB l[0].ps && ((l[0].p == -1) && decide (l[0].n = ByteArray.empty))) := by
  unfold nodeOkB
  rw [List.getElem?_eq_getElem h]
  simp
theorem node_some {l : List Nd} {i : Nat} (h : i < l.length) (h0 : i ≠ 0) : nodeOkB l i = (decide (i < 512) && propsB l[i].ps && (nameB l[i].n.data.toList && decide (0 ≤ l[i].p) && decide (l[i].p < i) && (above l (i - 1 : Nat)).contains l[i].p && decide ((above l l[i].p).length + 1 ≤ 16) && !twinB l i l[i].p l[i].n)) := by
  unfold nodeOkB
  rw [List.getElem?_eq_getElem h]
  simp only [if_neg h0]
theorem twin_iff {l : List Nd} {i : Nat} (hi : i ≤ l.length) (p : Int) (n : ByteArray) : twinB l i p n = true ↔ ∃ (j : Nat) (h : j < l.length), 1 ≤ j ∧ j < i ∧ l[j].p = p ∧ l[j].n = n := by
  unfold twinB
  rw [List.any_eq_true]
  constructor
  · rintro ⟨x, hx, h⟩
    obtain ⟨j, hj, rfl⟩ := List.mem_iff_getElem.1 hx
    simp only [List.length_drop, List.length_take] at hj
    simp only [List.getElem_drop, List.getElem_take, Bool.and_eq_true, beq_iff_eq, decide_eq_true_eq] at h
    exact ⟨1 + j, by omega, by omega, by omega, h.1, h.2⟩
  · rintro ⟨j, hj, h1, h2, h3, h4⟩
    refine ⟨l[j], List.mem_iff_getElem.2 ⟨j - 1, by simp; omega, ?_⟩, by simp [h3, h4]⟩
    simp only [List.getElem_drop, List.getElem_take]
    congr 1
    omega
theorem prop_some {ps : List Pr} {i : Nat} (h : i < ps.length) : propOkB ps i = (nameB ps[i].n.data.toList && decide (ps[i].v.size ≤ 1024) && (ps.take i).all fun y => !decide (y.n = ps[i].n)) := by
  unfold propOkB
  rw [List.getElem?_eq_getElem h]
theorem apart_iff {ps : List Pr} {i : Nat} (hi : i ≤ ps.length) (n : ByteArray) : ((ps.take i).all fun y => !decide (y.n = n)) = true ↔ ∀ (j : Nat) (h : j < ps.length), j < i → ps[j].n ≠ n := by
  rw [List.all_eq_true]
  constructor
  · intro h j hj hji e
    have := h ps[j] (List.mem_iff_getElem.2 ⟨j, by simp; omega, by simp⟩)
    simp [e] at this
  · intro h x hx
    obtain ⟨j, hj, rfl⟩ := List.mem_iff_getElem.1 hx
    simp only [List.length_take] at hj
    have := h j (by omega) (by omega)
    simpa using this
/-- What Check says. -/
def checkF (l : List Nd) : Int × Int := match (List.range l.length).find? fun i => !nodeOkB l i with
  | some i => (Int.ofNat i, 40)
  | none => if l.length = 0 then (0, 40) else (0, 0)
theorem check_bad {l : List Nd} {i : Nat} (hi : i < l.length) (hf : Fine l i) (hb : nodeOkB l i = false) : checkF l = ((i : Int), 40) := by
  unfold checkF
  have : (List.range l.length).find? (fun i => !nodeOkB l i) = some i := by
    rw [List.find?_range_eq_some]
    refine ⟨by simp [hb], by simpa using hi, fun j hj => ?_⟩
    simp [hf j hj]
  rw [this]
  rfl
theorem check_ok {l : List Nd} (hf : Fine l l.length) : checkF l = if l.length = 0 then (0, 40) else (0, 0) := by
  unfold checkF
  have : (List.range l.length).find? (fun i => !nodeOkB l i) = none := by
    rw [List.find?_eq_none]
    intro j hj
    simp [hf j (by simpa using hj)]
  rw [this]
/-- The same, one by one? -/
def sameProps (a b : List Pr) : Bool := a.length == b.length && (List.range a.length).all fun i => match a[i]?, b[i]? with
  | some x, some y => decide (x.n = y.n) && decide (x.v = y.v)
  | _, _ => false
def sameNode (x y : Nd) : Bool := (x.p == y.p) && decide (x.n = y.n) && sameProps x.ps y.ps
def sameB (a b : List Nd) : Bool := a.length == b.length && (List.range a.length).all fun i => match a[i]?, b[i]? with
  | some x, some y => sameNode x y
  | _, _ => false
theorem same_refl_props (a : List Pr) : sameProps a a = true := by
  unfold sameProps
  simp only [beq_self_eq_true, Bool.true_and]
  rw [all_range]
  intro i hi
  rw [List.getElem?_eq_getElem hi]
  simp
theorem same_refl (a : List Nd) : sameB a a = true := by
  unfold sameB
  simp only [beq_self_eq_true, Bool.true_and]
  rw [all_range]
  intro i hi
  rw [List.getElem?_eq_getElem hi]
  simp [sameNode, same_refl_props]
end Go.Proofs.YtmdnbajbfnhecaaGreatDoor
