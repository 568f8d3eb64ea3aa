/- The lists of TreeNames as data, and what the document says of them. -/
import Derived.Test.YtmdnbajbfnhecaaDoorWorks
set_option linter.unusedVariables false
namespace Go.Proofs.YtmdnbajbfnhecaaDoor
open Go.RowKit
/-- A root and its kids, of names that are fine and apart. -/
structure Flat (l : List Nd) : Prop where
  pos : 0 < l.length
  root : ∀ h : 0 < l.length, l[0].p = -1 ∧ l[0].n = ByteArray.empty ∧ l[0].ps = []
  kid : ∀ (i : Nat) (h : i < l.length), 0 < i → l[i].p = 0 ∧ nameB l[i].n.data.toList = true ∧ l[i].ps = []
  apart : ∀ (i j : Nat) (hi : i < l.length) (hj : j < l.length), 0 < i → i < j → l[i].n ≠ l[j].n
theorem flat_zero {l : List Nd} (h : Flat l) : Fine l 1 := fun j hj => by
  obtain rfl : j = 0 := by omega
  obtain ⟨h1, h2, h3⟩ := h.root h.pos
  rw [node_zero h.pos, h1, h2, h3]
  rfl
theorem flat_above {l : List Nd} (h : Flat l) {n : Nat} (hf : Fine l n) (hn : n ≤ l.length) {k : Nat} (hk : k < n) : (above l k).contains (0 : Int) = true ∧ (above l (0 : Int)).length = 1 := by
  have h0 : above l ((0 : Nat) : Int) = [0] := by
    rw [above_step hf hn (k := 0) (by omega)]
    have : parAt l ((0 : Nat) : Int) = -1 := by
      unfold parAt
      rw [Int.toNat_natCast, List.getElem?_eq_getElem h.pos]
      exact (h.root h.pos).1
    rw [this, above_neg l (by omega)]
    rfl
  refine ⟨?_, by rw [show (0 : Int) = ((0 : Nat) : Int) from rfl, h0]; rfl⟩
  by_cases hk0 : k = 0
  · subst hk0
    rw [h0]; rfl
  · rw [above_step hf hn hk]
    have : parAt l (k : Int) = ((0 : Nat) : Int) := by
      unfold parAt
      rw [Int.toNat_natCast, List.getElem?_eq_getElem (by omega)]
      exact (h.kid k (by omega) (by omega)).1
    rw [this, h0]
    simp
theorem flat_fine {l : List Nd} (h : Flat l) : ∀ n : Nat, 1 ≤ n → n ≤ l.length → n ≤ 512 → Fine l n
  | 0, h1, _, _ => by omega
  | 1, _, _, _ => flat_zero h
  | k + 2, _, hn, h5 => by
    have ih := flat_fine h (k + 1) (by omega) (by omega) (by omega)
    refine fine_succ ih ?_
    have hk : k + 1 < l.length := by omega
    obtain ⟨h1, h2, h3⟩ := h.kid (k + 1) hk (by omega)
    obtain ⟨a1, a2⟩ := flat_above h ih (by omega) (k := k) (by omega)
    have ht : twinB l (k + 1) 0 l[k + 1].n = false := by
      rw [Bool.eq_false_iff]
      intro ht
      obtain ⟨j, hj, j1, j2, j3, j4⟩ := (twin_iff (by omega) 0 l[k + 1].n).1 ht
      exact h.apart j (k + 1) hj hk (by omega) j2 j4
    rw [node_some hk (by omega), h1, h2, h3, ht, show k + 1 - 1 = k by omega, a1, a2]
    simp only [show decide (k + 1 < 512) = true from decide_eq_true (by omega), show propsB [] = true from rfl, show decide ((0 : Int) < ((k + 1 : Nat) : Int)) = true from decide_eq_true (by omega)]
    rfl
theorem flat_ok {l : List Nd} (h : Flat l) (h5 : l.length ≤ 512) : checkF l = (0, 0) := by
  rw [check_ok (flat_fine h _ h.pos (Nat.le_refl _) h5), if_neg (by have := h.pos; omega)]
theorem flat_long {l : List Nd} (h : Flat l) (h5 : l.length = 513) : checkF l = (512, 40) := by
  refine check_bad (i := 512) (by omega) (flat_fine h 512 (by omega) (by omega) (by omega)) ?_
  rw [node_some (by omega) (by omega)]
  rfl
/-- The bytes of a name, and the name. -/
def nmB (i : Nat) : List UInt8 := [(97 + i / 26 / 26 % 26).toUInt8, (97 + i / 26 % 26).toUInt8, (97 + i % 26).toUInt8]
def nmI (i : Nat) : ByteArray := ⟨(107 :: nmB i).toArray⟩
theorem nm_nat (x : Nat) : ((97 + x % 26).toUInt8).toNat = 97 + x % 26 := by
  rw [Nat.toUInt8_eq]
  simp only [UInt8.toNat_ofNat']
  have := Nat.mod_lt x (show 26 > 0 by omega)
  omega
theorem nm_inj {i j : Nat} (hi : i < 17576) (hj : j < 17576) (h : nmI i = nmI j) : i = j := by
  have e : (107 :: nmB i : List UInt8) = 107 :: nmB j := by
    have := congrArg (fun s : ByteArray => s.data.toList) h
    simpa only [nmI, List.toList_toArray] using this
  simp only [nmB, List.cons.injEq, true_and, and_true] at e
  obtain ⟨e1, e2, e3⟩ := e
  have f1 := congrArg UInt8.toNat e1
  have f2 := congrArg UInt8.toNat e2
  have f3 := congrArg UInt8.toNat e3
  rw [nm_nat, nm_nat] at f1 f2 f3
  omega
theorem ch_ok (x : Nat) : chB (((97 + x % 26).toUInt8).toNat : Int) = true := by
  rw [nm_nat]
  have := Nat.mod_lt x (show 26 > 0 by omega)
  unfold chB
  rw [show decide ((97 : Int) ≤ ((97 + x % 26 : Nat) : Int) ∧ ((97 + x % 26 : Nat) : Int) ≤ 122) = true from decide_eq_true (by omega)]
  rfl
theorem nm_ok (i : Nat) : nameB (nmI i).data.toList = true := by
  have e : (nmI i).data.toList = 107 :: nmB i := by simp [nmI]
  rw [e]
  unfold nameB nmB
  simp only [List.all_cons, List.all_nil, ch_ok]
  rfl
theorem nm_size (i : Nat) : (nmI i).size = 4 := rfl
def nodeI (i : Nat) : Nd := ⟨0, nmI i, []⟩
def rootN : Nd := ⟨-1, ⟨#[]⟩, []⟩
/-- A root and k kids. -/
def namesD (k : Nat) : List Nd := rootN :: (List.range k).map fun j => nodeI (j + 1)
theorem namesD_len (k : Nat) : (namesD k).length = k + 1 := by simp [namesD]
theorem names_snoc (k : Nat) : namesD (k + 1) = namesD k ++ [nodeI (k + 1)] := by
  simp [namesD, List.range_succ]
theorem names_get {k i : Nat} (h : i < (namesD k).length) (h0 : 0 < i) : (namesD k)[i] = nodeI i := by
  obtain ⟨j, rfl⟩ : ∃ j, i = j + 1 := ⟨i - 1, by omega⟩
  simp [namesD]
theorem names_flat (k : Nat) (hk : k < 17575) : Flat (namesD k) := by
  refine ⟨by rw [namesD_len]; omega, fun h => ⟨rfl, rfl, rfl⟩, fun i h h0 => ?_, fun i j hi hj h0 hij he => ?_⟩
  · rw [names_get h h0]
    exact ⟨rfl, nm_ok i, rfl⟩
  · rw [names_get hi h0, names_get hj (by omega)] at he
    rw [namesD_len] at hi hj
    have := nm_inj (by omega) (by omega) he
    omega
def kMore : ByteArray := ⟨#[109, 111, 114, 101]⟩
theorem more_flat (k : Nat) (hk : k < 17575) : Flat (namesD k ++ [⟨0, kMore, []⟩]) := by
  have hf := names_flat k hk
  have hl := namesD_len k
  refine ⟨by simp, fun h => ⟨rfl, rfl, rfl⟩, fun i h h0 => ?_, fun i j hi hj h0 hij he => ?_⟩
  · by_cases hi : i < (namesD k).length
    · rw [List.getElem_append_left hi]
      exact hf.kid i hi h0
    · rw [List.length_append, List.length_singleton] at h
      have : i = (namesD k).length := by omega
      subst this
      rw [List.getElem_append_right (Nat.le_refl _)]
      simp only [Nat.sub_self, List.getElem_singleton]
      refine ⟨by first | rfl | trivial, by decide, by first | rfl | trivial⟩
  · rw [List.length_append, List.length_singleton] at hi hj
    rw [List.getElem_append_left (by omega)] at he
    by_cases hj' : j < (namesD k).length
    · rw [List.getElem_append_left hj'] at he
      exact hf.apart i j (by omega) hj' h0 hij he
    · have : j = (namesD k).length := by omega
      subst this
      rw [List.getElem_append_right (Nat.le_refl _)] at he
      simp only [Nat.sub_self, List.getElem_singleton] at he
      rw [names_get (by omega) h0] at he
      have := congrArg (fun s : ByteArray => s.data.toList.head?) he
      simp [nodeI, nmI, kMore] at this
theorem names_ok : checkF (namesD 511) = (0, 0) := flat_ok (names_flat _ (by omega)) (by rw [namesD_len]; omega)
theorem names_more : checkF (namesD 511 ++ [⟨0, kMore, []⟩]) = (512, 40) := flat_long (more_flat _ (by omega)) (by simp [namesD_len])
def kD : ByteArray := ⟨#[100]⟩
/-- A chain of a root and k nodes beneath it. -/
def deepD (k : Nat) : List Nd := rootN :: (List.range k).map fun (j : Nat) => ⟨(j : Int), kD, []⟩
theorem deep_len (k : Nat) : (deepD k).length = k + 1 := by simp [deepD]
theorem deep_snoc (k : Nat) : deepD (k + 1) = deepD k ++ [⟨(k : Int), kD, []⟩] := by simp [deepD, List.range_succ]
set_option maxRecDepth 100000 in
theorem deep_ok : checkF (deepD 15) = (0, 0) := by kernel_rfl
set_option maxRecDepth 100000 in
theorem deep_long : checkF (deepD 16) = (16, 40) := by kernel_rfl
end Go.Proofs.YtmdnbajbfnhecaaDoor
