/- Where what is beneath a node ends; a cut as data. -/
import Derived.Test.YtmdnbajbfnhecaaGreatDoorMem
set_option linter.unusedVariables false
namespace Go.Proofs.YtmdnbajbfnhecaaGreatDoor
open Go.RowKit
/-! What is wrong with a tree and a place; where what is beneath a node ends; a cut, as data. -/
def wrongF (l : List Nd) (i : Int) : Int := if (checkF l).2 = 0 then (if i < 0 ∨ (l.length : Int) ≤ i then 1 else 0) else 40
theorem check_fine {l : List Nd} (h : (checkF l).2 = 0) : Fine l l.length ∧ 0 < l.length ∧ l.length ≤ 512 := by
  unfold checkF at h
  split at h
  · cases h
  · rename_i hn
    rw [List.find?_eq_none] at hn
    have hf : Fine l l.length := fun j hj => by
      have := hn j (by simpa using hj)
      simpa using this
    refine ⟨hf, ?_, ?_⟩
    · rcases Nat.eq_zero_or_pos l.length with h0 | h0
      · rw [if_pos h0] at h; cases h
      · exact h0
    · rcases Nat.lt_or_ge 512 l.length with h5 | h5
      · have := hf 512 h5
        rw [node_some h5 (by omega)] at this
        simp at this
      · exact h5
theorem check_two (l : List Nd) : (checkF l).2 = 0 ∨ (checkF l).2 = 40 := by
  unfold checkF
  split
  · exact .inr rfl
  · split
    · exact .inr rfl
    · exact .inl rfl
theorem wrong_zero {l : List Nd} {i : Int} (h : wrongF l i = 0) : Fine l l.length ∧ l.length ≤ 512 ∧ ∃ k : Nat, i = k ∧ k < l.length := by
  unfold wrongF at h
  split at h
  · rename_i hc
    obtain ⟨hf, h1, h2⟩ := check_fine hc
    split at h
    · cases h
    · refine ⟨hf, h2, i.toNat, by omega, by omega⟩
  · cases h
/-- What is beneath node i ends at z. -/
structure EndAt (l : List Nd) (i z : Nat) : Prop where
  lt : i < z
  le : z ≤ l.length
  under : ∀ j : Nat, i < j → j < z → (i : Int) ≤ parAt l j
  stop : z < l.length → parAt l z < i
theorem end_from (l : List Nd) (i : Nat) : ∀ (m k : Nat), l.length - k = m → i < k → k ≤ l.length → (∀ j : Nat, i < j → j < k → (i : Int) ≤ parAt l j) → ∃ z, EndAt l i z
  | 0, k, hm, hk, hl, h => ⟨k, hk, hl, h, fun hz => by omega⟩
  | m + 1, k, hm, hk, hl, h => by
    by_cases hp : (i : Int) ≤ parAt l k
    · exact end_from l i m (k + 1) (by omega) (by omega) (by omega) fun j h1 h2 => by
        rcases (show j < k ∨ j = k by omega) with h3 | rfl
        · exact h j h1 h3
        · exact hp
    · exact ⟨k, hk, hl, h, fun _ => by omega⟩
theorem end_exists (l : List Nd) {i : Nat} (hi : i < l.length) : ∃ z, EndAt l i z := end_from l i _ (i + 1) rfl (by omega) (by omega) (fun j h1 h2 => by omega)
/-- What is beneath: told by those above, or by the parent alone. -/
theorem under_iff {l : List Nd} (hf : Fine l l.length) {i : Nat} : ∀ (k : Nat), i < k → k < l.length → (∀ j : Nat, i < j → j < k → (i : Int) ≤ parAt l j) → (above l k).contains (i : Int) = decide ((i : Int) ≤ parAt l k) := by
  intro k
  induction k using Nat.strongRecOn with
  | ind k ih =>
    intro hik hk h
    have hp := fine_par hf hk hk
    rw [above_step hf (Nat.le_refl _) hk, List.contains_cons]
    have e1 : ((i : Int) == (k : Int)) = false := by rw [beq_eq_false_iff_ne]; omega
    rw [e1, Bool.false_or]
    obtain ⟨p, hpp⟩ := Int.eq_ofNat_of_zero_le (hp.2.2 (by omega))
    rw [hpp] at hp ⊢
    by_cases hle : (i : Int) ≤ (p : Int)
    · rw [decide_eq_true hle, List.contains_iff_mem]
      rcases (show p = i ∨ i < p by omega) with rfl | hlt
      · rw [above_step hf (Nat.le_refl _) (by omega)]
        exact List.mem_cons_self
      · have := ih p (by omega) hlt (by omega) (fun j h1 h2 => h j h1 (by omega))
        rw [decide_eq_true (h p hlt (by omega))] at this
        exact List.contains_iff_mem.1 this
    · rw [decide_eq_false hle, Bool.eq_false_iff]
      intro hm
      rw [List.contains_iff_mem] at hm
      have := (above_mem hf (Nat.le_refl _) p (by omega) _ hm).2.1
      omega
def Nd.par (x : Nd) (p : Int) : Nd := ⟨p, x.n, x.ps⟩
def pieceF (l : List Nd) (i z : Nat) : List Nd := ((l.take z).drop i).mapIdx fun j x => x.par (if j = 0 then -1 else x.p - i)
def restOne (i z : Nat) (x : Nd) : Nd := if (z : Int) ≤ x.p then x.par (x.p - ((z : Int) - i)) else x
def restF (l : List Nd) (i z : Nat) : List Nd := (l.take i ++ l.drop z).map (restOne i z)
def cutE (l : List Nd) (i : Int) : Int := if wrongF l i = 0 ∧ i = 0 then 1 else wrongF l i
/-- Halfway through a change in place. -/
theorem mix_start {α : Type} (X D : List α) : X.take 0 ++ D.drop 0 = D := by simp
theorem mix_end {α : Type} {X D : List α} (h : X.length = D.length) : X.take X.length ++ D.drop X.length = X := by
  rw [List.take_of_length_le (Nat.le_refl _), List.drop_of_length_le (by omega)]
  simp
theorem mix_len {α : Type} {X D : List α} (h : X.length = D.length) (k : Nat) (hk : k ≤ X.length) : (X.take k ++ D.drop k).length = D.length := by
  simp; omega
theorem mix_at {α : Type} {X D : List α} (h : X.length = D.length) {k : Nat} (hk : k < X.length) : (X.take k ++ D.drop k)[k]? = some (D[k]'(by omega)) := by
  rw [List.getElem?_append_right (by simp; omega)]
  simp
  rw [show k + (k - min k X.length) = k by omega, List.getElem?_eq_getElem (by omega)]
theorem mix_step {α : Type} {X D : List α} (h : X.length = D.length) {k : Nat} (hk : k < X.length) : (X.take k ++ D.drop k).set k X[k] = X.take (k + 1) ++ D.drop (k + 1) := by
  apply List.ext_getElem?
  intro j
  rw [List.getElem?_set]
  split
  · rename_i e
    subst e
    rw [if_pos (by simp; omega)]
    rw [List.getElem?_append_left (by simp; omega), List.getElem?_take_of_lt (by omega), List.getElem?_eq_getElem hk]
  · rename_i e
    rcases Nat.lt_or_ge j k with h1 | h1
    · rw [List.getElem?_append_left (by simp; omega), List.getElem?_append_left (by simp; omega), List.getElem?_take_of_lt h1, List.getElem?_take_of_lt (by omega)]
    · rw [List.getElem?_append_right (by simp; omega), List.getElem?_append_right (by simp; omega)]
      simp only [List.getElem?_drop, List.length_take]
      congr 1
      omega
theorem dat_set (l : List Nm) (k : Nat) (y : Nm) : dat (l.set k y) = (dat l).set k y.d := by simp [dat, List.map_set]
theorem piece_len (l : List Nd) (i z : Nat) : (pieceF l i z).length = ((l.take z).drop i).length := by simp [pieceF]
theorem piece_get {l : List Nd} {i z k : Nat} (hz : z ≤ l.length) (h : i + k < z) : (pieceF l i z)[k]? = some (l[i + k].par (if k = 0 then -1 else l[i + k].p - i)) := by
  unfold pieceF
  rw [List.getElem?_mapIdx, List.getElem?_drop, List.getElem?_take_of_lt h, List.getElem?_eq_getElem (by omega)]
  rfl
theorem rest_len (l : List Nd) (i z : Nat) : (restF l i z).length = (l.take i ++ l.drop z).length := by simp [restF]
/-- The nodes ahead of the cut stay as they are. -/
theorem rest_head {l : List Nd} (hf : Fine l l.length) {i z : Nat} (hi : i ≤ z) (hil : i ≤ l.length) : (restF l i z).take i ++ (l.take i ++ l.drop z).drop i = l.take i ++ l.drop z := by
  have e1 : (l.take i ++ l.drop z).drop i = l.drop z := by rw [List.drop_append_of_le_length (by simp; omega)]; simp
  have e2 : (restF l i z).take i = l.take i := by
    unfold restF
    rw [List.map_append, List.take_append_of_le_length (by simp; omega), List.take_of_length_le (by simp; omega)]
    apply List.ext_getElem (by simp)
    intro j h1 h2
    simp only [List.length_map, List.length_take] at h1
    simp only [List.getElem_map, List.getElem_take]
    unfold restOne
    have hp := fine_par hf (j := j) (by omega) (by omega)
    unfold parAt at hp
    rw [Int.toNat_natCast, List.getElem?_eq_getElem (by omega)] at hp
    rw [if_neg (by simp only at hp; omega)]
  rw [e1, e2]
theorem take_snoc {α : Type} {l : List α} {k : Nat} (hk : k < l.length) : l.take (k + 1) = l.take k ++ [l[k]] := List.take_succ_eq_append_getElem hk
theorem restF_out {l : List Nd} {i z k : Nat} (hk : k < l.length) (hiz : i < z) (h : k < i ∨ z ≤ k) : restF (l.take (k + 1)) i z = restF (l.take k) i z ++ [restOne i z l[k]] := by
  rw [take_snoc hk]
  unfold restF
  rcases h with h | h
  · rw [List.take_of_length_le (l := l.take k ++ [l[k]]) (by simp; omega), List.take_of_length_le (l := l.take k) (by simp; omega), List.drop_of_length_le (l := l.take k ++ [l[k]]) (by simp; omega), List.drop_of_length_le (l := l.take k) (by simp; omega), List.append_nil, List.append_nil, List.map_append]
    rfl
  · rw [List.take_append_of_le_length (by simp; omega), List.drop_append_of_le_length (by simp; omega)]
    simp
theorem restF_in {l : List Nd} {i z k : Nat} (hk : k < l.length) (hiz : i < z) (h : i ≤ k) (h2 : k < z) : restF (l.take (k + 1)) i z = restF (l.take k) i z := by
  rw [take_snoc hk]
  unfold restF
  rw [List.take_append_of_le_length (by simp; omega), List.drop_of_length_le (l := l.take k ++ [l[k]]) (by simp; omega), List.drop_of_length_le (l := l.take k) (by simp; omega)]
theorem pieceF_out {l : List Nd} {i z k : Nat} (hk : k < l.length) (hiz : i < z) (h : k < i ∨ z ≤ k) : pieceF (l.take (k + 1)) i z = pieceF (l.take k) i z := by
  unfold pieceF
  congr 1
  rcases h with h | h
  · rw [List.drop_of_length_le (by simp; omega), List.drop_of_length_le (by simp; omega)]
  · rw [List.take_take, List.take_take, Nat.min_eq_left (by omega), Nat.min_eq_left (by omega)]
theorem pieceF_in {l : List Nd} {i z k : Nat} (hk : k < l.length) (hiz : i < z) (h : i ≤ k) (h2 : k < z) : pieceF (l.take (k + 1)) i z = pieceF (l.take k) i z ++ [l[k].par (if k = i then -1 else l[k].p - i)] := by
  unfold pieceF
  rw [List.take_of_length_le (l := l.take (k + 1)) (by simp; omega), List.take_of_length_le (l := l.take k) (by simp; omega), take_snoc hk, List.drop_append_of_le_length (by simp; omega), List.mapIdx_append]
  congr 1
  simp only [List.mapIdx_cons, List.mapIdx_nil, List.length_drop, List.length_take]
  by_cases e : k = i
  · rw [if_pos e, if_pos (by omega)]
  · rw [if_neg e, if_neg (by omega)]
end Go.Proofs.YtmdnbajbfnhecaaGreatDoor
