/- Columns: plain law. -/
import Derived.Test.YtfipljhlponcoaaDoorRFit
import Derived.Test.YtfipljhlponcoaaDoorShelf2
set_option linter.unusedVariables false
namespace Go.Proofs.YtfipljhlponcoaaDoor
open Go.RowKit
/-- Texts, one space between any two. -/
def joinN : List (List Nat) → List Nat
  | [] => []
  | x :: r => x ++ (r.map ([32] ++ ·)).flatten
/-- What is left when the spaces at the end are taken off. -/
def trimN (l : List Nat) : List Nat := (l.reverse.dropWhile (· == 32)).reverse
/-- A row's line. -/
def lineF (ws : List Int) (r : List (List Nat)) : List Nat := trimN (joinN (List.zipWith (fun t w => (fitF t w).1) r ws))
def widthsB (ws : List Int) : Prop := ws.length ≤ 64 ∧ ∀ x ∈ ws, 1 ≤ x ∧ x ≤ 4096
instance (ws : List Int) : Decidable (widthsB ws) := by unfold widthsB; infer_instance
/-- What Columns gives. -/
def colsF (rows : List (List (List Nat))) (ws : List Int) : Option (List (List Nat)) :=
  if widthsB ws ∧ ∀ r ∈ rows, r.length ≤ ws.length then some (rows.map (lineF ws)) else none
theorem nl_mk (l : List UInt8) : nl ⟨l.toArray⟩ = l.map UInt8.toNat := by simp [nl]
theorem nl_join (xs : List ByteArray) : nl ⟨(Lib.join (xs.map (·.data.toList)) [32]).toArray⟩ = joinN (xs.map nl) := by
  rw [nl_mk]
  cases xs with
  | nil => rfl
  | cons x r =>
    simp only [List.map_cons, Lib.join_cons, Lib.joinTail, joinN, List.map_append, List.map_flatten, List.map_map]
    rfl
theorem nl_trim (s : ByteArray) : nl ⟨(Lib.trimRightB s.data.toList 32).toArray⟩ = trimN (nl s) := by
  rw [nl_mk]
  unfold Lib.trimRightB trimN nl
  rw [List.map_reverse, ← List.map_reverse (l := s.data.toList), List.dropWhile_map]
  congr 3
  funext c
  rw [Bool.eq_iff_iff]
  simp only [Function.comp, beq_iff_eq]
  constructor
  · rintro rfl; rfl
  · intro h; exact UInt8.toNat_inj.1 h
theorem joinN_snoc (es : List (List Nat)) (x : List Nat) : joinN (es ++ [x]) = joinN es ++ ((if es = [] then [] else [32]) ++ x) := by
  cases es with
  | nil => simp [joinN]
  | cons a t => simp [joinN]
theorem joinN_len (es : List (List Nat)) (b : Nat) (h : ∀ e ∈ es, e.length ≤ b) : (joinN es).length ≤ es.length * (b + 1) := by
  cases es with
  | nil => simp [joinN]
  | cons x r =>
    have hx := h x (by simp)
    have : ∀ r : List (List Nat), (∀ e ∈ r, e.length ≤ b) → ((r.map ([32] ++ ·)).flatten).length ≤ r.length * (b + 1) := fun r => by
      induction r with
      | nil => simp
      | cons y t ih =>
        intro h
        have h1 := ih fun e he => h e (by simp [he])
        have h2 := h y (by simp)
        simp only [List.map_cons, List.flatten_cons, List.length_append, List.length_cons, List.length_nil, Nat.add_mul]
        omega
    have h1 := this r fun e he => h e (by simp [he])
    simp only [joinN, List.length_append, List.length_cons, Nat.add_mul]
    omega
theorem flat4 (es : List (List Nat)) (h : ∀ e ∈ es, e.length ≤ 4) : es.flatten.length ≤ 4 * es.length := by
  induction es with
  | nil => simp
  | cons a t ih =>
    have := ih fun e he => h e (by simp [he])
    have := h a (by simp)
    rw [List.flatten_cons, List.length_append, List.length_cons]
    omega
theorem fit_len (l : List Nat) (hl : ∀ x ∈ l, x < 256) (n : Int) : (fitF l n).1.length ≤ 20480 := by
  have h4 : ∀ e ∈ shows 92 l, e.length ≤ 4 := fun e he => by
    obtain ⟨r, _, rfl⟩ := all_rune _ _ _ hl e he
    exact (enc_len r).2
  unfold fitF
  split
  · simp
  rename_i hn
  split
  · have := flat4 _ h4
    simp only [List.length_append, List.length_replicate]
    omega
  · have := flat4 ((shows 92 l).take (n.toNat - 1)) fun e he => h4 e (List.mem_of_mem_take he)
    have h2 : ((shows 92 l).take (n.toNat - 1)).length ≤ n.toNat - 1 := List.length_take_le _ _
    simp only [List.length_append, List.length_cons, List.length_nil]
    omega
/-- The loop from the end: what it leaves. -/
theorem trim_take {l : List Nat} {k : Nat} (hk : k ≤ l.length) (h : ∀ j (hj : j < l.length), k ≤ j → l[j] = 32) (h0 : k = 0 ∨ ∃ (h1 : k - 1 < l.length), l[k - 1] ≠ 32) : trimN l = l.take k := by
  have e : l = l.take k ++ List.replicate (l.length - k) 32 := by
    conv => lhs; rw [← List.take_append_drop k l]
    congr 1
    apply List.ext_getElem (by simp)
    intro i h1 h2
    rw [List.getElem_drop, List.getElem_replicate]
    exact h _ _ (by omega)
  unfold trimN
  conv => lhs; rw [e]
  rw [List.reverse_append, List.reverse_replicate, List.dropWhile_append]
  have h1 : (List.replicate (l.length - k) 32).dropWhile (· == 32) = [] := by
    generalize l.length - k = m
    induction m with
    | zero => rfl
    | succ m ih => rw [List.replicate_succ, List.dropWhile_cons]; simp [ih]
  rw [h1]
  simp only [List.isEmpty_nil, if_true]
  have h2 : ((l.take k).reverse).dropWhile (· == 32) = (l.take k).reverse := by
    rcases h0 with rfl | ⟨h1, hne⟩
    · simp
    · cases k with
      | zero => simp
      | succ k =>
        rw [List.take_succ_eq_append_getElem (by omega), List.reverse_append]
        simp only [List.reverse_cons, List.reverse_nil, List.nil_append, List.singleton_append, List.dropWhile_cons]
        rw [if_neg (by simpa using hne)]
  rw [h2, List.reverse_reverse]
theorem zip_take (ts : List ByteArray) (ws : List Int) (k : Nat) (h : k < ts.length) (h2 : k < ws.length) : List.zipWith (fun t w => (fitF t w).1) ((ts.take (k + 1)).map nl) ws = List.zipWith (fun t w => (fitF t w).1) ((ts.take k).map nl) ws ++ [(fitF (nl ts[k]) ws[k]).1] := by
  rw [List.take_succ_eq_append_getElem h, List.map_append]
  conv => lhs; rw [← List.take_append_drop k ws]
  rw [List.zipWith_append (by simp; omega), List.drop_eq_getElem_cons h2]
  congr 1
  conv => rhs; rw [← List.take_append_drop k ws]
  have e : ((ts.take k).map nl) = ((ts.take k).map nl) ++ [] := by simp
  conv => rhs; rw [e]
  rw [List.zipWith_append (by simp; omega)]
  simp
end Go.Proofs.YtfipljhlponcoaaDoor
