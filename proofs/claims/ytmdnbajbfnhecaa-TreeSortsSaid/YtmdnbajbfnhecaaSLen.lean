/- A tree in order has as many nodes as before. No program in sight. -/
import Derived.Test.YtmdnbajbfnhecaaSCmp
import Derived.Test.YtmdnbajbfnhecaaFindLaw
set_option linter.unusedVariables false
namespace Go.Proofs.Ytmdnbajbfnhecaa
def cntF (l : List Nd) : Nat → Nat → Nat
  | 0, _ => 0
  | f + 1, i => 1 + ((kidsN l i).map (cntF l f)).sum
theorem sum_perm : ∀ {a b : List Nat}, a.Perm b → a.sum = b.sum
  | _, _, .nil => rfl
  | _, _, .cons x h => by rw [List.sum_cons, List.sum_cons, sum_perm h]
  | _, _, .swap x y l => by simp only [List.sum_cons]; omega
  | _, _, .trans h1 h2 => (sum_perm h1).trans (sum_perm h2)
theorem ordKids_len {rec : Nat → Nat → List Nd} {c : Nat → Nat} : ∀ (ks : List Nat) (b : Nat), (∀ k ∈ ks, ∀ d, (rec k d).length = c k) → (ordKids rec ks b).length = (ks.map c).sum
  | [], _, _ => rfl
  | k :: r, b, h => by
    rw [ordKids, List.length_append, h k (List.mem_cons_self ..), ordKids_len r _ fun x hx => h x (List.mem_cons_of_mem _ hx)]
    rfl
theorem ordF_len (l : List Nd) : ∀ (f i : Nat) (par : Int) (b : Nat), (ordF l f i par b).length = cntF l f i
  | 0, _, _, _ => rfl
  | f + 1, i, par, b => by
    rw [ordF, List.length_cons, ordKids_len (c := cntF l f) _ _ fun k _ d => ordF_len l f k b d, sum_perm ((sort_perm (nameN l) (kidsN l i)).map _), cntF]
    omega
def cnt (l : List Nd) (i : Nat) : Nat := cntF l (l.length - i) i
theorem ordN_len (l : List Nd) (i : Nat) (par : Int) (b : Nat) : (ordN l i par b).length = cnt l i := ordF_len l _ i par b
theorem cnt_step (l : List Nd) (i : Nat) (h : i < l.length) : cnt l i = 1 + ((kidsN l i).map (cnt l)).sum := by
  rw [← ordN_len l i 0 0, ordN_step l i 0 0 h, List.length_cons, ordKids_len (c := cnt l) _ _ fun k _ d => ordN_len l k _ d, sum_perm ((sort_perm (nameN l) (kidsN l i)).map _)]
  omega
theorem sum_split (q : Nat → Int) (c : Nat → Nat) (m : Nat) : ∀ L : List Nat, ((L.filter fun j => decide (q j < ((m + 1 : Nat) : Int))).map c).sum = ((L.filter fun j => q j == (m : Int)).map c).sum + ((L.filter fun j => decide (q j < (m : Int))).map c).sum
  | [] => rfl
  | x :: L => by
    have ih := sum_split q c m L
    rw [List.filter_cons, List.filter_cons, List.filter_cons]
    by_cases h1 : q x = (m : Int)
    · rw [if_pos (by simp; omega), if_pos (by simp [h1]), if_neg (by simp; omega), List.map_cons, List.sum_cons, ih, List.map_cons, List.sum_cons]
      omega
    · by_cases h2 : q x < (m : Int)
      · rw [if_pos (by simp; omega), if_neg (by simpa using h1), if_pos (by simpa using h2), List.map_cons, List.sum_cons, ih, List.map_cons, List.sum_cons]
        omega
      · rw [if_neg (by simp; omega), if_neg (by simpa using h1), if_neg (by simpa using h2), ih]
theorem cnt_total {l : List Nd} (h : Tr l) (h0 : 0 < l.length → parAt l 0 < 0) : ∀ (f m : Nat), l.length - m = f → m ≤ l.length → ((((List.range l.length).drop m).filter fun (j : Nat) => decide (parAt l j < (m : Int))).map (cnt l)).sum = f
  | 0, m, hf, hm => by
    rw [List.drop_of_length_le (by simp; omega)]
    rfl
  | f + 1, m, hf, hm => by
    have hml : m < l.length := by omega
    have hd : (List.range l.length).drop m = m :: (List.range l.length).drop (m + 1) := by
      rw [List.drop_eq_getElem_cons (by simpa using hml)]
      simp
    have hpm : parAt l (m : Int) < (m : Int) := by
      rcases Nat.eq_zero_or_pos m with e | e
      · subst e; exact h0 hml
      · exact (h.ups m e hml).2
    have ih := cnt_total h h0 f (m + 1) (by omega) (by omega)
    rw [sum_split (fun j => parAt l j) (cnt l) m] at ih
    rw [hd, List.filter_cons, if_pos (by simpa using hpm), List.map_cons, List.sum_cons, cnt_step l m hml]
    unfold kidsN
    omega
theorem ord_total {l : List Nd} (h : Tr l) (h0 : parAt l 0 < 0) (hl : 0 < l.length) : (ordN l 0 (-1) 0).length = l.length := by
  have h1 := cnt_total h (fun _ => h0) l.length 0 (by omega) (Nat.zero_le _)
  rw [ordN_len]
  rw [List.drop_zero] at h1
  have hd : (List.range l.length) = 0 :: (List.range l.length).drop 1 := by
    have := List.drop_eq_getElem_cons (l := List.range l.length) (i := 0) (by simpa using hl)
    rw [List.drop_zero] at this
    simpa using this
  rw [hd, List.filter_cons, if_pos (by simpa using h0), List.map_cons, List.sum_cons] at h1
  have h2 : (((List.range l.length).drop 1).filter fun (j : Nat) => decide (parAt l (j : Int) < ((0 : Nat) : Int))) = [] := by
    rw [List.filter_eq_nil_iff]
    intro j hj
    rw [List.mem_drop_iff_getElem] at hj
    obtain ⟨k, hk, rfl⟩ := hj
    simp only [List.length_range] at hk
    simp only [List.getElem_range, decide_eq_true_eq]
    have := (h.ups (1 + k) (by omega) (by omega)).1
    omega
  rw [h2] at h1
  simpa using h1
/-- What Sorted hands back. -/
def sortR (l : List Nd) : List Nd := if (checkF l).2 = 0 then sortedL l else []
end Go.Proofs.Ytmdnbajbfnhecaa
