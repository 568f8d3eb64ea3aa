/- DomainsRuns: what the document's net holds, as plain data. -/
import Derived.Test.YtghcemfffhjmjaaNeedL
set_option linter.unusedVariables false
namespace Go.Proofs.Ytghcemfffhjmjaa
open Go.RowKit
/-- What the document's net holds as wanted. -/
structure Wt where
  u : Nat
  d : Nat
  lv : Nat
def Wt.cells (x : Wt) : List Value := [.int .i64 (x.u : Int), .int .i64 (x.d : Int), .int .u8 (x.lv : Int)]
def wtCells (l : List Wt) : List Value := l.flatMap Wt.cells
theorem wt_len (x : Wt) : (Wt.cells x).length = 3 := rfl
def look : List Wt → Int → Int → Nat
  | [], _, _ => 0
  | x :: r, a, b => if (x.u : Int) = a ∧ (x.d : Int) = b then x.lv else look r a b
def keepW (u d : Int) (x : Wt) : Bool := decide ((x.u : Int) ≠ u ∨ (0 ≤ d ∧ (x.d : Int) ≠ d))
structure Rep (n : Nat) (l : List Wt) (W : Int → Int → Nat) : Prop where
  get : ∀ u d, W u d = look l u d
  ok : ∀ x ∈ l, x.u < 1024 ∧ x.d < n ∧ x.lv ≤ 255
  one : l.Pairwise fun x y => ¬ (x.u = y.u ∧ x.d = y.d)
theorem look_mem : ∀ (l : List Wt) (a b : Int), look l a b = 0 ∨ ∃ x ∈ l, (x.u : Int) = a ∧ (x.d : Int) = b ∧ x.lv = look l a b
  | [], _, _ => .inl rfl
  | x :: r, a, b => by
    unfold look
    by_cases h : (x.u : Int) = a ∧ (x.d : Int) = b
    · rw [if_pos h]; exact .inr ⟨x, List.mem_cons_self .., h.1, h.2, rfl⟩
    · rw [if_neg h]
      rcases look_mem r a b with h2 | ⟨y, hy, h2⟩
      · exact .inl h2
      · exact .inr ⟨y, List.mem_cons_of_mem _ hy, h2⟩
theorem look_of : ∀ {l : List Wt}, (l.Pairwise fun x y => ¬ (x.u = y.u ∧ x.d = y.d)) → ∀ x ∈ l, look l x.u x.d = x.lv
  | y :: r, h, x, hx => by
    rw [List.pairwise_cons] at h
    unfold look
    rcases List.mem_cons.1 hx with rfl | hx
    · rw [if_pos ⟨rfl, rfl⟩]
    · rw [if_neg (fun e => h.1 x hx ⟨by omega, by omega⟩)]
      exact look_of h.2 x hx
theorem look_filter (u d : Int) : ∀ (l : List Wt) (a b : Int), look (l.filter (keepW u d)) a b = if a ≠ u ∨ (0 ≤ d ∧ b ≠ d) then look l a b else 0
  | [], a, b => by simp [look]
  | x :: r, a, b => by
    rw [List.filter_cons]
    by_cases hk : keepW u d x = true
    · rw [if_pos hk]
      unfold look
      by_cases h : (x.u : Int) = a ∧ (x.d : Int) = b
      · rw [if_pos h, if_pos h, if_pos]
        unfold keepW at hk
        rw [decide_eq_true_eq, h.1, h.2] at hk
        exact hk
      · rw [if_neg h, if_neg h]; exact look_filter u d r a b
    · rw [if_neg hk, look_filter u d r a b]
      unfold keepW at hk
      rw [decide_eq_true_eq] at hk
      by_cases hc : a ≠ u ∨ (0 ≤ d ∧ b ≠ d)
      · rw [if_pos hc, if_pos hc]
        conv => rhs; unfold look
        rw [if_neg]
        rintro ⟨rfl, rfl⟩
        exact hk hc
      · rw [if_neg hc, if_neg hc]
theorem look_add (x : Wt) (a b : Int) : ∀ (l : List Wt), look (l ++ [x]) a b = if ∃ y ∈ l, (y.u : Int) = a ∧ (y.d : Int) = b then look l a b else look [x] a b
  | [] => by rw [if_neg]; rfl; rintro ⟨y, hy, _⟩; cases hy
  | y :: r => by
    show look (y :: (r ++ [x])) a b = _
    unfold look
    by_cases h : (y.u : Int) = a ∧ (y.d : Int) = b
    · rw [if_pos h, if_pos h, if_pos ⟨y, List.mem_cons_self .., h⟩]
    · rw [if_neg h, if_neg h, look_add x a b r]
      by_cases hc : ∃ z ∈ r, (z.u : Int) = a ∧ (z.d : Int) = b
      · rw [if_pos hc, if_pos]
        obtain ⟨z, hz, e⟩ := hc
        exact ⟨z, List.mem_cons_of_mem _ hz, e⟩
      · rw [if_neg hc, if_neg]
        · rfl
        · rintro ⟨z, hz, e⟩
          rcases List.mem_cons.1 hz with rfl | hz
          · exact h e
          · exact hc ⟨z, hz, e⟩
theorem look_none {l : List Wt} {a b : Int} (h : ∀ x ∈ l, ¬ ((x.u : Int) = a ∧ (x.d : Int) = b)) : look l a b = 0 := by
  rcases look_mem l a b with h2 | ⟨x, hx, h2, h3, _⟩
  · exact h2
  · exact absurd ⟨h2, h3⟩ (h x hx)
theorem rep_none (n : Nat) : Rep n [] (fun _ _ => 0) := ⟨fun _ _ => rfl, fun x hx => by (cases hx), List.Pairwise.nil⟩
theorem Rep.vote {n : Nat} {l : List Wt} {W : Int → Int → Nat} (h : Rep n l W) {u d lv : Nat} (hu : u < 1024) (hd : d < n) (hlv : lv ≤ 255) : Rep n (l.filter (keepW u d) ++ [⟨u, d, lv⟩]) (updW W u d lv) := by
  have hno : ∀ y ∈ l.filter (keepW u d), ¬ ((y.u : Int) = (u : Int) ∧ (y.d : Int) = (d : Int)) := fun y hy e => by
    have := (List.mem_filter.1 hy).2
    unfold keepW at this
    rw [decide_eq_true_eq] at this
    rcases this with h1 | h1
    · exact h1 e.1
    · exact h1.2 e.2
  refine ⟨fun a b => ?_, fun x hx => ?_, ?_⟩
  · rw [look_add]
    by_cases e : a = (u : Int) ∧ b = (d : Int)
    · obtain ⟨rfl, rfl⟩ := e
      rw [updW_same, if_neg]
      · unfold look; rw [if_pos ⟨rfl, rfl⟩]
      · rintro ⟨y, hy, e⟩; exact hno y hy e
    · rw [updW_other _ _ e]
      have hz : look [(⟨u, d, lv⟩ : Wt)] a b = 0 := by
        unfold look
        rw [if_neg (fun x => e ⟨x.1.symm, x.2.symm⟩)]
        rfl
      have hf : look (l.filter (keepW u d)) a b = look l a b := by
        rw [look_filter, if_pos]
        by_cases e1 : a = (u : Int)
        · exact .inr ⟨by omega, fun e2 => e ⟨e1, e2⟩⟩
        · exact .inl e1
      by_cases hc : ∃ y ∈ l.filter (keepW u d), (y.u : Int) = a ∧ (y.d : Int) = b
      · rw [if_pos hc, hf]; exact h.get a b
      · rw [if_neg hc, hz, h.get a b, ← hf]
        exact look_none fun x hx e => hc ⟨x, hx, e⟩
  · rcases List.mem_append.1 hx with hx | hx
    · exact h.ok x (List.mem_filter.1 hx).1
    · rw [List.mem_singleton] at hx; subst hx; exact ⟨hu, hd, hlv⟩
  · rw [List.pairwise_append]
    refine ⟨h.one.filter _, List.pairwise_singleton _ _, fun x hx y hy => ?_⟩
    rw [List.mem_singleton] at hy
    subst hy
    intro e
    exact hno x hx ⟨by have h1 : x.u = u := e.1; omega, by have h1 : x.d = d := e.2; omega⟩
theorem Rep.left {n : Nat} {l : List Wt} {W : Int → Int → Nat} (h : Rep n l W) (u : Int) : Rep n (l.filter (keepW u (-1))) (leaveW W u) := by
  refine ⟨fun a b => ?_, fun x hx => h.ok x (List.mem_filter.1 hx).1, h.one.filter _⟩
  rw [look_filter]
  unfold leaveW
  by_cases e : a = u
  · rw [if_pos e, if_neg]
    rintro (h1 | h1)
    · exact h1 e
    · omega
  · rw [if_neg e, if_pos (.inl e)]; exact h.get a b
/-- The highest that is wanted of each. -/
def tops (l : List Wt) : Nat → Nat := l.foldl (fun f x => upd f x.d (max (f x.d) x.lv)) (fun _ => 0)
theorem tops_succ (l : List Wt) {k : Nat} (hk : k < l.length) : tops (l.take (k + 1)) = upd (tops (l.take k)) l[k].d (max (tops (l.take k) l[k].d) l[k].lv) := by
  unfold tops
  rw [List.take_succ_eq_append_getElem hk, List.foldl_append]
  rfl
theorem tops_fold (d m : Nat) : ∀ (l : List Wt) (f : Nat → Nat), l.foldl (fun f x => upd f x.d (max (f x.d) x.lv)) f d ≤ m ↔ f d ≤ m ∧ ∀ x ∈ l, x.d = d → x.lv ≤ m
  | [], f => by simp
  | x :: r, f => by
    rw [List.foldl_cons, tops_fold d m r]
    by_cases e : x.d = d
    · subst e
      rw [upd_same]
      constructor
      · rintro ⟨h1, h2⟩
        exact ⟨by omega, fun y hy e => (List.mem_cons.1 hy).elim (fun e2 => by subst e2; omega) (fun hy => h2 y hy e)⟩
      · rintro ⟨h1, h2⟩
        have := h2 x (List.mem_cons_self ..) rfl
        exact ⟨by omega, fun y hy e => h2 y (List.mem_cons_of_mem _ hy) e⟩
    · rw [upd_other _ _ (fun x => e x.symm)]
      constructor
      · rintro ⟨h1, h2⟩
        exact ⟨h1, fun y hy e3 => (List.mem_cons.1 hy).elim (fun e2 => by subst e2; exact absurd e3 e) (fun hy => h2 y hy e3)⟩
      · rintro ⟨h1, h2⟩
        exact ⟨h1, fun y hy e => h2 y (List.mem_cons_of_mem _ hy) e⟩
theorem Rep.tops {n : Nat} {l : List Wt} {W : Int → Int → Nat} (h : Rep n l W) : tops l = bs W := by
  funext d
  refine Nat.le_antisymm ((tops_fold d _ l _).2 ⟨Nat.zero_le _, fun x hx e => ?_⟩) (base_le fun u hu _ => ?_)
  · subst e
    have h1 := look_of h.one x hx
    rw [← h.get] at h1
    have := base_ge W (fun _ _ => true) (u := x.u) (d := x.d) (h.ok x hx).1 rfl
    rw [h1] at this
    exact this
  · have h1 := ((tops_fold d (Ytghcemfffhjmjaa.tops l d) l _).1 (Nat.le_refl _)).2
    rw [h.get]
    rcases look_mem l u d with h2 | ⟨x, hx, e1, e2, e3⟩
    · rw [h2]; exact Nat.zero_le _
    · rw [← e3]; exact h1 x hx (by omega)
theorem tops_le {l : List Wt} (h : ∀ x ∈ l, x.lv ≤ 255) (d : Nat) : tops l d ≤ 255 := (tops_fold d _ l _).2 ⟨Nat.zero_le _, fun x hx _ => h x hx⟩
theorem why_unique {ds : List Dm} {W : Int → Int → Nat} {d u a : Nat} (h : WhyR ds W d u a) : ∀ {u' a' : Nat}, WhyR ds W d u' a' → u = u' ∧ a = a' := by
  induction h with
  | here d u hu hw hno =>
    intro u' a' h'
    cases h' with
    | here _ _ hu' hw' hno' =>
      refine ⟨?_, rfl⟩
      rcases Nat.lt_trichotomy u u' with h1 | h1 | h1
      · exact absurd hw (hno' u h1)
      · exact h1
      · exact absurd hw' (hno u' h1)
    | up _ d' _ _ hno' => exact absurd hw (hno' u hu)
  | up d d' u a hno h1 h2 h3 h4 h5 h ih =>
    intro u' a' h'
    cases h' with
    | here _ _ hu' hw' hno' => exact absurd hw' (hno u' hu')
    | up _ d2 _ _ hno' g1 g2 g3 g4 g5 g =>
      obtain rfl : d' = d2 := by
        rcases Nat.lt_trichotomy d' d2 with h6 | h6 | h6
        · exact absurd ⟨h3, h4⟩ (g5 d' h1 h6)
        · exact h6
        · exact absurd ⟨g3, g4⟩ (h5 d2 g1 h6)
      exact ih g
end Go.Proofs.Ytghcemfffhjmjaa
