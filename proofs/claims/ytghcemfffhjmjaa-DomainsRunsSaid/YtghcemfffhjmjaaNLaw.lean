/- DomainsNeeded: the plain laws. -/
import Derived.Test.YtghcemfffhjmjaaPair
set_option linter.unusedVariables false
namespace Go.Proofs.Ytghcemfffhjmjaa
open Go.RowKit
/-! The changes, one by one. -/
/-- How all stand behind some changes. -/
def fin : (Nat → Nat) → List (Nat × Nat × Nat) → (Nat → Nat)
  | s, [] => s
  | s, c :: r => fin (upd s c.1 c.2.2) r
/-- Each change fits: it begins where its domain stands, it changes something, not beyond the top; behind it nothing stands higher than what it needs. -/
def Fits (ds : List Dm) : (Nat → Nat) → List (Nat × Nat × Nat) → Prop
  | s, [] => True
  | s, c :: r => (c.1 < ds.length ∧ c.2.1 = s c.1 ∧ c.2.1 ≠ c.2.2 ∧ (∀ h : c.1 < ds.length, c.2.2 ≤ ds[c.1].t) ∧ Closed ds (upd s c.1 c.2.2)) ∧ Fits ds (upd s c.1 c.2.2) r
theorem fin_append (s : Nat → Nat) : ∀ (l r : List (Nat × Nat × Nat)), fin s (l ++ r) = fin (fin s l) r
  | [], r => rfl
  | c :: l, r => fin_append _ l r
theorem fits_append (ds : List Dm) : ∀ (l r : List (Nat × Nat × Nat)) (s : Nat → Nat), Fits ds s l → Fits ds (fin s l) r → Fits ds s (l ++ r)
  | [], r, s, _, h => h
  | c :: l, r, s, h1, h2 => ⟨h1.1, fits_append ds l r _ h1.2 h2⟩
theorem fits_at (ds : List Dm) : ∀ (l : List (Nat × Nat × Nat)) (s : Nat → Nat) (k : Nat) (h : k < l.length), Fits ds s l → l[k].1 < ds.length ∧ l[k].2.1 = fin s (l.take k) l[k].1 ∧ l[k].2.1 ≠ l[k].2.2 ∧ (∀ h : l[k].1 < ds.length, l[k].2.2 ≤ ds[l[k].1].t) ∧ Closed ds (fin s (l.take (k + 1))) ∧ fin s (l.take (k + 1)) = upd (fin s (l.take k)) l[k].1 l[k].2.2
  | c :: l, s, 0, _, h => ⟨h.1.1, h.1.2.1, h.1.2.2.1, h.1.2.2.2.1, h.1.2.2.2.2, rfl⟩
  | c :: l, s, k + 1, hk, h => fits_at ds l (upd s c.1 c.2.2) k (by simpa using hk) h.2
/-- From f to g, upward: the first k are there. -/
def upst (f g : Nat → Nat) (k : Nat) : Nat → Nat := fun i => if i < k then max (f i) (g i) else f i
def dnst (f g : Nat → Nat) (n m : Nat) : Nat → Nat := fun i => if i < n then (if n ≤ i + m then g i else max (f i) (g i)) else f i
theorem upst_step (f g : Nat → Nat) (k : Nat) (h : f k < g k) : upd (upst f g k) k (g k) = upst f g (k + 1) := by
  funext i
  unfold upst
  by_cases e : i = k
  · subst e; rw [upd_same, if_pos (by omega)]; omega
  · rw [upd_other _ _ e]
    by_cases e2 : i < k
    · rw [if_pos e2, if_pos (by omega)]
    · rw [if_neg e2, if_neg (by omega)]
theorem upst_skip (f g : Nat → Nat) (k : Nat) (h : ¬ f k < g k) : upst f g k = upst f g (k + 1) := by
  funext i
  unfold upst
  by_cases e : i = k
  · subst e; rw [if_neg (by omega), if_pos (by omega)]; omega
  · by_cases e2 : i < k
    · rw [if_pos e2, if_pos (by omega)]
    · rw [if_neg e2, if_neg (by omega)]
theorem dnst_step (f g : Nat → Nat) {n m : Nat} (hm : m < n) (h : g (n - 1 - m) < f (n - 1 - m)) : upd (dnst f g n m) (n - 1 - m) (g (n - 1 - m)) = dnst f g n (m + 1) := by
  funext i
  unfold dnst
  by_cases e : i = n - 1 - m
  · subst e; rw [upd_same, if_pos (by omega), if_pos (by omega)]
  · rw [upd_other _ _ e]
    by_cases e1 : i < n
    · rw [if_pos e1, if_pos e1]
      by_cases e2 : n ≤ i + m
      · rw [if_pos e2, if_pos (by omega)]
      · rw [if_neg e2, if_neg (by omega)]
    · rw [if_neg e1, if_neg e1]
theorem dnst_skip (f g : Nat → Nat) {n m : Nat} (hm : m < n) (h : ¬ g (n - 1 - m) < f (n - 1 - m)) : dnst f g n m = dnst f g n (m + 1) := by
  funext i
  unfold dnst
  by_cases e1 : i < n
  · rw [if_pos e1, if_pos e1]
    by_cases e : i = n - 1 - m
    · subst e; rw [if_neg (by omega), if_pos (by omega)]; omega
    · by_cases e2 : n ≤ i + m
      · rw [if_pos e2, if_pos (by omega)]
      · rw [if_neg e2, if_neg (by omega)]
  · rw [if_neg e1, if_neg e1]
theorem und_len {ds : List Dm} {d u : Nat} (h : u ∈ und ds d) : d < ds.length := by
  rcases Nat.lt_or_ge d ds.length with h1 | h1
  · exact h1
  · unfold und at h; rw [List.getElem?_eq_none h1] at h; cases h
section
variable {ds : List Dm} {f g : Nat → Nat}
theorem upst_closed (hok : Okd ds) (hf : Closed ds f) (hg : Closed ds g) (k : Nat) : Closed ds (upst f g k) := fun d u hu => by
  have h1 := hf d u hu
  have h2 := hg d u hu
  have h3 := und_lt hok hu
  unfold upst
  by_cases e : d < k
  · rw [if_pos e, if_pos (by omega)]; omega
  · rw [if_neg e]
    split <;> omega
theorem dnst_closed (hok : Okd ds) (hf : Closed ds f) (hg : Closed ds g) (m : Nat) : Closed ds (dnst f g ds.length m) := fun d u hu => by
  have h1 := hf d u hu
  have h2 := hg d u hu
  have h3 := und_lt hok hu
  have h4 := und_len hu
  unfold dnst
  rw [if_pos h4, if_pos (show u < ds.length by omega)]
  by_cases e : ds.length ≤ d + m
  · rw [if_pos e]
    split <;> omega
  · rw [if_neg e, if_neg (by omega)]; omega
theorem ups_fits (hok : Okd ds) (hf : Closed ds f) (hg : Closed ds g) (ht : TopOk ds g) : ∀ k, k ≤ ds.length → Fits ds f (ups f g k) ∧ fin f (ups f g k) = upst f g k
  | 0, _ => ⟨trivial, by funext i; unfold upst; rw [if_neg (by omega)]; rfl⟩
  | k + 1, hk => by
    obtain ⟨h1, h2⟩ := ups_fits hok hf hg ht k (by omega)
    unfold ups
    by_cases h : f k < g k
    · rw [if_pos h]
      have e := upst_step f g k h
      refine ⟨fits_append ds _ _ f h1 ?_, ?_⟩
      · rw [h2]
        refine ⟨⟨by show k < _; omega, ?_, by show f k ≠ g k; omega, fun h' => ht k (by omega), ?_⟩, trivial⟩
        · show f k = upst f g k k
          unfold upst; rw [if_neg (by omega)]
        · show Closed ds (upd (upst f g k) k (g k))
          rw [e]; exact upst_closed hok hf hg _
      · rw [fin_append, h2]; exact e
    · rw [if_neg h, ← upst_skip f g k h]
      exact ⟨h1, h2⟩
theorem dns_fits (hok : Okd ds) (hf : Closed ds f) (hg : Closed ds g) (ht : TopOk ds g) : ∀ m, m ≤ ds.length → Fits ds f (dns f g ds.length (ups f g ds.length) m) ∧ fin f (dns f g ds.length (ups f g ds.length) m) = dnst f g ds.length m
  | 0, _ => by
    obtain ⟨h1, h2⟩ := ups_fits hok hf hg ht ds.length (Nat.le_refl _)
    refine ⟨h1, ?_⟩
    show fin f (ups f g ds.length) = _
    rw [h2]
    funext i
    unfold upst dnst
    by_cases e : i < ds.length
    · rw [if_pos e, if_pos e, if_neg (by omega)]
    · rw [if_neg e, if_neg e]
  | m + 1, hm => by
    obtain ⟨h1, h2⟩ := dns_fits hok hf hg ht m (by omega)
    unfold dns
    by_cases h : g (ds.length - 1 - m) < f (ds.length - 1 - m)
    · rw [if_pos h]
      have e := dnst_step f g (show m < ds.length by omega) h
      refine ⟨fits_append ds _ _ f h1 ?_, ?_⟩
      · rw [h2]
        refine ⟨⟨by show ds.length - 1 - m < _; omega, ?_, by show f (ds.length - 1 - m) ≠ g (ds.length - 1 - m); omega, fun h' => ht _ (by show ds.length - 1 - m < _; omega), ?_⟩, trivial⟩
        · show f (ds.length - 1 - m) = dnst f g ds.length m (ds.length - 1 - m)
          unfold dnst; rw [if_pos (by omega), if_neg (by omega)]; omega
        · show Closed ds (upd (dnst f g ds.length m) (ds.length - 1 - m) (g (ds.length - 1 - m)))
          rw [e]; exact dnst_closed hok hf hg _
      · rw [fin_append, h2]; exact e
    · rw [if_neg h, ← dnst_skip f g (show m < ds.length by omega) h]
      exact ⟨h1, h2⟩
theorem chgs_fits (hok : Okd ds) (hf : Closed ds f) (hg : Closed ds g) (ht : TopOk ds g) : Fits ds f (chgs f g ds.length) ∧ ∀ i, i < ds.length → fin f (chgs f g ds.length) i = g i := by
  obtain ⟨h1, h2⟩ := dns_fits hok hf hg ht ds.length (Nat.le_refl _)
  refine ⟨h1, fun i hi => ?_⟩
  unfold chgs
  rw [h2]
  unfold dnst
  rw [if_pos hi, if_pos (by omega)]
end
/-! What is above a domain. -/
inductive Reach (ds : List Dm) (d : Nat) : Nat → Prop
  | self : Reach ds d d
  | step (i u : Nat) (hu : u ∈ und ds i) (h : Reach ds d u) : Reach ds d i
theorem Reach.le {ds : List Dm} (hok : Okd ds) {d i : Nat} (h : Reach ds d i) : d ≤ i := by
  induction h with
  | self => exact Nat.le_refl _
  | step i u hu h ih => have := und_lt hok hu; omega
theorem Reach.lev {ds : List Dm} {d i : Nat} {f : Nat → Nat} (hf : Closed ds f) (h : Reach ds d i) : f i ≤ f d := by
  induction h with
  | self => exact Nat.le_refl _
  | step i u hu h ih => exact Nat.le_trans (hf i u hu) ih
theorem reach_iff {ds : List Dm} {d i : Nat} : Reach ds d i ↔ i = d ∨ ∃ u ∈ und ds i, Reach ds d u := by
  constructor
  · intro h
    cases h with
    | self => exact .inl rfl
    | step _ u hu h => exact .inr ⟨u, hu, h⟩
  · rintro (rfl | ⟨u, hu, h⟩)
    · exact .self
    · exact .step i u hu h
/-- A domain stands as high as the highest that is wanted of one above. -/
theorem lev_needed {ds : List Dm} (hok : Okd ds) (W : Int → Int → Nat) (d m : Nat) (hge : ∀ i, Reach ds d i → bs W i ≤ m) (hle : m = 0 ∨ ∃ i, Reach ds d i ∧ m ≤ bs W i) : lev ds W d = m := by
  have hcl := settle_closed hok (bs W)
  refine Nat.le_antisymm ?_ ?_
  · classical
    have hg : Closed ds fun i => if Reach ds d i then min (lev ds W i) m else lev ds W i := fun e u hu => by
      have h1 : lev ds W e ≤ lev ds W u := hcl e u hu
      show (if Reach ds d e then min (lev ds W e) m else lev ds W e) ≤ (if Reach ds d u then min (lev ds W u) m else lev ds W u)
      by_cases hr : Reach ds d u
      · rw [if_pos hr, if_pos (.step e u hu hr)]; omega
      · rw [if_neg hr]
        split
        · exact Nat.le_trans (Nat.min_le_left _ _) h1
        · exact h1
    have h2 := settle_min (f := bs W) hg (fun i => by
      show bs W i ≤ (if Reach ds d i then min (lev ds W i) m else lev ds W i)
      have h3 : bs W i ≤ lev ds W i := settle_le ds (bs W) i
      split
      · rename_i hr
        have := hge i hr
        omega
      · exact h3) d
    have h3 : lev ds W d ≤ (if Reach ds d d then min (lev ds W d) m else lev ds W d) := h2
    rw [if_pos .self] at h3
    omega
  · rcases hle with rfl | ⟨i, hr, hi⟩
    · exact Nat.zero_le _
    · exact Nat.le_trans hi (Nat.le_trans (settle_le ds (bs W) i) (hr.lev hcl))
end Go.Proofs.Ytghcemfffhjmjaa
