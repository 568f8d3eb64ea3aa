/- What is free between two numbers: the plain law of ClaimsAsked. -/
import Derived.ProofKit
set_option linter.unusedVariables false
namespace Go.Proofs.Ytdnncpikndgabaa
/-- A claim: its kind and its two ends. -/
structure Cl where
  k : Nat
  f : Nat
  t : Nat
deriving DecidableEq
def meetB (a b : Cl) : Bool := decide (a.k = b.k) && decide (a.f ≤ a.t) && decide (b.f ≤ b.t) && decide (a.f ≤ b.t) && decide (b.f ≤ a.t)
/-- Somebody of r has x. -/
def Has (r : List Cl) (x : Nat) : Prop := ∃ c ∈ r, c.f ≤ x ∧ x ≤ c.t
/-- The gaps from a number on. -/
inductive Gaps (T : Nat → Prop) (k to : Nat) : Nat → List Cl → Prop
  | stop {a : Nat} (h : to < a) : Gaps T k to a []
  | had {a e : Nat} {l : List Cl} (h1 : a ≤ e) (h2 : e ≤ to) (h3 : ∀ x, a ≤ x → x ≤ e → T x) (h4 : Gaps T k to (e + 1) l) : Gaps T k to a l
  | free {a e : Nat} {l : List Cl} (h1 : a ≤ e) (h2 : e ≤ to) (h3 : ∀ x, a ≤ x → x ≤ e → ¬ T x) (h4 : e = to ∨ T (e + 1)) (h5 : Gaps T k to (e + 1) l) : Gaps T k to a (⟨k, a, e⟩ :: l)
theorem gaps_behind {T : Nat → Prop} {k to a : Nat} {l : List Cl} (h : Gaps T k to a l) : ∀ e, a ≤ e → e ≤ to → (∀ x, a ≤ x → x ≤ e → T x) → Gaps T k to (e + 1) l := by
  induction h with
  | stop h => intro e h1 h2 _; omega
  | @had a e' l h1 h2 h3 h4 ih =>
    intro e g1 g2 g3
    rcases Nat.lt_trichotomy e e' with hl | rfl | hl
    · exact .had (by omega) h2 (fun x x1 x2 => h3 x (by omega) x2) h4
    · exact h4
    · exact ih e (by omega) g2 fun x x1 x2 => g3 x (by omega) x2
  | @free a e' l h1 h2 h3 h4 h5 ih => intro e g1 g2 g3; exact absurd (g3 a (Nat.le_refl _) g1) (h3 a (Nat.le_refl _) h1)
theorem gaps_one {T : Nat → Prop} {k to : Nat} {a : Nat} {l : List Cl} (h : Gaps T k to a l) : ∀ m, Gaps T k to a m → l = m := by
  induction h with
  | stop h =>
    intro m hm
    cases hm with
    | stop _ => rfl
    | had h1 h2 => omega
    | free h1 h2 => omega
  | had h1 h2 h3 h4 ih => exact fun m hm => ih m (gaps_behind hm _ h1 h2 h3)
  | @free a e l h1 h2 h3 h4 h5 ih =>
    intro m hm
    cases hm with
    | stop h => omega
    | had g1 g2 g3 g4 => exact absurd (g3 a (Nat.le_refl _) g1) (h3 a (Nat.le_refl _) h1)
    | @free _ e' l' g1 g2 g3 g4 g5 =>
      obtain rfl : e = e' := by
        rcases Nat.lt_trichotomy e e' with hl | he | hl
        · rcases h4 with h4 | h4
          · omega
          · exact absurd h4 (g3 _ (by omega) (by omega))
        · exact he
        · rcases g4 with g4 | g4
          · omega
          · exact absurd g4 (h3 _ (by omega) (by omega))
      rw [ih _ g5]
/-- The program's way over what is taken, in order. -/
def sweep (k to : Nat) : Nat → List Cl → List Cl
  | a, [] => [⟨k, a, to⟩]
  | a, c :: r => (if a < c.f then [⟨k, a, c.f - 1⟩] else []) ++ (if to ≤ c.t then [] else sweep k to (max a (c.t + 1)) r)
theorem sweep_gaps {k to : Nat} : ∀ (r : List Cl) (a : Nat) (T : Nat → Prop), a ≤ to → (∀ c ∈ r, c.f ≤ c.t ∧ c.f ≤ to) → r.Pairwise (fun x y => x.f ≤ y.f) →
    (∀ x, a ≤ x → x ≤ to → (T x ↔ Has r x)) → Gaps T k to a (sweep k to a r)
  | [], a, T, ha, _, _, hT => by
    refine .free ha (Nat.le_refl _) (fun x h1 h2 hx => ?_) (.inl rfl) (.stop (by omega))
    obtain ⟨c, hc, _⟩ := (hT x h1 h2).1 hx
    cases hc
  | c :: r, a, T, ha, hr, hp, hT => by
    obtain ⟨hc1, hc2⟩ := hr c (List.mem_cons_self)
    have hp1 := (List.pairwise_cons.1 hp).1
    have ih := fun (a' : Nat) (h : a' ≤ to) => sweep_gaps (k := k) r a' T h (fun x hx => hr x (List.mem_cons_of_mem _ hx)) (List.pairwise_cons.1 hp).2
    have htail : ∀ b, a ≤ b → c.t < b → (∀ x, b ≤ x → x ≤ to → (T x ↔ Has r x)) := by
      intro b hb hb2 x h1 h2
      rw [hT x (by omega) h2]
      constructor
      · rintro ⟨d, hd, d1, d2⟩
        rcases List.mem_cons.1 hd with rfl | hd
        · omega
        · exact ⟨d, hd, d1, d2⟩
      · rintro ⟨d, hd, h⟩
        exact ⟨d, List.mem_cons_of_mem _ hd, h⟩
    have hhas : ∀ x, a ≤ x → x ≤ to → c.f ≤ x → x ≤ c.t → T x := fun x h1 h2 h3 h4 => (hT x h1 h2).2 ⟨c, List.mem_cons_self, h3, h4⟩
    -- what comes behind c's first number
    have hback : ∀ b, a ≤ b → b ≤ to → c.f ≤ b → Gaps T k to b (if to ≤ c.t then [] else sweep k to (max b (c.t + 1)) r) := by
      intro b b1 b2 b3
      by_cases ht : to ≤ c.t
      · rw [if_pos ht]
        exact .had b2 (Nat.le_refl _) (fun x x1 x2 => hhas x (by omega) x2 (by omega) (by omega)) (.stop (by omega))
      · rw [if_neg ht]
        by_cases hbt : b ≤ c.t
        · rw [show max b (c.t + 1) = c.t + 1 by omega]
          exact .had hbt (by omega) (fun x x1 x2 => hhas x (by omega) (by omega) (by omega) x2) (ih _ (by omega) (htail _ (by omega) (by omega)))
        · rw [show max b (c.t + 1) = b by omega]
          exact ih b b2 (htail b b1 (by omega))
    unfold sweep
    by_cases hlt : a < c.f
    · rw [if_pos hlt]
      have hb := hback c.f (by omega) hc2 (Nat.le_refl _)
      have hm : (if to ≤ c.t then [] else sweep k to (max a (c.t + 1)) r) = (if to ≤ c.t then [] else sweep k to (max c.f (c.t + 1)) r) := by
        rw [show max a (c.t + 1) = max c.f (c.t + 1) by omega]
      rw [hm]
      refine .free (e := c.f - 1) (by omega) (by omega) (fun x h1 h2 hx => ?_) (.inr ?_) ?_
      · obtain ⟨d, hd, d1, d2⟩ := (hT x h1 (by omega)).1 hx
        rcases List.mem_cons.1 hd with rfl | hd
        · omega
        · have := hp1 d hd
          omega
      · rw [show c.f - 1 + 1 = c.f by omega]
        exact hhas _ (by omega) hc2 (Nat.le_refl _) hc1
      · rw [show c.f - 1 + 1 = c.f by omega]
        exact hb
    · rw [if_neg hlt]
      exact hback a (Nat.le_refl _) ha (by omega)
/-- One step of the document's scan at a number: how far, and whether somebody has it. -/
def scan1 (k a : Nat) (s : Nat × Bool) (c : Cl) : Nat × Bool :=
  if c.k ≠ k ∨ c.t < c.f then s
  else if c.f ≤ a ∧ a ≤ c.t then (if !s.2 || decide (s.1 < c.t) then c.t else s.1, true)
  else if !s.2 && decide (a < c.f) && decide (c.f - 1 < s.1) then (c.f - 1, s.2) else s
def scanF (os : List Cl) (k to a : Nat) : Nat × Bool := os.foldl (scan1 k a) (to, false)
/-- What the scan says. -/
def Scan (os : List Cl) (k to a : Nat) (s : Nat × Bool) : Prop :=
  (s.2 = true → (∃ c ∈ os, c.k = k ∧ c.f ≤ a ∧ a ≤ c.t ∧ c.t = s.1) ∧ ∀ c ∈ os, c.k = k → c.f ≤ a → a ≤ c.t → c.t ≤ s.1) ∧
  (s.2 = false → (∀ c ∈ os, c.k = k → ¬ (c.f ≤ a ∧ a ≤ c.t)) ∧ s.1 ≤ to ∧ a ≤ s.1 ∧ (∀ c ∈ os, c.k = k → c.f ≤ c.t → a < c.f → s.1 < c.f) ∧ (s.1 = to ∨ ∃ c ∈ os, c.k = k ∧ c.f ≤ c.t ∧ c.f = s.1 + 1))
theorem scan_step {os : List Cl} {k to a : Nat} {s : Nat × Bool} (h : Scan os k to a s) (c : Cl) : Scan (os ++ [c]) k to a (scan1 k a s c) := by
  obtain ⟨e, t⟩ := s
  unfold scan1
  by_cases h1 : c.k ≠ k ∨ c.t < c.f
  · rw [if_pos h1]
    refine ⟨fun ht => ?_, fun ht => ?_⟩
    · obtain ⟨⟨d, hd, hd'⟩, g⟩ := h.1 ht
      refine ⟨⟨d, List.mem_append_left _ hd, hd'⟩, fun x hx => ?_⟩
      rcases List.mem_append.1 hx with hx | hx
      · exact g x hx
      · obtain rfl : x = c := by simpa using hx
        intro e1 e2 e3
        rcases h1 with h1 | h1
        · exact absurd e1 h1
        · omega
    · obtain ⟨g1, g2, g3, g4, g5⟩ := h.2 ht
      refine ⟨fun x hx => ?_, g2, g3, fun x hx => ?_, ?_⟩
      · rcases List.mem_append.1 hx with hx | hx
        · exact g1 x hx
        · obtain rfl : x = c := by simpa using hx
          intro e1 e2
          rcases h1 with h1 | h1
          · exact absurd e1 h1
          · omega
      · rcases List.mem_append.1 hx with hx | hx
        · exact g4 x hx
        · obtain rfl : x = c := by simpa using hx
          intro e1 e2 e3
          rcases h1 with h1 | h1
          · exact absurd e1 h1
          · omega
      · rcases g5 with g5 | ⟨d, hd, hd'⟩
        · exact .inl g5
        · exact .inr ⟨d, List.mem_append_left _ hd, hd'⟩
  · rw [if_neg h1]
    have hk : c.k = k := by rcases Nat.decEq c.k k with hh | hh; exact absurd (.inl hh) h1; exact hh
    have hft : c.f ≤ c.t := by rcases Nat.lt_or_ge c.t c.f with hh | hh; exact absurd (.inr hh) h1; exact hh
    by_cases h2 : c.f ≤ a ∧ a ≤ c.t
    · rw [if_pos h2]
      refine ⟨fun _ => ?_, fun ht => by cases ht⟩
      cases t with
      | false =>
        simp only [Bool.not_false, Bool.true_or, if_true]
        refine ⟨⟨c, by simp, hk, h2.1, h2.2, rfl⟩, fun x hx e1 e2 e3 => ?_⟩
        rcases List.mem_append.1 hx with hx | hx
        · exact absurd ⟨e2, e3⟩ ((h.2 rfl).1 x hx e1)
        · obtain rfl : x = c := by simpa using hx
          exact Nat.le_refl _
      | true =>
        obtain ⟨⟨d, hd, hd'⟩, g⟩ := h.1 rfl
        simp only [Bool.not_true, Bool.false_or, decide_eq_true_eq]
        by_cases h3 : e < c.t
        · rw [if_pos h3]
          refine ⟨⟨c, by simp, hk, h2.1, h2.2, rfl⟩, fun x hx e1 e2 e3 => ?_⟩
          rcases List.mem_append.1 hx with hx | hx
          · have := g x hx e1 e2 e3
            simp only at this ⊢
            omega
          · obtain rfl : x = c := by simpa using hx
            exact Nat.le_refl _
        · rw [if_neg h3]
          refine ⟨⟨d, List.mem_append_left _ hd, hd'⟩, fun x hx e1 e2 e3 => ?_⟩
          rcases List.mem_append.1 hx with hx | hx
          · exact g x hx e1 e2 e3
          · obtain rfl : x = c := by simpa using hx
            omega
    · rw [if_neg h2]
      cases t with
      | true =>
        simp only [Bool.not_true, Bool.false_and, Bool.false_eq_true, if_false]
        obtain ⟨⟨d, hd, hd'⟩, g⟩ := h.1 rfl
        refine ⟨fun _ => ⟨⟨d, List.mem_append_left _ hd, hd'⟩, fun x hx e1 e2 e3 => ?_⟩, fun ht => by cases ht⟩
        rcases List.mem_append.1 hx with hx | hx
        · exact g x hx e1 e2 e3
        · obtain rfl : x = c := by simpa using hx
          exact absurd ⟨e2, e3⟩ h2
      | false =>
        obtain ⟨g1, g2, g3, g4, g5⟩ := h.2 rfl
        simp only at g2 g3 g4 g5
        simp only [Bool.not_false, Bool.true_and, Bool.and_eq_true, decide_eq_true_eq]
        have n1 : ∀ x ∈ os ++ [c], x.k = k → ¬ (x.f ≤ a ∧ a ≤ x.t) := by
          intro x hx e1
          rcases List.mem_append.1 hx with hx | hx
          · exact g1 x hx e1
          · obtain rfl : x = c := by simpa using hx
            exact h2
        by_cases h3 : a < c.f ∧ c.f - 1 < e
        · rw [if_pos h3]
          refine ⟨(fun ht => by cases ht), fun _ => ⟨n1, by simp only; omega, by simp only; omega, fun x hx e1 e2 e3 => ?_, .inr ⟨c, by simp, hk, hft, by simp only; omega⟩⟩⟩
          simp only
          rcases List.mem_append.1 hx with hx | hx
          · have := g4 x hx e1 e2 e3
            omega
          · obtain rfl : x = c := by simpa using hx
            omega
        · rw [if_neg h3]
          refine ⟨(fun ht => by cases ht), fun _ => ⟨n1, g2, g3, fun x hx e1 e2 e3 => ?_, ?_⟩⟩
          · simp only
            rcases List.mem_append.1 hx with hx | hx
            · exact g4 x hx e1 e2 e3
            · obtain rfl : x = c := by simpa using hx
              omega
          · rcases g5 with g5 | ⟨d, hd, hd'⟩
            · exact .inl g5
            · exact .inr ⟨d, List.mem_append_left _ hd, hd'⟩
theorem scan_all {k to a : Nat} (ha : a ≤ to) : ∀ (r os : List Cl) (s : Nat × Bool), Scan os k to a s → Scan (os ++ r) k to a (r.foldl (scan1 k a) s)
  | [], os, s, h => by simpa using h
  | c :: r, os, s, h => by
    have := scan_all ha r (os ++ [c]) _ (scan_step h c)
    rw [List.append_assoc] at this
    exact this
theorem scan_is (os : List Cl) {k to a : Nat} (ha : a ≤ to) : Scan os k to a (scanF os k to a) := by
  have := scan_all (k := k) ha os [] (to, false) ⟨(fun h => by cases h), fun _ => ⟨by simp, Nat.le_refl _, ha, by simp, .inl rfl⟩⟩
  simpa [scanF] using this
/-- How far the document goes at a number. -/
def endF (os : List Cl) (k to a : Nat) : Nat := min (scanF os k to a).1 to
def docF (os : List Cl) (k to : Nat) : Nat → Nat → List Cl
  | 0, _ => []
  | n + 1, a => (if (scanF os k to a).2 then [] else [⟨k, a, endF os k to a⟩]) ++ (if endF os k to a = to then [] else docF os k to n (endF os k to a + 1))
def HasK (os : List Cl) (k x : Nat) : Prop := ∃ c ∈ os, c.k = k ∧ c.f ≤ x ∧ x ≤ c.t
theorem end_ge (os : List Cl) {k to a : Nat} (ha : a ≤ to) : a ≤ endF os k to a ∧ endF os k to a ≤ to := by
  have h := scan_is os (k := k) ha
  unfold endF
  generalize scanF os k to a = s at *
  obtain ⟨e, t⟩ := s
  refine ⟨?_, Nat.min_le_right _ _⟩
  cases t with
  | true =>
    obtain ⟨⟨c, _, _, _, h1, h2⟩, _⟩ := h.1 rfl
    simp only at h2 ⊢
    omega
  | false =>
    have := (h.2 rfl).2.2.1
    simp only at this ⊢
    omega
theorem doc_gaps (os : List Cl) (k to : Nat) : ∀ (n a : Nat), a ≤ to → to < a + n → Gaps (HasK os k) k to a (docF os k to n a)
  | 0, a, h1, h2 => by omega
  | n + 1, a, ha, hn => by
    have h := scan_is os (k := k) ha
    obtain ⟨e1, e2⟩ := end_ge os (k := k) ha
    have hrest : Gaps (HasK os k) k to (endF os k to a + 1) (if endF os k to a = to then [] else docF os k to n (endF os k to a + 1)) := by
      by_cases he : endF os k to a = to
      · rw [if_pos he, he]
        exact .stop (by omega)
      · rw [if_neg he]
        exact doc_gaps os k to n _ (by omega) (by omega)
    unfold docF
    generalize (if endF os k to a = to then [] else docF os k to n (endF os k to a + 1)) = rest at *
    have hE : endF os k to a ≤ (scanF os k to a).1 ∧ ((scanF os k to a).1 ≤ to → endF os k to a = (scanF os k to a).1) := ⟨Nat.min_le_left _ _, fun h => Nat.min_eq_left h⟩
    generalize endF os k to a = E at *
    generalize scanF os k to a = s at *
    obtain ⟨e, t⟩ := s
    simp only at hE
    cases t with
    | true =>
      obtain ⟨⟨c, hc, c1, c2, c3, c4⟩, _⟩ := h.1 rfl
      simp only at c4
      simp only [if_true, List.nil_append]
      exact .had e1 e2 (fun x x1 x2 => ⟨c, hc, c1, by omega, by omega⟩) hrest
    | false =>
      obtain ⟨g1, g2, g3, g4, g5⟩ := h.2 rfl
      simp only at g2 g3 g4 g5
      obtain rfl : E = e := hE.2 g2
      simp only [Bool.false_eq_true, if_false, List.cons_append, List.nil_append]
      refine .free e1 e2 (fun x x1 x2 => ?_) ?_ hrest
      · rintro ⟨c, hc, c1, c2, c3⟩
        by_cases hac : a < c.f
        · have := g4 c hc c1 (by omega) hac
          omega
        · exact g1 c hc c1 ⟨by omega, by omega⟩
      · rcases g5 with g5 | ⟨c, hc, c1, c2, c3⟩
        · exact .inl g5
        · exact .inr ⟨c, hc, c1, by omega, by omega⟩
/-- The program's way gives what the document's gives. -/
theorem sweep_doc (os taken : List Cl) (k from_ to n : Nat) (hft : from_ ≤ to) (hn : to < from_ + n) (hmem : ∀ c, c ∈ taken ↔ c ∈ os ∧ meetB c ⟨k, from_, to⟩ = true) (hs : taken.Pairwise fun x y => x.f ≤ y.f) :
    sweep k to from_ taken = docF os k to n from_ := by
  refine gaps_one (sweep_gaps taken from_ (HasK os k) hft (fun c hc => ?_) hs fun x h1 h2 => ?_) _ (doc_gaps os k to n from_ hft hn)
  · have := ((hmem c).1 hc).2
    simp only [meetB, Bool.and_eq_true, decide_eq_true_eq] at this
    omega
  · constructor
    · rintro ⟨c, hc, c1, c2, c3⟩
      refine ⟨c, (hmem c).2 ⟨hc, ?_⟩, c2, c3⟩
      simp only [meetB, Bool.and_eq_true, decide_eq_true_eq]
      omega
    · rintro ⟨c, hc, c1, c2⟩
      obtain ⟨g1, g2⟩ := (hmem c).1 hc
      simp only [meetB, Bool.and_eq_true, decide_eq_true_eq] at g2
      exact ⟨c, g1, g2.1.1.1.1, c1, c2⟩
end Go.Proofs.Ytdnncpikndgabaa
