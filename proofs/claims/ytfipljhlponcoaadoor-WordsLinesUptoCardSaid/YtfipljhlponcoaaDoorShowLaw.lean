/- How a text is shown: plain law. -/
import Derived.Test.YtfipljhlponcoaaDoorDec
set_option linter.unusedVariables false
namespace Go.Proofs.YtfipljhlponcoaaDoor
open Go.RowKit
/-! How a text is shown: plain law. -/
/-- The rune that is taken at a text's front (-1: a break), and its bytes. -/
def cutN (l : List Nat) : Int × List Nat := match pcN l with
  | some (r, n) => ((r : Int), l.take n)
  | none => (-1, l.take 1)
def hexd (n : Nat) : Nat := if n < 10 then 48 + n else 87 + n
def escB (c : Nat) : List (List Nat) := [[92], [120], [hexd (c / 16)], [hexd (c % 16)]]
/-- What a piece shows, rune by rune; q: the byte that has a backslash ahead. -/
def elemsOf (q : Int) (p : Int × List Nat) : List (List Nat) :=
  if p.1 < 32 ∨ (127 ≤ p.1 ∧ p.1 ≤ 159) then p.2.flatMap escB else if p.1 = 92 ∨ p.1 = q then [[92], p.2] else [p.2]
def elems (q : Int) : Nat → List Nat → List (List Nat)
  | 0, _ => []
  | _ + 1, [] => []
  | f + 1, b :: t => elemsOf q (cutN (b :: t)) ++ elems q f ((b :: t).drop (cutN (b :: t)).2.length)
theorem cut_len {l : List Nat} (hl : ∀ x ∈ l, x < 256) (h : l ≠ []) : 1 ≤ (cutN l).2.length ∧ (cutN l).2.length ≤ l.length ∧ (cutN l).2.length ≤ 4 ∧ (cutN l).2 = l.take (cutN l).2.length := by
  have h0 : 1 ≤ l.length := by
    cases l with
    | nil => exact absurd rfl h
    | cons a t => simp
  unfold cutN
  rcases hp : pcN l with _ | ⟨r, n⟩
  · simp only [List.length_take]
    refine ⟨by omega, by omega, by omega, ?_⟩
    rw [Nat.min_eq_left (by omega)]
  · obtain ⟨h1, h2, h3⟩ := pc_some hl hp
    have h4 := enc_len r
    have h5 := congrArg List.length h3
    rw [List.length_take, ← h2] at h5
    simp only [List.length_take]
    refine ⟨by omega, by omega, by omega, ?_⟩
    rw [Nat.min_eq_left (by omega)]
/-- A rune's bytes. -/
def isRune (e : List Nat) : Prop := ∃ r, okR r ∧ e = encN r
theorem rune_small {b : Nat} (h : b < 128) : isRune [b] := ⟨b, by unfold okR; omega, by unfold encN; rw [if_pos h]⟩
theorem hexd_lt {n : Nat} (h : n < 16) : hexd n < 128 := by unfold hexd; split <;> omega
theorem elems_rune (q : Int) {l : List Nat} (hl : ∀ x ∈ l, x < 256) (h : l ≠ []) : ∀ e ∈ elemsOf q (cutN l), isRune e := by
  intro e he
  have hc := cut_len hl h
  unfold elemsOf at he
  split at he
  · obtain ⟨c, hcm, he⟩ := List.mem_flatMap.1 he
    have hc256 : c < 256 := hl c (by rw [hc.2.2.2] at hcm; exact List.mem_of_mem_take hcm)
    unfold escB at he
    simp only [List.mem_cons, List.not_mem_nil, or_false] at he
    rcases he with rfl | rfl | rfl | rfl
    · exact rune_small (by omega)
    · exact rune_small (by omega)
    · exact rune_small (hexd_lt (by omega))
    · exact rune_small (hexd_lt (by omega))
  · rename_i hr
    have hrune : isRune (cutN l).2 := by
      unfold cutN at hr ⊢
      rcases hp : pcN l with _ | ⟨r, n⟩
      · rw [hp] at hr; simp at hr
      · obtain ⟨h1, h2, h3⟩ := pc_some hl hp
        exact ⟨r, h1, h3⟩
    split at he
    · simp only [List.mem_cons, List.not_mem_nil, or_false] at he
      rcases he with rfl | rfl
      · exact rune_small (by omega)
      · exact hrune
    · rw [List.mem_singleton] at he
      subst he
      exact hrune
theorem drop_lt {l : List Nat} (hl : ∀ x ∈ l, x < 256) (n : Nat) : ∀ x ∈ l.drop n, x < 256 := fun x hx => hl x (List.mem_of_mem_drop hx)
theorem all_rune (q : Int) : ∀ (f : Nat) (l : List Nat), (∀ x ∈ l, x < 256) → ∀ e ∈ elems q f l, isRune e
  | 0, l, _, e, he => by unfold elems at he; cases he
  | f + 1, [], _, e, he => by unfold elems at he; cases he
  | f + 1, b :: t, hl, e, he => by
    unfold elems at he
    rcases List.mem_append.1 he with he | he
    · exact elems_rune q hl (by simp) e he
    · exact all_rune q f _ (drop_lt hl _) e he
/-- More steps than bytes do not matter. -/
theorem elems_fuel (q : Int) : ∀ (f g : Nat) (l : List Nat), (∀ x ∈ l, x < 256) → l.length ≤ f → l.length ≤ g → elems q f l = elems q g l
  | 0, g, l, _, hf, _ => by
    obtain rfl : l = [] := List.eq_nil_of_length_eq_zero (by omega)
    cases g <;> rfl
  | f + 1, 0, l, _, _, hg => by
    obtain rfl : l = [] := List.eq_nil_of_length_eq_zero (by omega)
    rfl
  | f + 1, g + 1, [], _, _, _ => rfl
  | f + 1, g + 1, b :: t, hl, hf, hg => by
    have hc := cut_len hl (by simp)
    unfold elems
    rw [elems_fuel q f g _ (drop_lt hl _) (by rw [List.length_drop]; omega) (by rw [List.length_drop]; omega)]
/-- All that a text shows, rune by rune. -/
def shows (q : Int) (l : List Nat) : List (List Nat) := elems q l.length l
theorem shows_nil (q : Int) : shows q [] = [] := rfl
theorem shows_cons (q : Int) {l : List Nat} (hl : ∀ x ∈ l, x < 256) (h : l ≠ []) : shows q l = elemsOf q (cutN l) ++ shows q (l.drop (cutN l).2.length) := by
  cases l with
  | nil => exact absurd rfl h
  | cons b t =>
    have hc := cut_len hl h
    unfold shows
    rw [show (b :: t).length = t.length + 1 from rfl, elems]
    rw [elems_fuel q t.length _ _ (drop_lt hl _) (by rw [List.length_drop]; simp; omega) (Nat.le_refl _)]
/-- How many runes bytes hold. -/
def cntN : Nat → List Nat → Nat
  | 0, _ => 0
  | _ + 1, [] => 0
  | f + 1, b :: t => cntN f ((b :: t).drop ((pcN (b :: t)).getD (65533, 1)).2) + 1
theorem cnt_join : ∀ (es : List (List Nat)) (f : Nat), (∀ e ∈ es, isRune e) → es.flatten.length ≤ f → cntN f es.flatten = es.length
  | [], f, _, _ => by cases f <;> rfl
  | e :: es, f, h, hf => by
    obtain ⟨r, hr, he⟩ := h e (by simp)
    have hlen := enc_len r
    rw [← he] at hlen
    rw [List.flatten_cons, List.length_append] at hf
    obtain ⟨g, rfl⟩ : ∃ g, f = g + 1 := ⟨f - 1, by omega⟩
    have hpc : pcN (e ++ es.flatten) = some (r, e.length) := by rw [he]; exact pc_enc r hr _
    obtain ⟨b, t, hbt⟩ : ∃ b t, e ++ es.flatten = b :: t := by
      cases e with
      | nil => simp at hlen
      | cons b t => exact ⟨b, t ++ es.flatten, rfl⟩
    rw [List.flatten_cons, hbt, cntN, ← hbt, hpc]
    simp only [Option.getD_some, List.drop_left']
    rw [cnt_join es g (fun x hx => h x (by simp [hx])) (by omega)]
    rfl
end Go.Proofs.YtfipljhlponcoaaDoor
