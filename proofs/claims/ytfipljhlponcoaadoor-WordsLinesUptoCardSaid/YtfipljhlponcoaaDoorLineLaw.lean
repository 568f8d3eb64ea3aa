/- Lines of words: plain law. -/
import Derived.Test.YtfipljhlponcoaaDoorShowLaw
set_option linter.unusedVariables false
namespace Go.Proofs.YtfipljhlponcoaaDoor
open Go.RowKit
/-! A line of words, and what is read of one. No program in sight. -/
def qtN (l : List Nat) : List Nat := 34 :: ((shows 34 l).flatten ++ [34])
def okC (c : Nat) : Bool := decide (33 ≤ c) && decide (c ≤ 126) && decide (c ≠ 34) && decide (c ≠ 92)
def plainN (l : List Nat) : Bool := l.all okC && decide (l ≠ [])
def wN (l : List Nat) : List Nat := if plainN l then l else qtN l
def tailN (ls : List (List Nat)) : List Nat := (ls.map fun a => 32 :: wN a).flatten
def lineN : List (List Nat) → List Nat
  | [] => []
  | a :: r => wN a ++ tailN r
theorem tailN_snoc (ls : List (List Nat)) (x : List Nat) : tailN (ls ++ [x]) = tailN ls ++ 32 :: wN x := by unfold tailN; simp
theorem lineN_snoc (ls : List (List Nat)) (x : List Nat) : lineN (ls ++ [x]) = lineN ls ++ ((if ls.length = 0 then [] else [32]) ++ wN x) := by
  cases ls with
  | nil => simp [lineN, tailN]
  | cons a r => simp [lineN, tailN_snoc]
/-- What a digit is worth. -/
def hxV (c : Nat) : Int := if 48 ≤ c ∧ c ≤ 57 then (c : Int) - 48 else if 97 ≤ c ∧ c ≤ 102 then (c : Int) - 87 else -1
theorem hxV_hexd {n : Nat} (h : n < 16) : hxV (hexd n) = n := by
  unfold hxV hexd
  split <;> split <;> (try split) <;> omega
/-- One step of the document's reader within quotes: what is read, how many bytes. -/
def rst (l : List Nat) : List Nat × Nat :=
  if l.getD 0 0 ≠ 92 then ([l.getD 0 0], 1)
  else if 4 ≤ l.length ∧ l.getD 1 0 = 120 ∧ 0 ≤ hxV (l.getD 2 0) ∧ 0 ≤ hxV (l.getD 3 0) then ([(16 * hxV (l.getD 2 0) + hxV (l.getD 3 0)).toNat], 4)
  else if 2 ≤ l.length then ([l.getD 1 0], 2)
  else ([], 1)
theorem rst_pos (l : List Nat) : 1 ≤ (rst l).2 ∧ (rst l).1.length ≤ (rst l).2 := by
  unfold rst
  repeat' split
  all_goals simp
def rqF : Nat → List Nat → List Nat × Nat
  | 0, _ => ([], 0)
  | f + 1, l => if l = [] ∨ l.getD 0 0 = 34 then ([], 0) else ((rst l).1 ++ (rqF f (l.drop (rst l).2)).1, (rst l).2 + (rqF f (l.drop (rst l).2)).2)
theorem rq_fuel : ∀ (f g : Nat) (l : List Nat), l.length ≤ f → l.length ≤ g → rqF f l = rqF g l
  | 0, g, l, hf, _ => by
    obtain rfl : l = [] := List.eq_nil_of_length_eq_zero (by omega)
    cases g <;> simp [rqF]
  | f + 1, 0, l, _, hg => by
    obtain rfl : l = [] := List.eq_nil_of_length_eq_zero (by omega)
    simp [rqF]
  | f + 1, g + 1, l, hf, hg => by
    unfold rqF
    by_cases h : l = [] ∨ l.getD 0 0 = 34
    · rw [if_pos h, if_pos h]
    · rw [if_neg h, if_neg h, rq_fuel f g _ (by rw [List.length_drop]; have := (rst_pos l).1; omega) (by rw [List.length_drop]; have := (rst_pos l).1; omega)]
def rq (l : List Nat) : List Nat × Nat := rqF l.length l
theorem rq_end {l : List Nat} (h : l = [] ∨ l.getD 0 0 = 34) : rq l = ([], 0) := by
  unfold rq
  cases l with
  | nil => rfl
  | cons a t => show rqF (t.length + 1) _ = _; unfold rqF; rw [if_pos h]
theorem rq_step {l : List Nat} (h : l ≠ []) (h' : l.getD 0 0 ≠ 34) : rq l = ((rst l).1 ++ (rq (l.drop (rst l).2)).1, (rst l).2 + (rq (l.drop (rst l).2)).2) := by
  cases l with
  | nil => exact absurd rfl h
  | cons a t =>
    unfold rq
    show rqF (t.length + 1) _ = _
    rw [rqF, if_neg (by intro hh; rcases hh with hh | hh; exact h hh; exact h' hh)]
    rw [rq_fuel t.length _ _ (by rw [List.length_drop]; have := (rst_pos (a :: t)).1; simp; omega) (Nat.le_refl _)]
/-- One step of the program's reader within quotes; h2: what two digits say, if they do. -/
def pst (h2 : Nat → Nat → Option Nat) (l : List Nat) : Option (List Nat × Nat) :=
  if l.getD 0 0 = 92 ∧ 4 ≤ l.length ∧ l.getD 1 0 = 120 then (h2 (l.getD 2 0) (l.getD 3 0)).map fun v => ([v], 4)
  else if l.getD 0 0 = 92 ∧ 2 ≤ l.length then some ([l.getD 1 0], 2)
  else some ([l.getD 0 0], 1)
theorem pst_pos {h2 : Nat → Nat → Option Nat} {l : List Nat} {p : List Nat × Nat} (h : pst h2 l = some p) : 1 ≤ p.2 ∧ p.1.length ≤ p.2 := by
  unfold pst at h
  split at h
  · cases hh : h2 (l.getD 2 0) (l.getD 3 0) with
    | none => rw [hh] at h; cases h
    | some v => rw [hh] at h; injection h with h; subst h; simp
  split at h
  · injection h with h; subst h; simp
  · injection h with h; subst h; simp
def pqF (h2 : Nat → Nat → Option Nat) : Nat → List Nat → Option (List Nat × Nat)
  | 0, _ => none
  | f + 1, l => if l = [] then none else if l.getD 0 0 = 34 then some ([], 1) else
    match pst h2 l with
    | none => none
    | some p => match pqF h2 f (l.drop p.2) with
      | none => none
      | some r => some (p.1 ++ r.1, p.2 + r.2)
theorem pq_fuel (h2 : Nat → Nat → Option Nat) : ∀ (f g : Nat) (l : List Nat), l.length ≤ f → l.length ≤ g → pqF h2 f l = pqF h2 g l
  | 0, g, l, hf, _ => by
    obtain rfl : l = [] := List.eq_nil_of_length_eq_zero (by omega)
    cases g <;> simp [pqF]
  | f + 1, 0, l, _, hg => by
    obtain rfl : l = [] := List.eq_nil_of_length_eq_zero (by omega)
    simp [pqF]
  | f + 1, g + 1, l, hf, hg => by
    unfold pqF
    by_cases h : l = []
    · rw [if_pos h, if_pos h]
    by_cases h' : l.getD 0 0 = 34
    · rw [if_neg h, if_neg h, if_pos h', if_pos h']
    · rw [if_neg h, if_neg h, if_neg h', if_neg h']
      cases hp : pst h2 l with
      | none => rfl
      | some p =>
        have := (pst_pos hp).1
        have hl : 0 < l.length := List.length_pos_iff.2 h
        simp only
        rw [pq_fuel h2 f g _ (by rw [List.length_drop]; omega) (by rw [List.length_drop]; omega)]
def pq (h2 : Nat → Nat → Option Nat) (l : List Nat) : Option (List Nat × Nat) := pqF h2 l.length l
theorem pq_nil (h2 : Nat → Nat → Option Nat) : pq h2 [] = none := rfl
theorem pq_end (h2 : Nat → Nat → Option Nat) {l : List Nat} (h : l ≠ []) (h' : l.getD 0 0 = 34) : pq h2 l = some ([], 1) := by
  unfold pq
  cases l with
  | nil => exact absurd rfl h
  | cons a t => show pqF h2 (t.length + 1) _ = _; unfold pqF; rw [if_neg h, if_pos h']
theorem pq_step {h2 : Nat → Nat → Option Nat} {l : List Nat} (h : l ≠ []) (h' : l.getD 0 0 ≠ 34) : pq h2 l = match pst h2 l with
    | none => none
    | some p => match pq h2 (l.drop p.2) with
      | none => none
      | some r => some (p.1 ++ r.1, p.2 + r.2) := by
  cases l with
  | nil => exact absurd rfl h
  | cons a t =>
    unfold pq
    show pqF h2 (t.length + 1) _ = _
    rw [pqF, if_neg h, if_neg h']
    cases hp : pst h2 (a :: t) with
    | none => rfl
    | some p =>
      simp only
      rw [pq_fuel h2 t.length _ _ (by rw [List.length_drop]; have := (pst_pos hp).1; simp; omega) (Nat.le_refl _)]
/-- What two digits say, in what the program's reader takes. -/
def Hex2 (h2 : Nat → Nat → Option Nat) : Prop := (∀ c, c < 256 → h2 (hexd (c / 16)) (hexd (c % 16)) = some c) ∧ ∀ a b v, h2 a b = some v → v < 256
/-- Both readers, over the same bytes, read the same. -/
def Reads (h2 : Nat → Nat → Option Nat) (q w : List Nat) : Prop := ∀ rest, rq (q ++ rest) = (w ++ (rq rest).1, q.length + (rq rest).2) ∧ pq h2 (q ++ rest) = (pq h2 rest).map fun r => (w ++ r.1, q.length + r.2)
theorem Reads.nil (h2 : Nat → Nat → Option Nat) : Reads h2 [] [] := fun rest => by
  constructor
  · simp
  · rw [List.nil_append]
    cases h : pq h2 rest <;> simp
theorem Reads.app {h2 : Nat → Nat → Option Nat} {q w q' w' : List Nat} (h : Reads h2 q w) (h' : Reads h2 q' w') : Reads h2 (q ++ q') (w ++ w') := fun rest => by
  rw [List.append_assoc]
  constructor
  · rw [(h _).1, (h' _).1]
    simp [Nat.add_assoc]
  · rw [(h _).2, (h' _).2]
    cases pq h2 rest <;> simp [Nat.add_assoc]
theorem Reads.one {h2 : Nat → Nat → Option Nat} {c : Nat} (h1 : c ≠ 34) (h3 : c ≠ 92) : Reads h2 [c] [c] := fun rest => by
  have hr : rst ([c] ++ rest) = ([c], 1) := by unfold rst; simp [h3]
  have hp : pst h2 ([c] ++ rest) = some ([c], 1) := by unfold pst; simp [h3]
  constructor
  · rw [rq_step (by simp) (by simpa using h1), hr]
    simp
  · rw [pq_step (by simp) (by simpa using h1), hp]
    simp
    cases pq h2 rest <;> simp
theorem Reads.two {h2 : Nat → Nat → Option Nat} {c : Nat} (h3 : c ≠ 120) : Reads h2 [92, c] [c] := fun rest => by
  have hr : rst ([92, c] ++ rest) = ([c], 2) := by unfold rst; simp [h3]
  have hp : pst h2 ([92, c] ++ rest) = some ([c], 2) := by unfold pst; simp [h3]
  constructor
  · rw [rq_step (by simp) (by simp), hr]
    simp
  · rw [pq_step (by simp) (by simp), hp]
    simp
    cases pq h2 rest <;> simp
theorem Reads.four {h2 : Nat → Nat → Option Nat} (H : Hex2 h2) {c : Nat} (h : c < 256) : Reads h2 (escB c).flatten [c] := fun rest => by
  have h1 := hxV_hexd (n := c / 16) (by omega)
  have h3 := hxV_hexd (n := c % 16) (by omega)
  have e : (escB c).flatten = [92, 120, hexd (c / 16), hexd (c % 16)] := rfl
  rw [e]
  have hr : rst ([92, 120, hexd (c / 16), hexd (c % 16)] ++ rest) = ([c], 4) := by
    unfold rst
    simp only [List.cons_append, List.nil_append, List.getD_cons_zero, List.getD_cons_succ, List.length_cons]
    rw [h1, h3, if_neg (by simp), if_pos (by refine ⟨by omega, ?_, by omega, by omega⟩; trivial)]
    congr 2
    omega
  have hp : pst h2 ([92, 120, hexd (c / 16), hexd (c % 16)] ++ rest) = some ([c], 4) := by
    unfold pst
    simp only [List.cons_append, List.nil_append, List.getD_cons_zero, List.getD_cons_succ, List.length_cons]
    rw [if_pos (by refine ⟨?_, by omega, ?_⟩ <;> trivial), H.1 c h]
    rfl
  constructor
  · rw [rq_step (by simp) (by simp), hr]
    simp
  · rw [pq_step (by simp) (by simp), hp]
    simp
    cases pq h2 rest <;> simp
theorem reads_bytes {h2 : Nat → Nat → Option Nat} : ∀ bs : List Nat, (∀ c ∈ bs, c ≠ 34 ∧ c ≠ 92) → Reads h2 bs bs
  | [], _ => Reads.nil h2
  | c :: t, h => Reads.app (q := [c]) (w := [c]) (Reads.one (h c (by simp)).1 (h c (by simp)).2) (reads_bytes t fun x hx => h x (by simp [hx]))
theorem reads_esc {h2 : Nat → Nat → Option Nat} (H : Hex2 h2) : ∀ bs : List Nat, (∀ c ∈ bs, c < 256) → Reads h2 (bs.flatMap escB).flatten bs
  | [], _ => Reads.nil h2
  | c :: t, h => by
    rw [List.flatMap_cons, List.flatten_append]
    exact Reads.app (w := [c]) (Reads.four H (h c (by simp))) (reads_esc H t fun x hx => h x (by simp [hx]))
theorem enc_plain {r : Nat} (h1 : r ≠ 34) (h2 : r ≠ 92) : ∀ c ∈ encN r, c ≠ 34 ∧ c ≠ 92 := by
  intro c hc
  unfold encN at hc
  repeat' split at hc
  all_goals simp at hc; omega
theorem reads_cut {h2 : Nat → Nat → Option Nat} (H : Hex2 h2) {l : List Nat} (hl : ∀ x ∈ l, x < 256) (h : l ≠ []) : Reads h2 (elemsOf 34 (cutN l)).flatten (cutN l).2 := by
  have hc := cut_len hl h
  have hlt : ∀ x ∈ (cutN l).2, x < 256 := fun x hx => hl x (by rw [hc.2.2.2] at hx; exact List.mem_of_mem_take hx)
  unfold elemsOf
  split
  · exact reads_esc H _ hlt
  rename_i hr
  obtain ⟨r, h1, h3⟩ : ∃ r : Nat, (cutN l).1 = (r : Int) ∧ (cutN l).2 = encN r := by
    unfold cutN at hr ⊢
    rcases hp : pcN l with _ | ⟨r, n⟩
    · rw [hp] at hr; simp at hr
    · obtain ⟨h1, h2, h3⟩ := pc_some hl hp
      exact ⟨r, rfl, h3⟩
  rw [h1, h3]
  split
  · rename_i hq
    have e : encN r = [r] := by unfold encN; rw [if_pos (by omega)]
    rw [e]
    exact Reads.two (by omega)
  · rename_i hq
    have := reads_bytes (h2 := h2) (encN r) (enc_plain (by omega) (by omega))
    simpa using this
theorem reads_elems {h2 : Nat → Nat → Option Nat} (H : Hex2 h2) : ∀ (f : Nat) (l : List Nat), l.length ≤ f → (∀ x ∈ l, x < 256) → Reads h2 (elems 34 f l).flatten l
  | 0, l, hf, _ => by
    obtain rfl : l = [] := List.eq_nil_of_length_eq_zero (by omega)
    exact Reads.nil h2
  | f + 1, [], _, _ => Reads.nil h2
  | f + 1, b :: t, hf, hl => by
    have hc := cut_len hl (by simp)
    unfold elems
    rw [List.flatten_append]
    have h1 := Reads.app (reads_cut H hl (by simp)) (reads_elems H f ((b :: t).drop (cutN (b :: t)).2.length) (by rw [List.length_drop]; omega) (drop_lt hl _))
    have e : (cutN (b :: t)).2 ++ (b :: t).drop (cutN (b :: t)).2.length = b :: t := by
      conv => lhs; arg 1; rw [hc.2.2.2]
      exact List.take_append_drop _ _
    rwa [e] at h1
/-- Both readers read what is quoted. -/
theorem rq_qt {h2 : Nat → Nat → Option Nat} (H : Hex2 h2) {l : List Nat} (hl : ∀ x ∈ l, x < 256) (rest : List Nat) :
    rq ((shows 34 l).flatten ++ 34 :: rest) = (l, (shows 34 l).flatten.length) ∧ pq h2 ((shows 34 l).flatten ++ 34 :: rest) = some (l, (shows 34 l).flatten.length + 1) := by
  have h := reads_elems H l.length l (Nat.le_refl _) hl (34 :: rest)
  unfold shows
  constructor
  · rw [h.1, rq_end (.inr rfl)]; simp
  · rw [h.2, pq_end h2 (by simp) rfl]; simp
end Go.Proofs.YtfipljhlponcoaaDoor
