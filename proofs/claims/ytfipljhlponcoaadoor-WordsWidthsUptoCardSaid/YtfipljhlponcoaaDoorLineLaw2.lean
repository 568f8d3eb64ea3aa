/- Lines of words: plain law. Fields of a line: plain law. -/
import Derived.Test.YtfipljhlponcoaaDoorPutMem
set_option linter.unusedVariables false
namespace Go.Proofs.YtfipljhlponcoaaDoor
open Go.RowKit
/-! A line of words, and what is read of one. No program in sight. -/
def qtN (l : List Nat) : List Nat := 34 :: ((shows 34 l).flatten ++ [34])
def okC (c : Nat) : Bool := decide (33 ≤ c) && decide (c ≤ 126) && decide (c ≠ 34) && decide (c ≠ 92)
def plainN (l : List Nat) : Bool := l.all okC && decide (l ≠ [])
def wN (l : List Nat) : List Nat := if plainN l then l else qtN l
def tailN (ls : List (List Nat)) : List Nat := (ls.map fun a => 32 :: wN a).flatten
def lineN : List (List Nat) → List Nat
  | [] => []
  | a :: r => wN a ++ tailN r
theorem tailN_snoc (ls : List (List Nat)) (x : List Nat) : tailN (ls ++ [x]) = tailN ls ++ 32 :: wN x := by unfold tailN; simp
theorem lineN_snoc (ls : List (List Nat)) (x : List Nat) : lineN (ls ++ [x]) = lineN ls ++ ((if ls.length = 0 then [] else [32]) ++ wN x) := by
  cases ls with
  | nil => simp [lineN, tailN]
  | cons a r => simp [lineN, tailN_snoc]
/-- What a digit is worth. -/
def hxV (c : Nat) : Int := if 48 ≤ c ∧ c ≤ 57 then (c : Int) - 48 else if 97 ≤ c ∧ c ≤ 102 then (c : Int) - 87 else -1
theorem hxV_hexd {n : Nat} (h : n < 16) : hxV (hexd n) = n := by
  unfold hxV hexd
  split <;> split <;> (try split) <;> omega
/-- One step of the document's reader within quotes: what is read, how many bytes. -/
def rst (l : List Nat) : List Nat × Nat :=
  if l.getD 0 0 ≠ 92 then ([l.getD 0 0], 1)
  else if 4 ≤ l.length ∧ l.getD 1 0 = 120 ∧ 0 ≤ hxV (l.getD 2 0) ∧ 0 ≤ hxV (l.getD 3 0) then ([(16 * hxV (l.getD 2 0) + hxV (l.getD 3 0)).toNat], 4)
  else if 2 ≤ l.length then ([l.getD 1 0], 2)
  else ([], 1)
theorem rst_pos (l : List Nat) : 1 ≤ (rst l).2 ∧ (rst l).1.length ≤ (rst l).2 := by
  unfold rst
  repeat' split
  all_goals simp
def rqF : Nat → List Nat → List Nat × Nat
  | 0, _ => ([], 0)
  | f + 1, l => if l = [] ∨ l.getD 0 0 = 34 then ([], 0) else ((rst l).1 ++ (rqF f (l.drop (rst l).2)).1, (rst l).2 + (rqF f (l.drop (rst l).2)).2)
theorem rq_fuel : ∀ (f g : Nat) (l : List Nat), l.length ≤ f → l.length ≤ g → rqF f l = rqF g l
  | 0, g, l, hf, _ => by
    obtain rfl : l = [] := List.eq_nil_of_length_eq_zero (by omega)
    cases g <;> simp [rqF]
  | f + 1, 0, l, _, hg => by
    obtain rfl : l = [] := List.eq_nil_of_length_eq_zero (by omega)
    simp [rqF]
  | f + 1, g + 1, l, hf, hg => by
    unfold rqF
    by_cases h : l = [] ∨ l.getD 0 0 = 34
    · rw [if_pos h, if_pos h]
    · rw [if_neg h, if_neg h, rq_fuel f g _ (by rw [List.length_drop]; have := (rst_pos l).1; omega) (by rw [List.length_drop]; have := (rst_pos l).1; omega)]
def rq (l : List Nat) : List Nat × Nat := rqF l.length l
theorem rq_end {l : List Nat} (h : l = [] ∨ l.getD 0 0 = 34) : rq l = ([], 0) := by
  unfold rq
  cases l with
  | nil => rfl
  | cons a t => show rqF (t.length + 1) _ = _; unfold rqF; rw [if_pos h]
theorem rq_step {l : List Nat} (h : l ≠ []) (h' : l.getD 0 0 ≠ 34) : rq l = ((rst l).1 ++ (rq (l.drop (rst l).2)).1, (rst l).2 + (rq (l.drop (rst l).2)).2) := by
  cases l with
  | nil => exact absurd rfl h
  | cons a t =>
    unfold rq
    show rqF (t.length + 1) _ = _
    rw [rqF, if_neg (by intro hh; rcases hh with hh | hh; exact h hh; exact h' hh)]
    rw [rq_fuel t.length _ _ (by rw [List.length_drop]; have := (rst_pos (a :: t)).1; simp; omega) (Nat.le_refl _)]
/-- One step of the program's reader within quotes; h2: what two digits say, if they do. -/
def pst (h2 : Nat → Nat → Option Nat) (l : List Nat) : Option (List Nat × Nat) :=
  if l.getD 0 0 = 92 ∧ 4 ≤ l.length ∧ l.getD 1 0 = 120 then (h2 (l.getD 2 0) (l.getD 3 0)).map fun v => ([v], 4)
  else if l.getD 0 0 = 92 ∧ 2 ≤ l.length then some ([l.getD 1 0], 2)
  else some ([l.getD 0 0], 1)
theorem pst_pos {h2 : Nat → Nat → Option Nat} {l : List Nat} {p : List Nat × Nat} (h : pst h2 l = some p) : 1 ≤ p.2 ∧ p.1.length ≤ p.2 := by
  unfold pst at h
  split at h
  · cases hh : h2 (l.getD 2 0) (l.getD 3 0) with
    | none => rw [hh] at h; cases h
    | some v => rw [hh] at h; injection h with h; subst h; simp
  split at h
  · injection h with h; subst h; simp
  · injection h with h; subst h; simp
def pqF (h2 : Nat → Nat → Option Nat) : Nat → List Nat → Option (List Nat × Nat)
  | 0, _ => none
  | f + 1, l => if l = [] then none else if l.getD 0 0 = 34 then some ([], 1) else
    match pst h2 l with
    | none => none
    | some p => match pqF h2 f (l.drop p.2) with
      | none => none
      | some r => some (p.1 ++ r.1, p.2 + r.2)
theorem pq_fuel (h2 : Nat → Nat → Option Nat) : ∀ (f g : Nat) (l : List Nat), l.length ≤ f → l.length ≤ g → pqF h2 f l = pqF h2 g l
  | 0, g, l, hf, _ => by
    obtain rfl : l = [] := List.eq_nil_of_length_eq_zero (by omega)
    cases g <;> simp [pqF]
  | f + 1, 0, l, _, hg => by
    obtain rfl : l = [] := List.eq_nil_of_length_eq_zero (by omega)
    simp [pqF]
  | f + 1, g + 1, l, hf, hg => by
    unfold pqF
    by_cases h : l = []
    · rw [if_pos h, if_pos h]
    by_cases h' : l.getD 0 0 = 34
    · rw [if_neg h, if_neg h, if_pos h', if_pos h']
    · rw [if_neg h, if_neg h, if_neg h', if_neg h']
      cases hp : pst h2 l with
      | none => rfl
      | some p =>
        have := (pst_pos hp).1
        have hl : 0 < l.length := List.length_pos_iff.2 h
        simp only
        rw [pq_fuel h2 f g _ (by rw [List.length_drop]; omega) (by rw [List.length_drop]; omega)]
def pq (h2 : Nat → Nat → Option Nat) (l : List Nat) : Option (List Nat × Nat) := pqF h2 l.length l
theorem pq_nil (h2 : Nat → Nat → Option Nat) : pq h2 [] = none := rfl
theorem pq_end (h2 : Nat → Nat → Option Nat) {l : List Nat} (h : l ≠ []) (h' : l.getD 0 0 = 34) : pq h2 l = some ([], 1) := by
  unfold pq
  cases l with
  | nil => exact absurd rfl h
  | cons a t => show pqF h2 (t.length + 1) _ = _; unfold pqF; rw [if_neg h, if_pos h']
theorem pq_step {h2 : Nat → Nat → Option Nat} {l : List Nat} (h : l ≠ []) (h' : l.getD 0 0 ≠ 34) : pq h2 l = match pst h2 l with
    | none => none
    | some p => match pq h2 (l.drop p.2) with
      | none => none
      | some r => some (p.1 ++ r.1, p.2 + r.2) := by
  cases l with
  | nil => exact absurd rfl h
  | cons a t =>
    unfold pq
    show pqF h2 (t.length + 1) _ = _
    rw [pqF, if_neg h, if_neg h']
    cases hp : pst h2 (a :: t) with
    | none => rfl
    | some p =>
      simp only
      rw [pq_fuel h2 t.length _ _ (by rw [List.length_drop]; have := (pst_pos hp).1; simp; omega) (Nat.le_refl _)]
/-- What two digits say, in what the program's reader takes. -/
def Hex2 (h2 : Nat → Nat → Option Nat) : Prop := (∀ c, c < 256 → h2 (hexd (c / 16)) (hexd (c % 16)) = some c) ∧ ∀ a b v, h2 a b = some v → v < 256
/-- Both readers, over the same bytes, read the same. -/
def Reads (h2 : Nat → Nat → Option Nat) (q w : List Nat) : Prop := ∀ rest, rq (q ++ rest) = (w ++ (rq rest).1, q.length + (rq rest).2) ∧ pq h2 (q ++ rest) = (pq h2 rest).map fun r => (w ++ r.1, q.length + r.2)
theorem Reads.nil (h2 : Nat → Nat → Option Nat) : Reads h2 [] [] := fun rest => by
  constructor
  · simp
  · rw [List.nil_append]
    cases h : pq h2 rest <;> simp
theorem Reads.app {h2 : Nat → Nat → Option Nat} {q w q' w' : List Nat} (h : Reads h2 q w) (h' : Reads h2 q' w') : Reads h2 (q ++ q') (w ++ w') := fun rest => by
  rw [List.append_assoc]
  constructor
  · rw [(h _).1, (h' _).1]
    simp [Nat.add_assoc]
  · rw [(h _).2, (h' _).2]
    cases pq h2 rest <;> simp [Nat.add_assoc]
theorem Reads.one {h2 : Nat → Nat → Option Nat} {c : Nat} (h1 : c ≠ 34) (h3 : c ≠ 92) : Reads h2 [c] [c] := fun rest => by
  have hr : rst ([c] ++ rest) = ([c], 1) := by unfold rst; simp [h3]
  have hp : pst h2 ([c] ++ rest) = some ([c], 1) := by unfold pst; simp [h3]
  constructor
  · rw [rq_step (by simp) (by simpa using h1), hr]
    simp
  · rw [pq_step (by simp) (by simpa using h1), hp]
    simp
    cases pq h2 rest <;> simp
theorem Reads.two {h2 : Nat → Nat → Option Nat} {c : Nat} (h3 : c ≠ 120) : Reads h2 [92, c] [c] := fun rest => by
  have hr : rst ([92, c] ++ rest) = ([c], 2) := by unfold rst; simp [h3]
  have hp : pst h2 ([92, c] ++ rest) = some ([c], 2) := by unfold pst; simp [h3]
  constructor
  · rw [rq_step (by simp) (by simp), hr]
    simp
  · rw [pq_step (by simp) (by simp), hp]
    simp
    cases pq h2 rest <;> simp
theorem Reads.four {h2 : Nat → Nat → Option Nat} (H : Hex2 h2) {c : Nat} (h : c < 256) : Reads h2 (escB c).flatten [c] := fun rest => by
  have h1 := hxV_hexd (n := c / 16) (by omega)
  have h3 := hxV_hexd (n := c % 16) (by omega)
  have e : (escB c).flatten = [92, 120, hexd (c / 16), hexd (c % 16)] := rfl
  rw [e]
  have hr : rst ([92, 120, hexd (c / 16), hexd (c % 16)] ++ rest) = ([c], 4) := by
    unfold rst
    simp only [List.cons_append, List.nil_append, List.getD_cons_zero, List.getD_cons_succ, List.length_cons]
    rw [h1, h3, if_neg (by simp), if_pos (by refine ⟨by omega, ?_, by omega, by omega⟩; trivial)]
    congr 2
    omega
  have hp : pst h2 ([92, 120, hexd (c / 16), hexd (c % 16)] ++ rest) = some ([c], 4) := by
    unfold pst
    simp only [List.cons_append, List.nil_append, List.getD_cons_zero, List.getD_cons_succ, List.length_cons]
    rw [if_pos (by refine ⟨?_, by omega, ?_⟩ <;> trivial), H.1 c h]
    rfl
  constructor
  · rw [rq_step (by simp) (by simp), hr]
    simp
  · rw [pq_step (by simp) (by simp), hp]
    simp
    cases pq h2 rest <;> simp
theorem reads_bytes {h2 : Nat → Nat → Option Nat} : ∀ bs : List Nat, (∀ c ∈ bs, c ≠ 34 ∧ c ≠ 92) → Reads h2 bs bs
  | [], _ => Reads.nil h2
  | c :: t, h => Reads.app (q := [c]) (w := [c]) (Reads.one (h c (by simp)).1 (h c (by simp)).2) (reads_bytes t fun x hx => h x (by simp [hx]))
theorem reads_esc {h2 : Nat → Nat → Option Nat} (H : Hex2 h2) : ∀ bs : List Nat, (∀ c ∈ bs, c < 256) → Reads h2 (bs.flatMap escB).flatten bs
  | [], _ => Reads.nil h2
  | c :: t, h => by
    rw [List.flatMap_cons, List.flatten_append]
    exact Reads.app (w := [c]) (Reads.four H (h c (by simp))) (reads_esc H t fun x hx => h x (by simp [hx]))
theorem enc_plain {r : Nat} (h1 : r ≠ 34) (h2 : r ≠ 92) : ∀ c ∈ encN r, c ≠ 34 ∧ c ≠ 92 := by
  intro c hc
  unfold encN at hc
  repeat' split at hc
  all_goals simp at hc; omega
theorem reads_cut {h2 : Nat → Nat → Option Nat} (H : Hex2 h2) {l : List Nat} (hl : ∀ x ∈ l, x < 256) (h : l ≠ []) : Reads h2 (elemsOf 34 (cutN l)).flatten (cutN l).2 := by
  have hc := cut_len hl h
  have hlt : ∀ x ∈ (cutN l).2, x < 256 := fun x hx => hl x (by rw [hc.2.2.2] at hx; exact List.mem_of_mem_take hx)
  unfold elemsOf
  split
  · exact reads_esc H _ hlt
  rename_i hr
  obtain ⟨r, h1, h3⟩ : ∃ r : Nat, (cutN l).1 = (r : Int) ∧ (cutN l).2 = encN r := by
    unfold cutN at hr ⊢
    rcases hp : pcN l with _ | ⟨r, n⟩
    · rw [hp] at hr; simp at hr
    · obtain ⟨h1, h2, h3⟩ := pc_some hl hp
      exact ⟨r, rfl, h3⟩
  rw [h1, h3]
  split
  · rename_i hq
    have e : encN r = [r] := by unfold encN; rw [if_pos (by omega)]
    rw [e]
    exact Reads.two (by omega)
  · rename_i hq
    have := reads_bytes (h2 := h2) (encN r) (enc_plain (by omega) (by omega))
    simpa using this
theorem reads_elems {h2 : Nat → Nat → Option Nat} (H : Hex2 h2) : ∀ (f : Nat) (l : List Nat), l.length ≤ f → (∀ x ∈ l, x < 256) → Reads h2 (elems 34 f l).flatten l
  | 0, l, hf, _ => by
    obtain rfl : l = [] := List.eq_nil_of_length_eq_zero (by omega)
    exact Reads.nil h2
  | f + 1, [], _, _ => Reads.nil h2
  | f + 1, b :: t, hf, hl => by
    have hc := cut_len hl (by simp)
    unfold elems
    rw [List.flatten_append]
    have h1 := Reads.app (reads_cut H hl (by simp)) (reads_elems H f ((b :: t).drop (cutN (b :: t)).2.length) (by rw [List.length_drop]; omega) (drop_lt hl _))
    have e : (cutN (b :: t)).2 ++ (b :: t).drop (cutN (b :: t)).2.length = b :: t := by
      conv => lhs; arg 1; rw [hc.2.2.2]
      exact List.take_append_drop _ _
    rwa [e] at h1
/-- Both readers read what is quoted. -/
theorem rq_qt {h2 : Nat → Nat → Option Nat} (H : Hex2 h2) {l : List Nat} (hl : ∀ x ∈ l, x < 256) (rest : List Nat) :
    rq ((shows 34 l).flatten ++ 34 :: rest) = (l, (shows 34 l).flatten.length) ∧ pq h2 ((shows 34 l).flatten ++ 34 :: rest) = some (l, (shows 34 l).flatten.length + 1) := by
  have h := reads_elems H l.length l (Nat.le_refl _) hl (34 :: rest)
  unfold shows
  constructor
  · rw [h.1, rq_end (.inr rfl)]; simp
  · rw [h.2, pq_end h2 (by simp) rfl]; simp
end Go.Proofs.YtfipljhlponcoaaDoor

set_option linter.unusedVariables false
namespace Go.Proofs.YtfipljhlponcoaaDoor
open Go.RowKit
/-- How many bytes stand ahead of the first space. -/
def spN (l : List Nat) : Nat := (l.takeWhile (· != 32)).length
theorem spN_le (l : List Nat) : spN l ≤ l.length := by
  unfold spN
  exact (List.takeWhile_sublist _).length_le
/-- The document's word at the front of a line: its bytes, how many it takes. -/
def rword (l : List Nat) : List Nat × Nat :=
  if l = [] ∨ l.getD 0 0 ≠ 34 then (l.take (spN l), spN l) else ((rq (l.drop 1)).1, min (2 + (rq (l.drop 1)).2) l.length)
theorem rqF_len : ∀ (f : Nat) (l : List Nat), (rqF f l).1.length ≤ (rqF f l).2 ∧ (rqF f l).2 ≤ l.length
  | 0, l => by simp [rqF]
  | f + 1, l => by
    unfold rqF
    split
    · simp
    · rename_i h
      have ih := rqF_len f (l.drop (rst l).2)
      have h1 := rst_pos l
      have h3 : (rst l).2 ≤ l.length := by
        have : 0 < l.length := List.length_pos_iff.2 fun e => h (.inl e)
        unfold rst
        repeat' split
        all_goals simp; omega
      rw [List.length_drop] at ih
      simp only [List.length_append]
      omega
theorem rq_len (l : List Nat) : (rq l).1.length ≤ (rq l).2 ∧ (rq l).2 ≤ l.length := rqF_len _ l
theorem rword_len (l : List Nat) : (rword l).1.length ≤ (rword l).2 ∧ (rword l).2 ≤ l.length := by
  unfold rword
  split
  · simp only [List.length_take]
    have := spN_le l
    omega
  · have := rq_len (l.drop 1)
    rw [List.length_drop] at this
    have hl : 0 < l.length := by
      rename_i h
      exact List.length_pos_iff.2 fun e => h (.inl e)
    simp only
    omega
def rfF : Nat → List Nat → List (List Nat)
  | 0, _ => []
  | f + 1, l => if l = [] then [] else (rword l).1 :: rfF f (l.drop ((rword l).2 + 1))
theorem rf_fuel : ∀ (f g : Nat) (l : List Nat), l.length ≤ f → l.length ≤ g → rfF f l = rfF g l
  | 0, g, l, hf, _ => by
    obtain rfl : l = [] := List.eq_nil_of_length_eq_zero (by omega)
    cases g <;> simp [rfF]
  | f + 1, 0, l, _, hg => by
    obtain rfl : l = [] := List.eq_nil_of_length_eq_zero (by omega)
    simp [rfF]
  | f + 1, g + 1, l, hf, hg => by
    unfold rfF
    by_cases h : l = []
    · rw [if_pos h, if_pos h]
    · rw [if_neg h, if_neg h, rf_fuel f g _ (by rw [List.length_drop]; omega) (by rw [List.length_drop]; omega)]
/-- The words that a line seems to have (the document). -/
def rf (l : List Nat) : List (List Nat) := rfF l.length l
theorem rf_nil : rf [] = [] := rfl
theorem rf_step {l : List Nat} (h : l ≠ []) : rf l = (rword l).1 :: rf (l.drop ((rword l).2 + 1)) := by
  unfold rf
  cases l with
  | nil => exact absurd rfl h
  | cons a t =>
    show rfF (t.length + 1) _ = _
    rw [rfF, if_neg h, rf_fuel t.length _ _ (by rw [List.length_drop]; simp) (Nat.le_refl _)]
/-- The program's word at the front: its bytes, how many it takes. -/
def pword (h2 : Nat → Nat → Option Nat) (l : List Nat) : Option (List Nat × Nat) :=
  if l.getD 0 0 = 34 then (pq h2 (l.drop 1)).map fun r => (r.1, r.2 + 1) else some (l.take (spN l), spN l)
/-- A line without the one space at its front. -/
def trmN (l : List Nat) : List Nat := if l.getD 0 0 = 32 then l.drop 1 else l
theorem pqF_len (h2 : Nat → Nat → Option Nat) : ∀ (f : Nat) (l : List Nat) (r : List Nat × Nat), pqF h2 f l = some r → r.1.length + 1 ≤ r.2 ∧ r.2 ≤ l.length
  | 0, l, r, h => by cases h
  | f + 1, l, r, h => by
    unfold pqF at h
    split at h
    · cases h
    rename_i hne
    have hl : 0 < l.length := List.length_pos_iff.2 hne
    split at h
    · injection h with h; subst h; simp; omega
    cases hp : pst h2 l with
    | none => rw [hp] at h; cases h
    | some p =>
      rw [hp] at h
      simp only at h
      cases hq : pqF h2 f (l.drop p.2) with
      | none => rw [hq] at h; cases h
      | some r' =>
        rw [hq] at h
        injection h with h
        subst h
        have ih := pqF_len h2 f _ _ hq
        rw [List.length_drop] at ih
        have := pst_pos hp
        simp only [List.length_append]
        omega
theorem pq_len {h2 : Nat → Nat → Option Nat} {l : List Nat} {r : List Nat × Nat} (h : pq h2 l = some r) : r.1.length + 1 ≤ r.2 ∧ r.2 ≤ l.length := pqF_len h2 _ l r h
theorem trm_len (l : List Nat) : (trmN l).length ≤ l.length ∧ (l.getD 0 0 = 32 → l ≠ [] → (trmN l).length + 1 = l.length) := by
  unfold trmN
  split
  · rw [List.length_drop]
    refine ⟨by omega, fun _ h => ?_⟩
    have := List.length_pos_iff.2 h
    omega
  · rename_i h
    exact ⟨Nat.le_refl _, fun e => absurd e h⟩
theorem spN_drop (l : List Nat) : l.drop (spN l) = [] ∨ ((l.drop (spN l)).getD 0 0 = 32 ∧ l.drop (spN l) ≠ []) := by
  unfold spN
  induction l with
  | nil => left; rfl
  | cons a t ih =>
    by_cases h : a = 32
    · subst h
      right
      simp
    · rw [List.takeWhile_cons_of_pos (by simpa using h)]
      simpa using ih
/-- A step of the program's reader makes the line shorter by more than the word has. -/
theorem pword_len {h2 : Nat → Nat → Option Nat} {l : List Nat} {p : List Nat × Nat} (hl : l ≠ []) (h : pword h2 l = some p) : p.2 ≤ l.length ∧ (trmN (l.drop p.2)).length < l.length ∧ (p.1.length + 1 + (trmN (l.drop p.2)).length ≤ l.length ∨ (p.1.length = l.length ∧ (trmN (l.drop p.2)).length = 0)) := by
  have hl0 : 0 < l.length := List.length_pos_iff.2 hl
  unfold pword at h
  split at h
  · cases hq : pq h2 (l.drop 1) with
    | none => rw [hq] at h; cases h
    | some r =>
      rw [hq] at h
      injection h with h
      subst h
      have := pq_len hq
      rw [List.length_drop] at this
      have ht := (trm_len (l.drop (r.2 + 1))).1
      rw [List.length_drop] at ht
      simp only
      omega
  · injection h with h
    subst h
    have hs := spN_le l
    simp only [List.length_take]
    have ht := (trm_len (l.drop (spN l)))
    rw [List.length_drop] at ht
    rcases spN_drop l with h1 | ⟨h1, h3⟩
    · have := congrArg List.length h1
      rw [List.length_drop] at this
      simp at this
      omega
    · have := ht.2 h1 h3
      have : 0 < (l.drop (spN l)).length := List.length_pos_iff.2 h3
      rw [List.length_drop] at this
      omega
def pfF (h2 : Nat → Nat → Option Nat) : Nat → List Nat → Option (List (List Nat))
  | 0, l => if l = [] then some [] else none
  | f + 1, l => if l = [] then some [] else match pword h2 l with
    | none => none
    | some p => (pfF h2 f (trmN (l.drop p.2))).map (p.1 :: ·)
theorem pf_fuel (h2 : Nat → Nat → Option Nat) : ∀ (f g : Nat) (l : List Nat), l.length ≤ f → l.length ≤ g → pfF h2 f l = pfF h2 g l
  | 0, g, l, hf, _ => by
    obtain rfl : l = [] := List.eq_nil_of_length_eq_zero (by omega)
    cases g <;> simp [pfF]
  | f + 1, 0, l, _, hg => by
    obtain rfl : l = [] := List.eq_nil_of_length_eq_zero (by omega)
    simp [pfF]
  | f + 1, g + 1, l, hf, hg => by
    unfold pfF
    by_cases h : l = []
    · rw [if_pos h, if_pos h]
    · rw [if_neg h, if_neg h]
      cases hp : pword h2 l with
      | none => rfl
      | some p =>
        have := pword_len h hp
        simp only
        rw [pf_fuel h2 f g _ (by omega) (by omega)]
/-- The words that the program reads of a line. -/
def pf (h2 : Nat → Nat → Option Nat) (l : List Nat) : Option (List (List Nat)) := pfF h2 l.length l
theorem pf_nil (h2 : Nat → Nat → Option Nat) : pf h2 [] = some [] := rfl
theorem pf_step {h2 : Nat → Nat → Option Nat} {l : List Nat} (h : l ≠ []) : pf h2 l = match pword h2 l with
    | none => none
    | some p => (pf h2 (trmN (l.drop p.2))).map (p.1 :: ·) := by
  cases l with
  | nil => exact absurd rfl h
  | cons a t =>
    unfold pf
    show pfF h2 (t.length + 1) _ = _
    rw [pfF, if_neg h]
    cases hp : pword h2 (a :: t) with
    | none => rfl
    | some p =>
      have := pword_len h hp
      simp only
      rw [pf_fuel h2 t.length _ _ (by simp at this; omega) (Nat.le_refl _)]
theorem tail_shape (ls : List (List Nat)) : tailN ls = [] ∧ ls = [] ∨ (tailN ls = 32 :: lineN ls ∧ ls ≠ []) := by
  cases ls with
  | nil => left; exact ⟨rfl, rfl⟩
  | cons a r => right; exact ⟨by simp [tailN, lineN], by simp⟩
theorem wN_ne (a : List Nat) : wN a ≠ [] := by
  unfold wN
  split
  · rename_i h
    unfold plainN at h
    simp at h
    exact h.2
  · unfold qtN; simp
theorem take_sp : ∀ (a rest : List Nat), (∀ c ∈ a, c ≠ 32) → (rest = [] ∨ rest.getD 0 0 = 32) → spN (a ++ rest) = a.length
  | [], rest, _, h => by
    rcases h with rfl | h
    · rfl
    · cases rest with
      | nil => rfl
      | cons b t =>
        have : b = 32 := h
        subst this
        simp [spN]
  | c :: t, rest, h, h' => by
    have := take_sp t rest (fun x hx => h x (by simp [hx])) h'
    unfold spN at this ⊢
    rw [List.cons_append, List.takeWhile_cons_of_pos (by simpa using h c (by simp))]
    simp [this]
/-- What both readers take at the front of a line of words. -/
theorem word_front {h2 : Nat → Nat → Option Nat} (H : Hex2 h2) {a : List Nat} (ha : ∀ x ∈ a, x < 256) (r : List (List Nat)) :
    rword (wN a ++ tailN r) = (a, (wN a).length) ∧ pword h2 (wN a ++ tailN r) = some (a, (wN a).length) := by
  have ht : tailN r = [] ∨ (tailN r).getD 0 0 = 32 := by
    rcases tail_shape r with ⟨h, _⟩ | ⟨h, _⟩
    · exact .inl h
    · right; rw [h]; rfl
  unfold wN
  by_cases hp : plainN a
  · rw [if_pos hp]
    unfold plainN at hp
    rw [Bool.and_eq_true] at hp
    obtain ⟨hp1, hp2⟩ := hp
    have hne : a ≠ [] := by simpa using hp2
    have hc : ∀ c ∈ a, c ≠ 32 ∧ c ≠ 34 := fun c hc => by
      have := List.all_eq_true.1 hp1 c hc
      unfold okC at this
      simp at this
      omega
    have hsp := take_sp a (tailN r) (fun c h => (hc c h).1) ht
    have h0 : (a ++ tailN r).getD 0 0 ≠ 34 := by
      cases a with
      | nil => exact absurd rfl hne
      | cons b t => exact (hc b (by simp)).2
    constructor
    · unfold rword
      rw [if_pos (.inr h0), hsp, List.take_left]
    · unfold pword
      rw [if_neg h0, hsp, List.take_left]
  · rw [if_neg hp]
    have hq := rq_qt H ha (tailN r)
    have e : qtN a ++ tailN r = 34 :: ((shows 34 a).flatten ++ 34 :: tailN r) := by unfold qtN; simp
    rw [e]
    have el : (qtN a).length = (shows 34 a).flatten.length + 2 := by unfold qtN; simp
    rw [el]
    constructor
    · unfold rword
      rw [if_neg (by simp)]
      rw [List.drop_succ_cons, List.drop_zero, hq.1]
      simp
      omega
    · unfold pword
      rw [if_pos (show (34 :: ((shows 34 a).flatten ++ 34 :: tailN r)).getD 0 0 = 34 from rfl), List.drop_succ_cons, List.drop_zero, hq.2]
      rfl
theorem line_ne {ls : List (List Nat)} (h : ls ≠ []) : lineN ls ≠ [] := by
  cases ls with
  | nil => exact absurd rfl h
  | cons a r => unfold lineN; simp [wN_ne]
/-- What is told as a line is read as these words, by both. -/
theorem fields_line {h2 : Nat → Nat → Option Nat} (H : Hex2 h2) : ∀ ls : List (List Nat), (∀ a ∈ ls, ∀ x ∈ a, x < 256) → rf (lineN ls) = ls ∧ pf h2 (lineN ls) = some ls
  | [], _ => ⟨rfl, rfl⟩
  | a :: r, hl => by
    have hw := word_front H (hl a (by simp)) r
    have ih := fields_line H r fun b hb => hl b (by simp [hb])
    have hne : wN a ++ tailN r ≠ [] := by simp [wN_ne]
    unfold lineN
    rw [rf_step hne, pf_step hne, hw.1, hw.2]
    simp only
    have hd : (wN a ++ tailN r).drop (wN a).length = tailN r := List.drop_left
    have hd1 : (wN a ++ tailN r).drop ((wN a).length + 1) = (tailN r).drop 1 := by rw [← List.drop_drop, hd]
    rw [hd, hd1]
    rcases tail_shape r with ⟨h, rfl⟩ | ⟨h, h'⟩
    · rw [h]
      exact ⟨rfl, rfl⟩
    · rw [h]
      have e1 : (32 :: lineN r).drop 1 = lineN r := rfl
      have e2 : trmN (32 :: lineN r) = lineN r := rfl
      rw [e1, e2, ih.1, ih.2]
      exact ⟨rfl, rfl⟩
/-- What both answer: the words, if they are the line's; or none. -/
def fldN (l : List Nat) : Option (List (List Nat)) := if lineN (rf l) = l then some (rf l) else none
theorem rfF_lt : ∀ (f : Nat) (l : List Nat), (∀ x ∈ l, x < 256) → ∀ a ∈ rfF f l, ∀ x ∈ a, x < 256 := by
  intro f
  have hx : ∀ (f : Nat) (l : List Nat), (∀ x ∈ l, x < 256) → ∀ x ∈ (rqF f l).1, x < 256 := by
    intro f
    induction f with
    | zero => intro l _ x hx; simp [rqF] at hx
    | succ f ih =>
      intro l hl x hx
      unfold rqF at hx
      split at hx
      · cases hx
      rename_i hne
      rcases List.mem_append.1 hx with hx | hx
      · have hg : ∀ k, l.getD k 0 < 256 := fun k => by
          rw [List.getD_eq_getElem?_getD]
          cases h : l[k]? with
          | none => simp
          | some y => exact hl y (List.mem_of_getElem? h)
        unfold rst at hx
        split at hx
        · simp at hx; subst hx; exact hg 0
        split at hx
        · rename_i _ hh
          simp at hx
          subst hx
          have a1 : hxV (l.getD 2 0) ≤ 15 := by unfold hxV; repeat' split <;> omega
          have a2 : hxV (l.getD 3 0) ≤ 15 := by unfold hxV; repeat' split <;> omega
          simp only [List.getD_eq_getElem?_getD] at a1 a2 ⊢
          omega
        split at hx
        · simp at hx; subst hx; exact hg 1
        · cases hx
      · exact ih _ (drop_lt hl _) x hx
  induction f with
  | zero => intro l _ a ha; simp [rfF] at ha
  | succ f ih =>
    intro l hl a ha
    unfold rfF at ha
    split at ha
    · cases ha
    rcases List.mem_cons.1 ha with rfl | ha
    · intro x hxm
      unfold rword at hxm
      split at hxm
      · exact hl x (List.mem_of_mem_take hxm)
      · exact hx _ _ (drop_lt hl 1) x hxm
    · exact ih _ (drop_lt hl _) a ha
theorem rf_lt {l : List Nat} (hl : ∀ x ∈ l, x < 256) : ∀ a ∈ rf l, ∀ x ∈ a, x < 256 := rfF_lt _ l hl
theorem getD_lt {l : List Nat} (hl : ∀ x ∈ l, x < 256) (k : Nat) : l.getD k 0 < 256 := by
  rw [List.getD_eq_getElem?_getD]
  cases h : l[k]? with
  | none => simp
  | some y => exact hl y (List.mem_of_getElem? h)
theorem pqF_lt {h2 : Nat → Nat → Option Nat} (H : Hex2 h2) : ∀ (f : Nat) (l : List Nat) (r : List Nat × Nat), (∀ x ∈ l, x < 256) → pqF h2 f l = some r → ∀ x ∈ r.1, x < 256
  | 0, l, r, _, h => by cases h
  | f + 1, l, r, hl, h => by
    unfold pqF at h
    split at h
    · cases h
    split at h
    · injection h with h; subst h; simp
    cases hp : pst h2 l with
    | none => rw [hp] at h; cases h
    | some p =>
      rw [hp] at h
      simp only at h
      cases hq : pqF h2 f (l.drop p.2) with
      | none => rw [hq] at h; cases h
      | some r' =>
        rw [hq] at h
        injection h with h
        subst h
        intro x hx
        rcases List.mem_append.1 hx with hx | hx
        · unfold pst at hp
          split at hp
          · cases hh : h2 (l.getD 2 0) (l.getD 3 0) with
            | none => rw [hh] at hp; cases hp
            | some v =>
              rw [hh] at hp
              injection hp with hp
              subst hp
              have e : x = v := by simpa using hx
              subst e
              exact H.2 _ _ _ hh
          split at hp
          · injection hp with hp
            subst hp
            have e : x = l.getD 1 0 := by simpa using hx
            subst e
            exact getD_lt hl 1
          · injection hp with hp
            subst hp
            have e : x = l.getD 0 0 := by simpa using hx
            subst e
            exact getD_lt hl 0
        · exact pqF_lt H f _ _ (drop_lt hl _) hq x hx
theorem trm_lt {l : List Nat} (hl : ∀ x ∈ l, x < 256) : ∀ x ∈ trmN l, x < 256 := by
  unfold trmN
  split
  · exact drop_lt hl 1
  · exact hl
theorem pword_lt {h2 : Nat → Nat → Option Nat} (H : Hex2 h2) {l : List Nat} (hl : ∀ x ∈ l, x < 256) {p : List Nat × Nat} (h : pword h2 l = some p) : ∀ x ∈ p.1, x < 256 := by
  unfold pword at h
  split at h
  · cases hq : pq h2 (l.drop 1) with
    | none => rw [hq] at h; cases h
    | some r =>
      rw [hq] at h
      injection h with h
      subst h
      exact pqF_lt H _ _ r (drop_lt hl 1) hq
  · injection h with h
    subst h
    exact fun x hx => hl x (List.mem_of_mem_take hx)
theorem pfF_lt {h2 : Nat → Nat → Option Nat} (H : Hex2 h2) : ∀ (f : Nat) (l : List Nat) (ls : List (List Nat)), (∀ x ∈ l, x < 256) → pfF h2 f l = some ls → ∀ a ∈ ls, ∀ x ∈ a, x < 256
  | 0, l, ls, _, h => by
    unfold pfF at h
    split at h
    · injection h with h; subst h; simp
    · cases h
  | f + 1, l, ls, hl, h => by
    unfold pfF at h
    split at h
    · injection h with h; subst h; simp
    cases hp : pword h2 l with
    | none => rw [hp] at h; cases h
    | some p =>
      rw [hp] at h
      simp only at h
      cases hq : pfF h2 f (trmN (l.drop p.2)) with
      | none => rw [hq] at h; cases h
      | some r =>
        rw [hq] at h
        injection h with h
        subst h
        intro a ha
        rcases List.mem_cons.1 ha with rfl | ha
        · exact pword_lt H hl hp
        · exact pfF_lt H f _ _ (trm_lt (drop_lt hl _)) hq a ha
/-- The program's answer is the document's. -/
theorem fld_pf {h2 : Nat → Nat → Option Nat} (H : Hex2 h2) {l : List Nat} (hl : ∀ x ∈ l, x < 256) :
    fldN l = match pf h2 l with
      | none => none
      | some ls => if lineN ls = l then some ls else none := by
  unfold fldN
  by_cases h : lineN (rf l) = l
  · rw [if_pos h]
    have := (fields_line H (rf l) (rf_lt hl)).2
    rw [h] at this
    rw [this]
    simp [h]
  · rw [if_neg h]
    cases hp : pf h2 l with
    | none => rfl
    | some ls =>
      simp only
      rw [if_neg]
      intro e
      have h1 := (fields_line H ls (pfF_lt H _ _ _ hl hp)).1
      rw [e] at h1
      rw [h1] at h
      exact h e
end Go.Proofs.YtfipljhlponcoaaDoor
