/- Ranges: what the document says of cells, windows, maps: plain law. -/
import Derived.Test.YtndocngkganpdaaLaw
set_option linter.unusedVariables false
namespace Go.Proofs.Ytndocngkganpdaa
/-! Cells, windows, maps, by definition. No program in sight. -/
/-- A text's bytes. -/
def nl (s : ByteArray) : List Nat := s.data.toList.map UInt8.toNat
theorem nl_len (s : ByteArray) : (nl s).length = s.size := by unfold nl; rw [List.length_map]; rfl
theorem nl_lt (s : ByteArray) : ∀ x ∈ nl s, x < 256 := by
  intro x hx
  unfold nl at hx
  obtain ⟨c, _, rfl⟩ := List.mem_map.1 hx
  exact c.toNat_lt
theorem nl_extract (s : ByteArray) (i j : Nat) : nl (s.extract i j) = ((nl s).drop i).take (j - i) := by
  unfold nl
  rw [← List.map_drop, ← List.map_take]
  congr 1
  simp [ByteArray.data_extract, Array.toList_extract, List.extract]
theorem nl_at (s : ByteArray) (k : Nat) (h : k < s.size) : (nl s)[k]'(by rw [nl_len]; exact h) = s[k].toNat := by unfold nl; rw [List.getElem_map]; rfl
/-- What bytes are, the highest first. -/
def num (l : List Nat) : Nat := l.foldl (fun n b => 256 * n + b) 0
theorem num_snoc (l : List Nat) (b : Nat) : num (l ++ [b]) = 256 * num l + b := by unfold num; simp
theorem fold_lt : ∀ (l : List Nat) (n k : Nat), (∀ b ∈ l, b < 256) → n < 256 ^ k → l.foldl (fun n b => 256 * n + b) n < 256 ^ (k + l.length)
  | [], n, k, _, h => h
  | b :: t, n, k, hl, h => by
    have hb := hl b (by simp)
    have h1 : 256 * n + b < 256 ^ (k + 1) := by rw [Nat.pow_succ]; omega
    have := fold_lt t (256 * n + b) (k + 1) (fun x hx => hl x (by simp [hx])) h1
    rw [List.foldl_cons, List.length_cons, show k + (t.length + 1) = k + 1 + t.length from by omega]
    exact this
theorem num_lt {l : List Nat} (h : ∀ b ∈ l, b < 256) : num l < 256 ^ l.length := by
  have := fold_lt l 0 0 h (by simp)
  rwa [Nat.zero_add] at this
theorem num_take (l : List Nat) {k : Nat} (h : k < l.length) : num (l.take (k + 1)) = 256 * num (l.take k) + l[k] := by
  rw [List.take_succ_eq_append_getElem h, num_snoc]
theorem take_lt {l : List Nat} (h : ∀ b ∈ l, b < 256) (n : Nat) : ∀ b ∈ l.take n, b < 256 := fun b hb => h b (List.mem_of_mem_take hb)
theorem drop_lt {l : List Nat} (h : ∀ b ∈ l, b < 256) (n : Nat) : ∀ b ∈ l.drop n, b < 256 := fun b hb => h b (List.mem_of_mem_drop hb)
/-- At most eight bytes are a number of 64 bits. -/
theorem num_u64 {l : List Nat} (h : ∀ b ∈ l, b < 256) (hl : l.length ≤ 8) : num l < 18446744073709551616 := by
  have h1 := num_lt h
  have h2 : 256 ^ l.length ≤ 256 ^ 8 := Nat.pow_le_pow_right (by omega) hl
  have h3 : 256 ^ 8 = 18446744073709551616 := by decide
  omega
theorem num_u32 {l : List Nat} (h : ∀ b ∈ l, b < 256) (hl : l.length ≤ 4) : num l < 4294967296 := by
  have h1 := num_lt h
  have h2 : 256 ^ l.length ≤ 256 ^ 4 := Nat.pow_le_pow_right (by omega) hl
  have h3 : 256 ^ 4 = 4294967296 := by decide
  omega
/-- A node's prop. -/
def valF (ps : List Pr) (k : ByteArray) : Option ByteArray := (ps.find? fun y => decide (y.n = k)).map Pr.v
def kA : ByteArray := ⟨#[35, 97, 100, 100, 114, 101, 115, 115, 45, 99, 101, 108, 108, 115]⟩
def kS : ByteArray := ⟨#[35, 115, 105, 122, 101, 45, 99, 101, 108, 108, 115]⟩
def kReg : ByteArray := ⟨#[114, 101, 103]⟩
def kRng : ByteArray := ⟨#[114, 97, 110, 103, 101, 115]⟩
/-- What a prop of one cell says. -/
def oneF (ps : List Pr) (k : ByteArray) (df least : Nat) : Option Nat := match valF ps k with
  | none => some df
  | some v => if v.size = 4 ∧ num (nl v) ≤ 2 ∧ least ≤ num (nl v) then some (num (nl v)) else none
def cellsF (ps : List Pr) : Option (Nat × Nat) := match oneF ps kA 2 1, oneF ps kS 1 0 with
  | some a, some b => some (a, b)
  | _, _ => none
theorem one_bd {ps : List Pr} {k : ByteArray} {df least n : Nat} (h : oneF ps k df least = some n) (h1 : least ≤ df) (h2 : df ≤ 2) : least ≤ n ∧ n ≤ 2 := by
  unfold oneF at h
  split at h
  · injection h with h; omega
  · split at h
    · injection h with h; subst h; rename_i hh; omega
    · cases h
theorem cells_bd {ps : List Pr} {a b : Nat} (h : cellsF ps = some (a, b)) : 1 ≤ a ∧ a ≤ 2 ∧ b ≤ 2 := by
  unfold cellsF at h
  cases h1 : oneF ps kA 2 1 with
  | none => rw [h1] at h; cases h
  | some x =>
    cases h2 : oneF ps kS 1 0 with
    | none => rw [h1, h2] at h; cases h
    | some y =>
      rw [h1, h2] at h
      injection h with h
      injection h with ha hb
      subst ha
      subst hb
      have := one_bd h1 (by omega) (by omega)
      have := one_bd h2 (by omega) (by omega)
      omega
/-- Are two numbers together at most 2^64? -/
def fitsB (a b : Nat) : Bool := b == 0 || decide (a + b ≤ 18446744073709551616)
/-- The numbers at a value's front, each of so many cells. -/
def rowF : List Nat → List Nat → List Nat
  | [], _ => []
  | w :: r, l => num (l.take (4 * w)) :: rowF r (l.drop (4 * w))
/-- A row's bytes. -/
def wide (ws : List Nat) : Nat := 4 * ws.sum
def rowsG (ws : List Nat) : Nat → List Nat → List (List Nat)
  | 0, _ => []
  | f + 1, l => if l = [] then [] else rowF ws l :: rowsG ws f (l.drop (wide ws))
/-- The rows of a value. -/
def rowsF (ws : List Nat) (l : List Nat) : List (List Nat) := rowsG ws l.length l
theorem rowsG_fuel (ws : List Nat) (hw : 0 < wide ws) : ∀ (f g : Nat) (l : List Nat), l.length ≤ f → l.length ≤ g → rowsG ws f l = rowsG ws g l
  | 0, g, l, hf, _ => by
    obtain rfl : l = [] := List.eq_nil_of_length_eq_zero (by omega)
    cases g <;> simp [rowsG]
  | f + 1, 0, l, _, hg => by
    obtain rfl : l = [] := List.eq_nil_of_length_eq_zero (by omega)
    simp [rowsG]
  | f + 1, g + 1, l, hf, hg => by
    unfold rowsG
    by_cases h : l = []
    · rw [if_pos h, if_pos h]
    · rw [if_neg h, if_neg h, rowsG_fuel ws hw f g _ (by rw [List.length_drop]; omega) (by rw [List.length_drop]; omega)]
theorem rows_nil (ws : List Nat) : rowsF ws [] = [] := rfl
theorem rows_step {ws l : List Nat} (hw : 0 < wide ws) (h : l ≠ []) : rowsF ws l = rowF ws l :: rowsF ws (l.drop (wide ws)) := by
  cases l with
  | nil => exact absurd rfl h
  | cons a t =>
    unfold rowsF
    show rowsG ws (t.length + 1) _ = _
    rw [rowsG, if_neg h, rowsG_fuel ws hw t.length _ _ (by rw [List.length_drop]; simp; omega) (Nat.le_refl _)]
theorem rowF_len : ∀ (ws l : List Nat), (rowF ws l).length = ws.length
  | [], _ => rfl
  | w :: r, l => by simp [rowF, rowF_len r]
/-- A node's windows; none: not of the form. -/
def winsF (a b : Nat) (l : List Nat) : Option (List (Nat × Nat)) :=
  if l.length % (4 * (a + b)) ≠ 0 then none
  else if (rowsF [a, b] l).all fun r => fitsB (r.getD 0 0) (r.getD 1 0) then some ((rowsF [a, b] l).map fun r => (r.getD 0 0, r.getD 1 0)) else none
def psAt (l : List Nd) (i : Nat) : List Pr := match l[i]? with
  | none => []
  | some x => x.ps
def parN (l : List Nd) (i : Nat) : Nat := (parAt l i).toNat
def regF (l : List Nd) (i : Nat) : Option (List (Nat × Nat)) := match cellsF (psAt l (parN l i)) with
  | none => none
  | some (a, b) => winsF a b (nl ((valF (psAt l i) kReg).getD ByteArray.empty))
/-- A bus's maps. -/
structure Mp where
  k : Nat
  a : Nat
  s : Nat
def mpOf (r : List Nat) : Mp := ⟨r.getD 0 0, r.getD 1 0, r.getD 2 0⟩
def mpFits (m : Mp) : Bool := fitsB m.k m.s && fitsB m.a m.s
/-- The maps, are the addresses those above, what is wrong. -/
def mapsF (l : List Nd) (i : Nat) : List Mp × Bool × Int := match valF (psAt l i) kRng with
  | none => ([], false, 6)
  | some v => match cellsF (psAt l i), cellsF (psAt l (parN l i)) with
    | some (a, b), some (c, _) =>
      if v.size % (4 * (a + c + b)) ≠ 0 then ([], false, 4)
      else if ((rowsF [a, c, b] (nl v)).map mpOf).all mpFits then ((rowsF [a, c, b] (nl v)).map mpOf, decide (v.size = 0), 0) else ([], false, 4)
    | _, _ => ([], false, 4)
/-- Does a window lie within so many bytes from an address on? -/
def withinB (b s frm size : Nat) : Bool := decide (frm ≤ b) && decide (b - frm < size) && decide (s ≤ size - (b - frm))
def upM (m : List Mp × Bool × Int) (b s : Nat) : Nat × Int :=
  if m.2.2 ≠ 0 then (0, m.2.2) else if m.2.1 then (b, 0) else match m.1.find? fun x => withinB b s x.k x.s with
    | some x => (x.a + (b - x.k), 0)
    | none => (0, 150)
def downM (m : List Mp × Bool × Int) (b : Nat) : Nat × Int :=
  if m.2.2 ≠ 0 then (0, m.2.2) else if m.2.1 then (b, 0) else match m.1.find? fun x => withinB b 1 x.a x.s with
    | some x => (x.k + (b - x.a), 0)
    | none => (0, 150)
def upF (l : List Nd) (i b s : Nat) : Nat × Int := upM (mapsF l i) b s
/-- A window carried out, through these buses. -/
def outL (l : List Nd) : List Nat → Nat → Nat → Nat × Int
  | [], b, _ => (b, 0)
  | i :: r, b, s => if (upF l i b s).2 ≠ 0 then (0, (upF l i b s).2) else outL l r (upF l i b s).1 s
/-- The buses from a node up to the root, which is left out. -/
def wayG (l : List Nd) : Nat → Nat → List Nat
  | 0, _ => []
  | f + 1, i => if i = 0 then [] else i :: wayG l f (parN l i)
def wayF (l : List Nd) (i : Nat) : List Nat := wayG l i i
def outF (l : List Nd) (i b s : Nat) : Nat × Int := outL l (wayF l i) b s
def downL (l : List Nd) : List Nat → Nat → Nat × Int
  | [], b => (b, 0)
  | i :: r, b => if (downM (mapsF l i) b).2 ≠ 0 then (0, (downM (mapsF l i) b).2) else downL l r (downM (mapsF l i) b).1
def downF (l : List Nd) (i b : Nat) : Nat × Int := downL l (wayF l i).reverse b
/-- Windows carried out of a place: the first that is not ends it. -/
def outsF (l : List Nd) (i : Nat) : List (Nat × Nat) → List (Nat × Nat) × Int
  | [] => ([], 0)
  | w :: r => if (outF l i w.1 w.2).2 ≠ 0 then ([], (outF l i w.1 w.2).2) else if (outsF l i r).2 ≠ 0 then ([], (outsF l i r).2) else (((outF l i w.1 w.2).1, w.2) :: (outsF l i r).1, 0)
def windowsF (l : List Nd) (i : Nat) : List (Nat × Nat) × Int := match regF l i with
  | none => ([], 4)
  | some ws => outsF l (parN l i) ws
/-- Who has an address: the best of those before, its size. -/
def ownS (at_ i : Nat) (p : Nat × Nat) (w : Nat × Nat) : Nat × Nat := if withinB at_ 1 w.1 w.2 && (p.1 == 0 || decide (w.2 < p.2)) then (i, w.2) else p
def ownP (l : List Nd) (at_ : Nat) (p : Nat × Nat) (i : Nat) : Nat × Nat := if (windowsF l i).2 ≠ 0 then p else (windowsF l i).1.foldl (ownS at_ i) p
def ownerB (l : List Nd) (at_ : Nat) : Nat × Nat := ((List.range l.length).drop 1).foldl (ownP l at_) (0, 0)
def treeB (l : List Nd) : Bool := (checkF l).2 == 0
/-- What is wrong with a list and a place in it. -/
def wrongF (l : List Nd) (i : Int) (least : Int) : Int := if treeB l then (if i < least ∨ (l.length : Int) ≤ i then 1 else 0) else 40
end Go.Proofs.Ytndocngkganpdaa
