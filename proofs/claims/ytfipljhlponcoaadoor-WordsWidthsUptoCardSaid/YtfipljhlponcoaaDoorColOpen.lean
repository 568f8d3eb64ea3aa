/- Arguments that came in, told as data, and their bulk. -/
import Derived.Test.YtfipljhlponcoaaDoorColM
import Derived.Test.YtfipljhlponcoaaDoorRows
import Derived.Deep.Slices
import Derived.Deep.Fields
import Derived.ChangeSame
import Derived.ProofKit
import Derived.SizedLaws
set_option linter.unusedVariables false
namespace Go.Proofs.YtfipljhlponcoaaDoor
open Go.ChangeShapes Go.WideShapes Go.Deep Go.RowKit
theorem flat_length {α : Type} (f : α → List Value) (m : Nat) (hf : ∀ x, (f x).length = m) : ∀ l : List α, (l.flatMap f).length = l.length * m
  | [] => by simp
  | x :: l => by simp [flat_length f m hf l, hf x, Nat.add_mul]; omega
theorem flat_get {α : Type} (f : α → List Value) (m : Nat) (hf : ∀ x, (f x).length = m) : ∀ (l : List α) (k j : Nat) (hk : k < l.length), j < m → (l.flatMap f)[k * m + j]? = (f l[k])[j]?
  | x :: l, 0, j, _, hj => by
    rw [List.flatMap_cons, List.getElem?_append_left (by rw [hf]; omega)]
    simp
  | x :: l, k + 1, j, hk, hj => by
    have ih := flat_get f m hf l k j (by simpa using hk) hj
    rw [List.flatMap_cons, List.getElem?_append_right (by rw [hf, Nat.add_mul]; omega), hf, Nat.add_mul]
    rw [show k * m + 1 * m + j - m = k * m + j from by omega, ih]
    rfl
theorem list_of {α : Type} (Q : Nat → α → Prop) : ∀ n : Nat, (∀ i, i < n → ∃ c, Q i c) → ∃ l : List α, l.length = n ∧ ∀ i (h : i < l.length), Q i l[i]
  | 0, _ => ⟨[], rfl, fun i h => absurd h (Nat.not_lt_zero i)⟩
  | n + 1, h => by
    obtain ⟨l, hl, hq⟩ := list_of Q n (fun i hi => h i (by omega))
    obtain ⟨c, hc⟩ := h n (by omega)
    refine ⟨l ++ [c], by simp [hl], fun i hi => ?_⟩
    rcases (show i < l.length ∨ i = l.length by simp at hi; omega) with hi2 | rfl
    · rw [List.getElem_append_left hi2]; exact hq i hi2
    · simp only [List.getElem_append_right (Nat.le_refl _), Nat.sub_self, List.getElem_cons_zero]
      rw [hl]; exact hc
/-- Things of m cells each, one behind the other. -/
theorem seg_of_things {α : Type} {f : α → List Value} {m : Nat} (hf : ∀ x, (f x).length = m) (hm : 0 < m) {w : World} {a : Addr} (l : List α)
    (h : ∀ i (hi : i < l.length), ∀ j u, (f l[i])[j]? = some u → w.cell? (a.add (i * m + j)) = some u) : Seg w w.heap.size (some a) (l.flatMap f) := by
  intro hne
  have h0 : 0 < l.length := by
    rcases l with _ | ⟨x, l⟩
    · exact absurd rfl hne
    · simp
  have hx : 0 < (f l[0]).length := by rw [hf]; exact hm
  have hc0 := h 0 h0 0 _ (List.getElem?_eq_getElem hx)
  obtain ⟨b, off, spot⟩ := a
  have hspot : spot = none := by simpa [Addr.add] using World.cell?_spot hc0
  subst hspot
  refine ⟨b, off, rfl, ?_, fun j u hu => ?_⟩
  · have := World.block_lt_of_cell? w _ hc0
    simpa [Addr.add] using this
  · have hlt := (List.getElem?_eq_some_iff.1 hu).1
    rw [flat_length f m hf] at hlt
    have hk : j / m < l.length := (Nat.div_lt_iff_lt_mul hm).2 hlt
    have hj : j % m < m := Nat.mod_lt _ hm
    have e : j = j / m * m + j % m := by have := Nat.div_add_mod j m; rw [Nat.mul_comm] at this; omega
    rw [e, flat_get f m hf l _ _ hk hj] at hu
    have := h _ hk _ u hu
    rw [addr_add, ← e] at this
    exact this
theorem bulk_one {H : Type} (d : DataW H) : 1 ≤ Rows.uptoBulk d := by
  cases d with
  | lit l => cases l <;> simp [Rows.uptoBulk]
  | nil => simp [Rows.uptoBulk]
  | ptr d => simp [Rows.uptoBulk]
  | slice elems spare => simp [Rows.uptoBulk]
  | agg parts => simp [Rows.uptoBulk]
  | iface t d => simp [Rows.uptoBulk]
  | map entries => simp [Rows.uptoBulk]
  | held h => simp [Rows.uptoBulk]
theorem bulk_part {H : Type} {d : DataW H} {l : List (DataW H)} (h : d ∈ l) : Rows.uptoBulk d ≤ Rows.uptoBulkAll l := by
  induction l with
  | nil => cases h
  | cons x r ih =>
    simp only [Rows.uptoBulkAll]
    cases List.mem_cons.1 h with
    | inl e => subst e; omega
    | inr e => have := ih e; omega
theorem bulk_len {H : Type} (l : List (DataW H)) : l.length ≤ Rows.uptoBulkAll l := by
  induction l with
  | nil => simp [Rows.uptoBulkAll]
  | cons x r ih => have := bulk_one x; simp only [Rows.uptoBulkAll, List.length_cons]; omega
theorem Tryd.cells9 : Tryd.prog.cellsOf 9 = 1 := by kernel_rfl
theorem Tryd.cells33 : Tryd.prog.cellsOf 33 = 1 := by kernel_rfl
theorem sV_flat : ∀ l : List ByteArray, l.flatMap (fun t : ByteArray => [Value.string t]) = sV l
  | [] => rfl
  | x :: l => by rw [List.flatMap_cons, sV_flat l]; rfl
theorem tx_flat : ∀ l : List Tx, l.flatMap (fun x : Tx => [x.val]) = txCells l
  | [] => rfl
  | x :: l => by rw [List.flatMap_cons, tx_flat l]; rfl
set_option maxRecDepth 100000 in
/-- A list of texts that came in, and its bulk. -/
theorem open_strsB {H : Type} {enc : TypeId × Value → H} {W : World} {fuel : Nat} {v : Value} {d : DataW H} {p : List MemPlace}
    (h : DataW.trod enc Tryd.prog W 0 (fun _ => true) true fuel 33 [v] = some (d, p)) :
    ∃ (A : Option Addr) (c : Nat) (ts : List ByteArray), v = .slice A ts.length c ∧ Seg W W.heap.size A (sV ts) ∧ ts.length + 1 ≤ Rows.uptoBulk d ∧ ∀ t ∈ ts, t.size + 2 ≤ Rows.uptoBulk d := by
  rcases open_slice Tryd.underlying33 h with ⟨hcs, hx⟩ | ⟨x, len', cap', m, n, D, Pl, hcs, _, hl, hmx, hm, hx, hi⟩
  · injection hcs with hcs
    subst hcs
    simp only [Prod.mk.injEq] at hx
    obtain ⟨rfl, _⟩ := hx
    exact ⟨none, 0, [], rfl, Seg.nil, by simp [Rows.uptoBulk], by simp⟩
  · injection hcs with hcs
    subst hcs
    simp only [Prod.mk.injEq] at hx
    obtain ⟨rfl, _⟩ := hx
    have hone : ∀ i, i < len' → ∃ t : ByteArray, D i = .lit (.string t.data.toList) ∧ W.cell? (x.add i) = some (.string t) := by
      intro i hin
      obtain ⟨cs', hc, ht'⟩ := hi i (by simp only [if_true] at hm; omega)
      rw [Tryd.cells9] at hc
      obtain ⟨_, hcl, hat⟩ := World.cells?_some hc
      have hv : cs'[0]? = some (cs'[0]'(by omega)) := List.getElem?_eq_getElem (by omega)
      have hcs1 : cs' = [cs'[0]'(by omega)] := List.ext_getElem (by simp; omega) (fun i h1 h2 => by simp at h2; subst h2; rfl)
      rw [hcs1] at ht'
      obtain ⟨s0, e0, x0, _⟩ := DataW.trod_string Tryd.underlying9 ht'
      simp at e0
      refine ⟨s0, congrArg Prod.fst x0, ?_⟩
      have := hat 0 (by omega)
      rw [Nat.mul_one] at this
      rw [show (x.add i).add 0 = x.add i from by rw [Go.Deep.add_add, Nat.add_zero]] at this
      rw [this, hv, e0]
    obtain ⟨l, hll, hq⟩ := list_of _ len' hone
    have hb1 := bulk_len ((List.range len').map D)
    rw [List.length_map, List.length_range] at hb1
    refine ⟨some x, cap', l, by rw [hll], ?_, ?_, fun c hc => ?_⟩
    · have := seg_of_things (w := W) (a := x) (f := fun t : ByteArray => [Value.string t]) (m := 1) (fun _ => rfl) (by omega) l (fun i hi j u hu => by
        have hj : j < 1 := (List.getElem?_eq_some_iff.1 hu).1
        obtain rfl : j = 0 := by omega
        simp at hu
        subst hu
        rw [Nat.mul_one, Nat.add_zero]
        exact (hq i hi).2)
      have e := sV_flat l
      rw [e] at this
      exact this
    · simp only [Rows.uptoBulk]; omega
    · obtain ⟨i, hi, rfl⟩ := List.mem_iff_getElem.1 hc
      have h1 := bulk_part (H := H) (d := D i) (l := (List.range len').map D) (List.mem_map.2 ⟨i, List.mem_range.2 (by omega), rfl⟩)
      rw [(hq i hi).1] at h1
      simp only [Rows.uptoBulk] at h1 ⊢
      have e : l[i].data.toList.length = l[i].size := by rw [Array.length_toList]; rfl
      omega
set_option maxRecDepth 100000 in
/-- Rows of texts that came in, and their bulk. -/
theorem open_rowsB {H : Type} {enc : TypeId × Value → H} {W : World} {B0 : Nat} {v : Value} {d : DataW H} {p : List MemPlace}
    (hv : Value.okWide Tryd.prog W .any B0 30 v) (h : DataW.Trod enc Tryd.prog W 0 (fun _ => true) true 30 v d p) :
    ∃ (a : Option Addr) (len cap : Nat) (l : List Tx), v = .slice a len cap ∧ len = l.length ∧ Rowz W W.heap.size a l ∧ len + 1 ≤ Rows.uptoBulk d ∧ ∀ x ∈ l, x.ts.length + 2 ≤ Rows.uptoBulk d ∧ ∀ t ∈ x.ts, t.size + 3 ≤ Rows.uptoBulk d := by
  obtain ⟨a, len, cap, rfl⟩ := okWide_slice Tryd.underlying30 hv
  obtain ⟨fuel, hf⟩ := h
  rcases open_slice Tryd.underlying30 hf with ⟨hcs, hx⟩ | ⟨x, len', cap', m, n, D, Pl, hcs, _, hl, hmx, hm, hx, hi⟩
  · simp [Value.cells] at hcs
    obtain ⟨rfl, rfl, rfl⟩ := hcs
    simp only [Prod.mk.injEq] at hx
    obtain ⟨rfl, _⟩ := hx
    exact ⟨none, 0, 0, [], rfl, rfl, ⟨Seg.nil, by simp⟩, by simp [Rows.uptoBulk], by simp⟩
  · simp [Value.cells] at hcs
    obtain ⟨rfl, rfl, rfl⟩ := hcs
    simp only [Prod.mk.injEq] at hx
    obtain ⟨rfl, _⟩ := hx
    have hone : ∀ i, i < len → ∃ c : Tx, (Seg W W.heap.size c.A (sV c.ts) ∧ c.ts.length + 1 ≤ Rows.uptoBulk (D i) ∧ ∀ t ∈ c.ts, t.size + 2 ≤ Rows.uptoBulk (D i)) ∧ W.cell? (x.add i) = some c.val := by
      intro i hin
      obtain ⟨cs', hc, ht'⟩ := hi i (by simp only [if_true] at hm; omega)
      rw [Tryd.cells33] at hc
      obtain ⟨_, hcl, hat⟩ := World.cells?_some hc
      have hv : cs'[0]? = some (cs'[0]'(by omega)) := List.getElem?_eq_getElem (by omega)
      have hcs1 : cs' = [cs'[0]'(by omega)] := List.ext_getElem (by simp; omega) (fun i h1 h2 => by simp at h2; subst h2; rfl)
      rw [hcs1] at ht'
      obtain ⟨A, cc, ts, e0, hs, hb, hy⟩ := open_strsB (d := (D i)) (p := Pl i) ht'
      refine ⟨⟨A, cc, ts⟩, ⟨hs, hb, hy⟩, ?_⟩
      have := hat 0 (by omega)
      rw [Nat.mul_one] at this
      rw [show (x.add i).add 0 = x.add i from by rw [Go.Deep.add_add, Nat.add_zero]] at this
      rw [this, hv, e0]
      rfl
    obtain ⟨l, hll, hq⟩ := list_of _ len hone
    have hb1 := bulk_len ((List.range len).map D)
    rw [List.length_map, List.length_range] at hb1
    refine ⟨some x, len, cap, l, rfl, hll.symm, ⟨?_, fun c hc => ?_⟩, ?_, fun c hc => ?_⟩
    · have := seg_of_things (w := W) (a := x) (f := fun t : Tx => [t.val]) (m := 1) (fun _ => rfl) (by omega) l (fun i hi j u hu => by
        have hj : j < 1 := (List.getElem?_eq_some_iff.1 hu).1
        obtain rfl : j = 0 := by omega
        simp at hu
        subst hu
        rw [Nat.mul_one, Nat.add_zero]
        exact (hq i hi).2)
      have e := tx_flat l
      rw [e] at this
      exact this
    · obtain ⟨i, hi, rfl⟩ := List.mem_iff_getElem.1 hc
      exact (hq i hi).1.1
    · simp only [Rows.uptoBulk]; omega
    · obtain ⟨i, hi, rfl⟩ := List.mem_iff_getElem.1 hc
      have h1 := bulk_part (H := H) (d := D i) (l := (List.range len).map D) (List.mem_map.2 ⟨i, List.mem_range.2 (by omega), rfl⟩)
      obtain ⟨_, h2, h3⟩ := (hq i hi).1
      refine ⟨by simp only [Rows.uptoBulk]; omega, fun t ht => ?_⟩
      have := h3 t ht
      simp only [Rows.uptoBulk]
      omega
set_option maxRecDepth 100000 in
/-- Numbers that came in, and their bulk. -/
theorem open_intsB {H : Type} {enc : TypeId × Value → H} {W : World} {B0 : Nat} {v : Value} {d : DataW H} {p : List MemPlace}
    (hv : Value.okWide Tryd.prog W .any B0 31 v) (h : DataW.Trod enc Tryd.prog W 0 (fun _ => true) true 31 v d p) :
    ∃ (a : Option Addr) (len cap : Nat) (ws : List Int), v = .slice a len cap ∧ len = ws.length ∧ Seg W W.heap.size a (ints ws) ∧ len + 1 ≤ Rows.uptoBulk d := by
  obtain ⟨a, len, cap, rfl⟩ := okWide_slice Tryd.underlying31 hv
  obtain ⟨fuel, hf⟩ := h
  rcases open_ints Tryd.underlying31 Tryd.underlying3 (by kernel_rfl) hf with ⟨hcs, hx⟩ | ⟨x, l, c, zs, hcs, _, hl, hm, hz, hx, hcell, hwz⟩
  · simp [Value.cells] at hcs
    obtain ⟨rfl, rfl, rfl⟩ := hcs
    simp only [Prod.mk.injEq] at hx
    obtain ⟨rfl, rfl⟩ := hx
    exact ⟨none, 0, 0, [], rfl, rfl, Seg.nil, by simp [Rows.uptoBulk]⟩
  · simp [Value.cells] at hcs
    obtain ⟨rfl, rfl, rfl⟩ := hcs
    simp only [Prod.mk.injEq] at hx
    obtain ⟨rfl, rfl⟩ := hx
    have hR : IsRow .i64 W (some x) len cap zs := .inr ⟨_, rfl, hl, hm, by simpa using hz, hcell, hwz⟩
    obtain ⟨h2, h3, _⟩ := hR.seg
    refine ⟨some x, len, cap, zs.take len, rfl, h3.symm, h2, ?_⟩
    have hb := bulk_len (H := H) (lits .i64 (zs.take len))
    have e : (lits (H := H) .i64 (zs.take len)).length = len := by simp only [lits, List.length_map]; exact h3
    simp only [Rows.uptoBulk]
    omega
theorem own : ownKnob Tryd.prog.godebug = none := by kernel_rfl
theorem laidOut : laidOutB Tryd.prog = true := by kernel_rfl
end Go.Proofs.YtfipljhlponcoaaDoor
