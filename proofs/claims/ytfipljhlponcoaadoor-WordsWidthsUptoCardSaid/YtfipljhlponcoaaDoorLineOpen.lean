/- A list of texts that came in, and its whole bulk. -/
import Derived.Test.YtfipljhlponcoaaDoorColOpen
set_option linter.unusedVariables false
namespace Go.Proofs.YtfipljhlponcoaaDoor
open Go.ChangeShapes Go.WideShapes Go.Deep Go.RowKit
theorem bulk_strs {H : Type} : ∀ l : List ByteArray, Rows.uptoBulkAll (l.map fun t => (DataW.lit (.string t.data.toList) : DataW H)) = (l.map nl).flatten.length + l.length
  | [] => rfl
  | t :: l => by
    have ih := bulk_strs (H := H) l
    simp only [List.map_cons, Rows.uptoBulkAll, Rows.uptoBulk, List.flatten_cons, List.length_append, List.length_cons, nl_len]
    have e : t.data.toList.length = t.size := by rw [Array.length_toList]; rfl
    omega
set_option maxRecDepth 100000 in
theorem open_strsT {H : Type} {enc : TypeId × Value → H} {W : World} {B0 : Nat} {v : Value} {d : DataW H} {p : List MemPlace}
    (hv : Value.okWide Tryd.prog W .any B0 33 v) (h : DataW.Trod enc Tryd.prog W 0 (fun _ => true) true 33 v d p) :
    ∃ (A : Option Addr) (len c : Nat) (ts : List ByteArray), v = .slice A len c ∧ len = ts.length ∧ Seg W W.heap.size A (sV ts) ∧ (ts.map nl).flatten.length + ts.length + 1 ≤ Rows.uptoBulk d := by
  obtain ⟨a, len, cap, rfl⟩ := okWide_slice Tryd.underlying33 hv
  obtain ⟨fuel, hf⟩ := h
  rcases open_slice Tryd.underlying33 hf with ⟨hcs, hx⟩ | ⟨x, len', cap', m, n, D, Pl, hcs, _, hl, hmx, hm, hx, hi⟩
  · simp [Value.cells] at hcs
    obtain ⟨rfl, rfl, rfl⟩ := hcs
    simp only [Prod.mk.injEq] at hx
    obtain ⟨rfl, _⟩ := hx
    exact ⟨none, 0, 0, [], rfl, rfl, Seg.nil, by simp [Rows.uptoBulk]⟩
  · simp [Value.cells] at hcs
    obtain ⟨rfl, rfl, rfl⟩ := hcs
    simp only [Prod.mk.injEq] at hx
    obtain ⟨rfl, _⟩ := hx
    have hone : ∀ i, i < len → ∃ t : ByteArray, D i = .lit (.string t.data.toList) ∧ W.cell? (x.add i) = some (.string t) := by
      intro i hin
      obtain ⟨cs', hc, ht'⟩ := hi i (by simp only [if_true] at hm; omega)
      rw [Tryd.cells9] at hc
      obtain ⟨_, hcl, hat⟩ := World.cells?_some hc
      have hv : cs'[0]? = some (cs'[0]'(by omega)) := List.getElem?_eq_getElem (by omega)
      have hcs1 : cs' = [cs'[0]'(by omega)] := List.ext_getElem (by simp; omega) (fun i h1 h2 => by simp at h2; subst h2; rfl)
      rw [hcs1] at ht'
      obtain ⟨s0, e0, x0, _⟩ := DataW.trod_string Tryd.underlying9 ht'
      simp at e0
      refine ⟨s0, congrArg Prod.fst x0, ?_⟩
      have := hat 0 (by omega)
      rw [Nat.mul_one] at this
      rw [show (x.add i).add 0 = x.add i from by rw [Go.Deep.add_add, Nat.add_zero]] at this
      rw [this, hv, e0]
    obtain ⟨l, hll, hq⟩ := list_of _ len hone
    refine ⟨some x, len, cap, l, rfl, hll.symm, ?_, ?_⟩
    · have := seg_of_things (w := W) (a := x) (f := fun t : ByteArray => [Value.string t]) (m := 1) (fun _ => rfl) (by omega) l (fun i hi j u hu => by
        have hj : j < 1 := (List.getElem?_eq_some_iff.1 hu).1
        obtain rfl : j = 0 := by omega
        simp at hu
        subst hu
        rw [Nat.mul_one, Nat.add_zero]
        exact (hq i hi).2)
      have e := sV_flat l
      rw [e] at this
      exact this
    · have e : (List.range len).map D = l.map fun t => (DataW.lit (.string t.data.toList) : DataW H) := by
        apply List.ext_getElem
        · simp [hll]
        · intro i h1 h2
          simp only [List.getElem_map, List.getElem_range]
          exact (hq i (by simpa using h2)).1
      have := bulk_strs (H := H) l
      simp only [Rows.uptoBulk]
      rw [e, this]
      omega
theorem each_le {ts : List ByteArray} : ∀ t ∈ ts, t.size + 1 ≤ (ts.map nl).flatten.length + ts.length := by
  induction ts with
  | nil => simp
  | cons a r ih =>
    intro t ht
    simp only [List.map_cons, List.flatten_cons, List.length_append, List.length_cons, nl_len]
    rcases List.mem_cons.1 ht with rfl | ht
    · omega
    · have := ih t ht
      omega
end Go.Proofs.YtfipljhlponcoaaDoor
