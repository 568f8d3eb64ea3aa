/- A slice of moves that came in, told as a list. -/
import Derived.Test.YtbahclnpgdejlaaMove
import Derived.Test.YtbahclnpgdejlaaOpenClk
set_option linter.unusedVariables false
namespace Go.Proofs.Ytbahclnpgdejlaa
open Go.ChangeShapes Go.WideShapes Go.Deep Go.RowKit
theorem Try.cells54 : Try.prog.cellsOf 54 = 4 := by kernel_rfl
set_option maxRecDepth 100000 in
theorem open_mvs {H : Type} {enc : TypeId × Value → H} {W : World} {B0 : Nat} {v : Value} {d : DataW H} {p : List MemPlace}
    (hv : Value.okWide Try.prog W .any B0 47 v) (h : DataW.Trod enc Try.prog W 0 (fun _ => true) true 47 v d p) :
    ∃ (a : Option Addr) (len cap : Nat) (l : List Mv), v = .slice a len cap ∧ len = l.length ∧ Seg W W.heap.size a (mvCells l) := by
  obtain ⟨a, len, cap, rfl⟩ := okWide_slice Try.underlying47 hv
  obtain ⟨fuel, hf⟩ := h
  rcases open_slice_fields Try.underlying47 Try.underlying54 (by kernel_rfl) Try.cells54 hf with ⟨hcs, hx⟩ | ⟨x, len', cap', m, D, Pl, hcs, _, hl, hmx, hm, hx, hi⟩
  · simp [Value.cells] at hcs
    obtain ⟨rfl, rfl, rfl⟩ := hcs
    exact ⟨none, 0, 0, [], rfl, rfl, Seg.nil⟩
  · simp [Value.cells] at hcs
    obtain ⟨rfl, rfl, rfl⟩ := hcs
    have hone : ∀ i, i < len → ∃ c : Mv, ∀ j u, (c.cells)[j]? = some u → W.cell? (x.add (i * 4 + j)) = some u := by
      intro i hin
      obtain ⟨ys, n, _, _, _, hg⟩ := hi i (by simp only [if_true] at hm; omega)
      obtain ⟨v0, y0, c0, _, t0⟩ := hg 0 _ rfl
      obtain ⟨v1, y1, c1, _, t1⟩ := hg 1 _ rfl
      obtain ⟨v2, y2, c2, _, t2⟩ := hg 2 _ rfl
      obtain ⟨v3, y3, c3, _, t3⟩ := hg 3 _ rfl
      obtain ⟨i0, e0, _, x0⟩ := DataW.trod_int Try.underlying3 t0
      obtain ⟨i1, e1, _, x1⟩ := DataW.trod_int Try.underlying3 t1
      obtain ⟨i2, e2, _, x2⟩ := DataW.trod_int Try.underlying3 t2
      obtain ⟨i3, e3, _, x3⟩ := DataW.trod_int Try.underlying2 t3
      simp at e0 e1 e2 e3
      subst e0 e1 e2 e3
      refine ⟨⟨i0, i1, i2, i3⟩, ?_⟩
      intro j u hu
      have hj : j < 4 := (List.getElem?_eq_some_iff.1 hu).1
      match j, hj with
      | 0, _ => simp [Mv.cells] at hu; subst hu; exact c0
      | 1, _ => simp [Mv.cells] at hu; subst hu; exact c1
      | 2, _ => simp [Mv.cells] at hu; subst hu; exact c2
      | 3, _ => simp [Mv.cells] at hu; subst hu; exact c3
    obtain ⟨l, hll, hq⟩ := list_of _ len hone
    exact ⟨some x, len, cap, l, rfl, hll.symm, seg_of_things (f := Mv.cells) (m := 4) (fun _ => rfl) (by omega) l (fun i hi => hq i hi)⟩
end Go.Proofs.Ytbahclnpgdejlaa
