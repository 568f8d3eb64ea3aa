/- A slice of clocks that came in, told as a list of clocks and where its cells lie. -/
import Derived.Test.YtbahclnpgdejlaaClk
import Derived.Deep.Slices
import Derived.Deep.Fields
import Derived.ChangeSame
import Derived.ProofKit
import Derived.SizedLaws
set_option linter.unusedVariables false
namespace Go.Proofs.Ytbahclnpgdejlaa
open Go.ChangeShapes Go.WideShapes Go.Deep Go.RowKit
section
variable {H : Type} {enc : TypeId × Value → H} {P : Program} {w : World} {base : Nat} {spare : Nat → Bool} {held : Bool}
theorem open_slice_fields {t e : TypeId} {fs : Array Field} {fuel : Nat} {cs : List Value} {x : DataW H × List MemPlace} (ht : P.underlying t = some (.slice e)) (he : P.underlying e = some (.struct fs))
    (hone : oneCellFields P fs = true) (hC : P.cellsOf e = fs.size) (h : DataW.trod enc P w base spare held fuel t cs = some x) :
    (cs = [.slice none 0 0] ∧ x = (.nil, [])) ∨
    ∃ (a : Addr) (len cap m : Nat) (D : Nat → DataW H) (Pl : Nat → List MemPlace), cs = [.slice (some a) len cap] ∧ base ≤ a.block ∧ len ≤ cap ∧ cap ≤ maxLen ∧ m = (if spare a.block then cap else len) ∧
      x = (.slice ((List.range len).map D) ((List.range (m - len)).map fun j => D (len + j)), MemPlace.row a (m * fs.size) ++ (List.range m).flatMap Pl) ∧
      ∀ i, i < m → ∃ (ys : List (DataW H × List MemPlace)) (n : Nat), D i = .agg (ys.map (·.1)) ∧ Pl i = ys.flatMap (·.2) ∧ ys.length = fs.size ∧
        ∀ (j : Nat) (f : Field), fs[j]? = some f → ∃ (v : Value) (y : DataW H × List MemPlace), w.cell? (a.add (i * fs.size + j)) = some v ∧ ys[j]? = some y ∧ DataW.trod enc P w base spare held n f.type [v] = some y := by
  rcases open_slice ht h with h0 | ⟨a, len, cap, m, n, D, Pl, hcs, hb, hl, hm, hmm, hx, hi⟩
  · exact .inl h0
  · refine .inr ⟨a, len, cap, m, D, Pl, hcs, hb, hl, hm, hmm, by rw [hC] at hx; exact hx, fun i him => ?_⟩
    obtain ⟨cs', hc, ht'⟩ := hi i him
    rw [hC] at hc
    obtain ⟨ys, n', hn', hy, hlen, hyl, hf⟩ := DataW.trod_struct he ht'
    obtain ⟨_, hcl, hat⟩ := World.cells?_some hc
    simp only [Prod.mk.injEq] at hy
    refine ⟨ys, n', hy.1, hy.2, hyl, fun j f hj => ?_⟩
    obtain ⟨ho, hk⟩ := hone_of hone j f hj
    have hjl : j < fs.size := (Array.getElem?_eq_some_iff.1 hj).1
    have hcell := hat j hjl
    have hv : cs'[j]? = some (cs'[j]'(by omega)) := List.getElem?_eq_getElem (by omega)
    have h1 := hf j f hj
    rw [ho, hk] at h1
    have hone' : (cs'.drop j).take 1 = [cs'[j]'(by omega)] := by
      rw [List.drop_eq_getElem_cons (by omega)]
      rfl
    rw [hone'] at h1
    have hys : ys[j]? = some (ys[j]'(by omega)) := List.getElem?_eq_getElem (by omega)
    refine ⟨_, _, ?_, hys, h1.trans hys⟩
    rw [← Go.Deep.add_add, hcell, hv]
end
theorem list_of {α : Type} (Q : Nat → α → Prop) : ∀ n : Nat, (∀ i, i < n → ∃ c, Q i c) → ∃ l : List α, l.length = n ∧ ∀ i (h : i < l.length), Q i l[i]
  | 0, _ => ⟨[], rfl, fun i h => absurd h (Nat.not_lt_zero i)⟩
  | n + 1, h => by
    obtain ⟨l, hl, hq⟩ := list_of Q n (fun i hi => h i (by omega))
    obtain ⟨c, hc⟩ := h n (by omega)
    refine ⟨l ++ [c], by simp [hl], fun i hi => ?_⟩
    rcases (show i < l.length ∨ i = l.length by simp at hi; omega) with hi2 | rfl
    · rw [List.getElem_append_left hi2]; exact hq i hi2
    · simp only [List.getElem_append_right (Nat.le_refl _), Nat.sub_self, List.getElem_cons_zero]
      rw [hl]; exact hc
/-- Things of m cells each, one behind the other. -/
theorem seg_of_things {α : Type} {f : α → List Value} {m : Nat} (hf : ∀ x, (f x).length = m) (hm : 0 < m) {w : World} {a : Addr} (l : List α)
    (h : ∀ i (hi : i < l.length), ∀ j u, (f l[i])[j]? = some u → w.cell? (a.add (i * m + j)) = some u) : Seg w w.heap.size (some a) (l.flatMap f) := by
  intro hne
  have h0 : 0 < l.length := by
    rcases l with _ | ⟨x, l⟩
    · exact absurd rfl hne
    · simp
  have hx : 0 < (f l[0]).length := by rw [hf]; exact hm
  have hc0 := h 0 h0 0 _ (List.getElem?_eq_getElem hx)
  obtain ⟨b, off, spot⟩ := a
  have hspot : spot = none := by simpa [Addr.add] using World.cell?_spot hc0
  subst hspot
  refine ⟨b, off, rfl, ?_, fun j u hu => ?_⟩
  · have := World.block_lt_of_cell? w _ hc0
    simpa [Addr.add] using this
  · have hlt := (List.getElem?_eq_some_iff.1 hu).1
    rw [flat_length f m hf] at hlt
    have hk : j / m < l.length := (Nat.div_lt_iff_lt_mul hm).2 hlt
    have hj : j % m < m := Nat.mod_lt _ hm
    have e : j = j / m * m + j % m := by have := Nat.div_add_mod j m; rw [Nat.mul_comm] at this; omega
    rw [e, flat_get f m hf l _ _ hk hj] at hu
    have := h _ hk _ u hu
    rw [addr_add, ← e] at this
    exact this
theorem Try.cells81 : Try.prog.cellsOf 81 = 7 := by kernel_rfl
theorem Try.bytes81 : Try.prog.bytesOf 81 = 56 := by kernel_rfl
theorem clk_wf {x : Int} (h : (Lit.int .i64 x).wf = true) : -9223372036854775808 ≤ x ∧ x ≤ 9223372036854775807 := by
  simp [Lit.wf, IntKind.min, IntKind.max, IntKind.signed, IntKind.bits] at h; omega
/-- All numbers of a clock are 64-bit ones. -/
def Clk.wf (c : Clk) : Prop := (∀ x ∈ [c.frm, c.rate, c.mul, c.div, c.lo, c.hi], (Lit.int .i64 x).wf = true)
set_option maxRecDepth 100000 in
theorem open_clks {H : Type} {enc : TypeId × Value → H} {W : World} {B0 : Nat} {v : Value} {d : DataW H} {p : List MemPlace}
    (hv : Value.okWide Try.prog W .any B0 37 v) (h : DataW.Trod enc Try.prog W 0 (fun _ => true) true 37 v d p) :
    ∃ (a : Option Addr) (len cap : Nat) (l : List Clk), v = .slice a len cap ∧ len = l.length ∧ Seg W W.heap.size a (clkCells l) ∧ (∀ c ∈ l, c.wf) ∧
      ((d = .nil ∧ len = 0) ∨ ∃ elems spare, d = .slice elems spare ∧ elems.length = len) := by
  obtain ⟨a, len, cap, rfl⟩ := okWide_slice Try.underlying37 hv
  obtain ⟨fuel, hf⟩ := h
  rcases open_slice_fields Try.underlying37 Try.underlying81 (by kernel_rfl) Try.cells81 hf with ⟨hcs, hx⟩ | ⟨x, len', cap', m, D, Pl, hcs, _, hl, hmx, hm, hx, hi⟩
  · simp [Value.cells] at hcs
    obtain ⟨rfl, rfl, rfl⟩ := hcs
    simp only [Prod.mk.injEq] at hx
    exact ⟨none, 0, 0, [], rfl, rfl, Seg.nil, by simp, .inl ⟨hx.1, rfl⟩⟩
  · simp [Value.cells] at hcs
    obtain ⟨rfl, rfl, rfl⟩ := hcs
    simp only [Prod.mk.injEq] at hx
    have hone : ∀ i, i < len → ∃ c : Clk, c.wf ∧ ∀ j u, (c.cells)[j]? = some u → W.cell? (x.add (i * 7 + j)) = some u := by
      intro i hin
      obtain ⟨ys, n, _, _, _, hg⟩ := hi i (by simp only [if_true] at hm; omega)
      obtain ⟨v0, y0, c0, _, t0⟩ := hg 0 _ rfl
      obtain ⟨v1, y1, c1, _, t1⟩ := hg 1 _ rfl
      obtain ⟨v2, y2, c2, _, t2⟩ := hg 2 _ rfl
      obtain ⟨v3, y3, c3, _, t3⟩ := hg 3 _ rfl
      obtain ⟨v4, y4, c4, _, t4⟩ := hg 4 _ rfl
      obtain ⟨v5, y5, c5, _, t5⟩ := hg 5 _ rfl
      obtain ⟨v6, y6, c6, _, t6⟩ := hg 6 _ rfl
      obtain ⟨i0, e0, _, x0⟩ := DataW.trod_int Try.underlying3 t0
      obtain ⟨i1, e1, _, x1⟩ := DataW.trod_int Try.underlying2 t1
      obtain ⟨i2, e2, _, x2⟩ := DataW.trod_int Try.underlying2 t2
      obtain ⟨i3, e3, _, x3⟩ := DataW.trod_int Try.underlying2 t3
      obtain ⟨i4, e4, _, x4⟩ := DataW.trod_int Try.underlying2 t4
      obtain ⟨i5, e5, _, x5⟩ := DataW.trod_int Try.underlying2 t5
      obtain ⟨i6, e6, _⟩ := DataW.trod_bool Try.underlying4 t6
      simp at e0 e1 e2 e3 e4 e5 e6
      subst e0 e1 e2 e3 e4 e5 e6
      refine ⟨⟨i0, i1, i2, i3, i4, i5, i6⟩, ?_, ?_⟩
      · intro z hz
        simp at hz
        rcases hz with rfl | rfl | rfl | rfl | rfl | rfl <;> assumption
      · intro j u hu
        have hj : j < 7 := (List.getElem?_eq_some_iff.1 hu).1
        match j, hj with
        | 0, _ => simp [Clk.cells] at hu; subst hu; exact c0
        | 1, _ => simp [Clk.cells] at hu; subst hu; exact c1
        | 2, _ => simp [Clk.cells] at hu; subst hu; exact c2
        | 3, _ => simp [Clk.cells] at hu; subst hu; exact c3
        | 4, _ => simp [Clk.cells] at hu; subst hu; exact c4
        | 5, _ => simp [Clk.cells] at hu; subst hu; exact c5
        | 6, _ => simp [Clk.cells] at hu; subst hu; exact c6
    obtain ⟨l, hll, hq⟩ := list_of _ len hone
    refine ⟨some x, len, cap, l, rfl, hll.symm, seg_of_things clk_len (by omega) l (fun i hi => (hq i hi).2), fun c hc => ?_, .inr ⟨_, _, hx.1, by simp⟩⟩
    obtain ⟨i, hi, rfl⟩ := List.mem_iff_getElem.1 hc
    exact (hq i hi).1
end Go.Proofs.Ytbahclnpgdejlaa
