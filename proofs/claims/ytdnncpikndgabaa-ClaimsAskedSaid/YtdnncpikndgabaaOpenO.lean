/- A slice of owners that came in, told as a list and where it lies. -/
import Derived.Test.YtdnncpikndgabaaRows
import Derived.Test.YtdnncpikndgabaaWho
import Derived.Deep.Slices
import Derived.Deep.Fields
import Derived.Deep.Strs
import Derived.ChangeSame
import Derived.ProofKit
import Derived.SizedLaws
set_option linter.unusedVariables false
namespace Go.Proofs.Ytdnncpikndgabaa
open Go.ChangeShapes Go.WideShapes Go.Deep Go.RowKit
theorem list_of {α : Type} (Q : Nat → α → Prop) : ∀ n : Nat, (∀ i, i < n → ∃ c, Q i c) → ∃ l : List α, l.length = n ∧ ∀ i (h : i < l.length), Q i l[i]
  | 0, _ => ⟨[], rfl, fun i h => absurd h (Nat.not_lt_zero i)⟩
  | n + 1, h => by
    obtain ⟨l, hl, hq⟩ := list_of Q n (fun i hi => h i (by omega))
    obtain ⟨c, hc⟩ := h n (by omega)
    refine ⟨l ++ [c], by simp [hl], fun i hi => ?_⟩
    rcases (show i < l.length ∨ i = l.length by simp at hi; omega) with hi2 | rfl
    · rw [List.getElem_append_left hi2]; exact hq i hi2
    · simp only [List.getElem_append_right (Nat.le_refl _), Nat.sub_self, List.getElem_cons_zero]
      rw [hl]; exact hc
/-- Things of m cells each, one behind the other. -/
theorem seg_of_things {α : Type} {f : α → List Value} {m : Nat} (hf : ∀ x, (f x).length = m) (hm : 0 < m) {w : World} {a : Addr} (l : List α)
    (h : ∀ i (hi : i < l.length), ∀ j u, (f l[i])[j]? = some u → w.cell? (a.add (i * m + j)) = some u) : Seg w w.heap.size (some a) (l.flatMap f) := by
  intro hne
  have h0 : 0 < l.length := by
    rcases l with _ | ⟨x, l⟩
    · exact absurd rfl hne
    · simp
  have hx : 0 < (f l[0]).length := by rw [hf]; exact hm
  have hc0 := h 0 h0 0 _ (List.getElem?_eq_getElem hx)
  obtain ⟨b, off, spot⟩ := a
  have hspot : spot = none := by simpa [Addr.add] using World.cell?_spot hc0
  subst hspot
  refine ⟨b, off, rfl, ?_, fun j u hu => ?_⟩
  · have := World.block_lt_of_cell? w _ hc0
    simpa [Addr.add] using this
  · have hlt := (List.getElem?_eq_some_iff.1 hu).1
    rw [flat_length f m hf] at hlt
    have hk : j / m < l.length := (Nat.div_lt_iff_lt_mul hm).2 hlt
    have hj : j % m < m := Nat.mod_lt _ hm
    have e : j = j / m * m + j % m := by have := Nat.div_add_mod j m; rw [Nat.mul_comm] at this; omega
    rw [e, flat_get f m hf l _ _ hk hj] at hu
    have := h _ hk _ u hu
    rw [addr_add, ← e] at this
    exact this
section
variable {H : Type} {P : Program} {t e : TypeId} {R : Nat}
theorem weightsAll_mem {ds : List (DataW H)} {d : DataW H} (h : d ∈ ds) : ∀ n ∈ d.weights P e, n ∈ DataW.weightsAll P e ds := by
  induction ds with
  | nil => cases h
  | cons x r ih =>
    intro n hn
    unfold DataW.weightsAll
    rcases List.mem_cons.1 h with rfl | h
    · exact List.mem_append_left _ hn
    · exact List.mem_append_right _ (ih h n hn)
theorem weights_slice {elems spare : List (DataW H)} (ht : P.underlying t = some (.slice e)) (h : ∀ n ∈ (DataW.slice elems spare).weights P t, n ≤ R) :
    (elems.length + spare.length) * P.bytesOf e ≤ R ∧ (∀ d ∈ elems, ∀ n ∈ d.weights P e, n ≤ R) ∧ ∀ d ∈ spare, ∀ n ∈ d.weights P e, n ≤ R := by
  unfold DataW.weights at h
  rw [ht] at h
  simp only at h
  refine ⟨h _ (List.mem_cons_self ..), fun d hd n hn => h n ?_, fun d hd n hn => h n ?_⟩
  · exact List.mem_cons_of_mem _ (List.mem_append_left _ (weightsAll_mem hd n hn))
  · exact List.mem_cons_of_mem _ (List.mem_append_right _ (weightsAll_mem hd n hn))
end
/-- Numbers of 64 bits without a sign. -/
theorem wf_u64 {x : Int} (h : (Lit.int .u64 x).wf = true) : ∃ n : Nat, x = (n : Int) ∧ n < 18446744073709551616 := by
  simp [Lit.wf, IntKind.min, IntKind.max, IntKind.signed, IntKind.bits] at h
  exact ⟨x.toNat, by omega, by omega⟩
theorem wf_u8 {x : Int} (h : (Lit.int .u8 x).wf = true) : ∃ n : Nat, x = (n : Int) ∧ n < 256 := by
  simp [Lit.wf, IntKind.min, IntKind.max, IntKind.signed, IntKind.bits] at h
  exact ⟨x.toNat, by omega, by omega⟩
theorem Try.cells30 : Try.prog.cellsOf 30 = 4 := by kernel_rfl
theorem Try.cells24 : Try.prog.cellsOf 24 = 3 := by kernel_rfl
theorem Try.cells3 : Try.prog.cellsOf 3 = 1 := by kernel_rfl
theorem Try.cells5 : Try.prog.cellsOf 5 = 1 := by kernel_rfl
theorem Try.cells22 : Try.prog.cellsOf 22 = 1 := by kernel_rfl
theorem Try.bytes30 : Try.prog.bytesOf 30 = 32 := by kernel_rfl
set_option maxRecDepth 100000 in
theorem open_owners {H : Type} {enc : TypeId × Value → H} {W : World} {B0 : Nat} {v : Value} {d : DataW H} {p : List MemPlace} {R : Nat}
    (hv : Value.okWide Try.prog W .any B0 31 v) (h : DataW.Trod enc Try.prog W 0 (fun _ => true) true 31 v d p) (hw : ∀ n ∈ d.weights Try.prog 31, n ≤ R) :
    ∃ (a : Option Addr) (len cap : Nat) (l : List Ow), v = .slice a len cap ∧ len = l.length ∧ Seg W W.heap.size a (owCells l) ∧ len * 32 ≤ R ∧
      ∀ o ∈ l, o.c.f < 18446744073709551616 ∧ o.c.t < 18446744073709551616 := by
  obtain ⟨a, len, cap, rfl⟩ := okWide_slice Try.underlying31 hv
  obtain ⟨fuel, hf⟩ := h
  rcases open_slice Try.underlying31 hf with ⟨hcs, hx⟩ | ⟨x, len', cap', m, n, D, Pl, hcs, _, hl, hmx, hm, hx, hi⟩
  · simp [Value.cells] at hcs
    obtain ⟨rfl, rfl, rfl⟩ := hcs
    exact ⟨none, 0, 0, [], rfl, rfl, Seg.nil, by simp, by simp⟩
  · simp [Value.cells] at hcs
    obtain ⟨rfl, rfl, rfl⟩ := hcs
    simp only [Prod.mk.injEq] at hx
    obtain ⟨rfl, _⟩ := hx
    obtain ⟨h1, h2, _⟩ := weights_slice Try.underlying31 hw
    have hone : ∀ i, i < len → ∃ c : Ow, (c.c.f < 18446744073709551616 ∧ c.c.t < 18446744073709551616) ∧ ∀ j u, (c.cells)[j]? = some u → W.cell? (x.add (i * 4 + j)) = some u := by
      intro i hin
      obtain ⟨cs', hc, ht'⟩ := hi i (by simp only [if_true] at hm; omega)
      rw [Try.cells30] at hc
      obtain ⟨_, hcl, hat⟩ := World.cells?_some hc
      obtain ⟨y0, y1, n', _, _, t0, t1⟩ := trod_struct2 Try.underlying30 ht'
      obtain ⟨z0, z1, z2, n2, _, _, u0, u1, u2⟩ := trod_struct3 Try.underlying24 t1
      match cs', hcl with
      | [a0, a1, a2, a3], _ =>
        simp only [Try.cells3, Try.cells24, Try.cells5, Try.cells22, List.drop_zero, List.drop_succ_cons, List.take_succ_cons, List.take_zero] at t0 u0 u1 u2
        obtain ⟨i0, e0, _, x0⟩ := DataW.trod_int Try.underlying3 t0
        obtain ⟨i1, e1, _, x1⟩ := DataW.trod_int Try.underlying5 u0
        obtain ⟨i2, e2, _, x2⟩ := DataW.trod_int Try.underlying22 u1
        obtain ⟨i3, e3, _, x3⟩ := DataW.trod_int Try.underlying22 u2
        simp at e0 e1 e2 e3
        subst e0 e1 e2 e3
        obtain ⟨n1, rfl, b1⟩ := wf_u8 x1
        obtain ⟨n2, rfl, b2⟩ := wf_u64 x2
        obtain ⟨n3, rfl, b3⟩ := wf_u64 x3
        refine ⟨⟨i0, ⟨n1, n2, n3⟩⟩, ⟨b2, b3⟩, fun j u hu => ?_⟩
        have hj : j < 4 := (List.getElem?_eq_some_iff.1 hu).1
        have := hat j hj
        rw [Go.Deep.add_add] at this
        rw [this]
        exact hu
    obtain ⟨l, hll, hq⟩ := list_of _ len hone
    refine ⟨some x, len, cap, l, rfl, hll.symm, seg_of_things ow_len (by omega) l (fun i hi => (hq i hi).2), ?_, fun c hc => ?_⟩
    · rw [Try.bytes30] at h1
      simp only [List.length_map, List.length_range] at h1
      omega
    · obtain ⟨i, hi, rfl⟩ := List.mem_iff_getElem.1 hc
      exact (hq i hi).1
end Go.Proofs.Ytdnncpikndgabaa
