/- A slice of nodes that came in, told as a list of nodes and where they lie. -/
import Derived.Test.YtmdnbajbfnhecaaGreatDoorRows
import Derived.Test.YtmdnbajbfnhecaaGreatDoorMem
import Derived.Deep.Slices
import Derived.Deep.Fields
import Derived.ChangeSame
import Derived.ProofKit
import Derived.SizedLaws
set_option linter.unusedVariables false
namespace Go.Proofs.YtmdnbajbfnhecaaGreatDoor
open Go.ChangeShapes Go.WideShapes Go.Deep Go.RowKit
section
variable {H : Type} {enc : TypeId × Value → H} {P : Program} {w : World} {base : Nat} {spare : Nat → Bool} {held : Bool}
theorem open_slice_fields {t e : TypeId} {fs : Array Field} {fuel : Nat} {cs : List Value} {x : DataW H × List MemPlace} (ht : P.underlying t = some (.slice e)) (he : P.underlying e = some (.struct fs))
    (hone : oneCellFields P fs = true) (hC : P.cellsOf e = fs.size) (h : DataW.trod enc P w base spare held fuel t cs = some x) :
    (cs = [.slice none 0 0] ∧ x = (.nil, [])) ∨
    ∃ (a : Addr) (len cap m : Nat) (D : Nat → DataW H) (Pl : Nat → List MemPlace), cs = [.slice (some a) len cap] ∧ base ≤ a.block ∧ len ≤ cap ∧ cap ≤ maxLen ∧ m = (if spare a.block then cap else len) ∧
      x = (.slice ((List.range len).map D) ((List.range (m - len)).map fun j => D (len + j)), MemPlace.row a (m * fs.size) ++ (List.range m).flatMap Pl) ∧
      ∀ i, i < m → ∃ (ys : List (DataW H × List MemPlace)) (n : Nat), D i = .agg (ys.map (·.1)) ∧ Pl i = ys.flatMap (·.2) ∧ ys.length = fs.size ∧
        ∀ (j : Nat) (f : Field), fs[j]? = some f → ∃ (v : Value) (y : DataW H × List MemPlace), w.cell? (a.add (i * fs.size + j)) = some v ∧ ys[j]? = some y ∧ DataW.trod enc P w base spare held n f.type [v] = some y := by
  rcases open_slice ht h with h0 | ⟨a, len, cap, m, n, D, Pl, hcs, hb, hl, hm, hmm, hx, hi⟩
  · exact .inl h0
  · refine .inr ⟨a, len, cap, m, D, Pl, hcs, hb, hl, hm, hmm, by rw [hC] at hx; exact hx, fun i him => ?_⟩
    obtain ⟨cs', hc, ht'⟩ := hi i him
    rw [hC] at hc
    obtain ⟨ys, n', hn', hy, hlen, hyl, hf⟩ := DataW.trod_struct he ht'
    obtain ⟨_, hcl, hat⟩ := World.cells?_some hc
    simp only [Prod.mk.injEq] at hy
    refine ⟨ys, n', hy.1, hy.2, hyl, fun j f hj => ?_⟩
    obtain ⟨ho, hk⟩ := hone_of hone j f hj
    have hjl : j < fs.size := (Array.getElem?_eq_some_iff.1 hj).1
    have hcell := hat j hjl
    have hv : cs'[j]? = some (cs'[j]'(by omega)) := List.getElem?_eq_getElem (by omega)
    have h1 := hf j f hj
    rw [ho, hk] at h1
    have hone' : (cs'.drop j).take 1 = [cs'[j]'(by omega)] := by
      rw [List.drop_eq_getElem_cons (by omega)]
      rfl
    rw [hone'] at h1
    have hys : ys[j]? = some (ys[j]'(by omega)) := List.getElem?_eq_getElem (by omega)
    refine ⟨_, _, ?_, hys, h1.trans hys⟩
    rw [← Go.Deep.add_add, hcell, hv]
end
theorem list_of {α : Type} (Q : Nat → α → Prop) : ∀ n : Nat, (∀ i, i < n → ∃ c, Q i c) → ∃ l : List α, l.length = n ∧ ∀ i (h : i < l.length), Q i l[i]
  | 0, _ => ⟨[], rfl, fun i h => absurd h (Nat.not_lt_zero i)⟩
  | n + 1, h => by
    obtain ⟨l, hl, hq⟩ := list_of Q n (fun i hi => h i (by omega))
    obtain ⟨c, hc⟩ := h n (by omega)
    refine ⟨l ++ [c], by simp [hl], fun i hi => ?_⟩
    rcases (show i < l.length ∨ i = l.length by simp at hi; omega) with hi2 | rfl
    · rw [List.getElem_append_left hi2]; exact hq i hi2
    · simp only [List.getElem_append_right (Nat.le_refl _), Nat.sub_self, List.getElem_cons_zero]
      rw [hl]; exact hc
/-- Things of m cells each, one behind the other. -/
theorem seg_of_things {α : Type} {f : α → List Value} {m : Nat} (hf : ∀ x, (f x).length = m) (hm : 0 < m) {w : World} {a : Addr} (l : List α)
    (h : ∀ i (hi : i < l.length), ∀ j u, (f l[i])[j]? = some u → w.cell? (a.add (i * m + j)) = some u) : Seg w w.heap.size (some a) (l.flatMap f) := by
  intro hne
  have h0 : 0 < l.length := by
    rcases l with _ | ⟨x, l⟩
    · exact absurd rfl hne
    · simp
  have hx : 0 < (f l[0]).length := by rw [hf]; exact hm
  have hc0 := h 0 h0 0 _ (List.getElem?_eq_getElem hx)
  obtain ⟨b, off, spot⟩ := a
  have hspot : spot = none := by simpa [Addr.add] using World.cell?_spot hc0
  subst hspot
  refine ⟨b, off, rfl, ?_, fun j u hu => ?_⟩
  · have := World.block_lt_of_cell? w _ hc0
    simpa [Addr.add] using this
  · have hlt := (List.getElem?_eq_some_iff.1 hu).1
    rw [flat_length f m hf] at hlt
    have hk : j / m < l.length := (Nat.div_lt_iff_lt_mul hm).2 hlt
    have hj : j % m < m := Nat.mod_lt _ hm
    have e : j = j / m * m + j % m := by have := Nat.div_add_mod j m; rw [Nat.mul_comm] at this; omega
    rw [e, flat_get f m hf l _ _ hk hj] at hu
    have := h _ hk _ u hu
    rw [addr_add, ← e] at this
    exact this
section
variable {H : Type} {P : Program} {t e : TypeId} {R : Nat}
theorem weightsAll_mem {ds : List (DataW H)} {d : DataW H} (h : d ∈ ds) : ∀ n ∈ d.weights P e, n ∈ DataW.weightsAll P e ds := by
  induction ds with
  | nil => cases h
  | cons x r ih =>
    intro n hn
    unfold DataW.weightsAll
    rcases List.mem_cons.1 h with rfl | h
    · exact List.mem_append_left _ hn
    · exact List.mem_append_right _ (ih h n hn)
theorem weights_slice {elems spare : List (DataW H)} (ht : P.underlying t = some (.slice e)) (h : ∀ n ∈ (DataW.slice elems spare).weights P t, n ≤ R) :
    (elems.length + spare.length) * P.bytesOf e ≤ R ∧ (∀ d ∈ elems, ∀ n ∈ d.weights P e, n ≤ R) ∧ ∀ d ∈ spare, ∀ n ∈ d.weights P e, n ≤ R := by
  unfold DataW.weights at h
  rw [ht] at h
  simp only at h
  refine ⟨h _ (List.mem_cons_self ..), fun d hd n hn => h n ?_, fun d hd n hn => h n ?_⟩
  · exact List.mem_cons_of_mem _ (List.mem_append_left _ (weightsAll_mem hd n hn))
  · exact List.mem_cons_of_mem _ (List.mem_append_right _ (weightsAll_mem hd n hn))
theorem weights_agg {fs : Array Field} {parts : List (DataW H)} (ht : P.underlying t = some (.struct fs)) (h : ∀ n ∈ (DataW.agg parts).weights P t, n ≤ R) {j : Nat} {f : Field} {d : DataW H} (hf : fs[j]? = some f) (hd : parts[j]? = some d) : ∀ n ∈ d.weights P f.type, n ≤ R := fun n hn => by
  unfold DataW.weights at h
  rw [ht] at h
  exact h n (DataW.weights_mem_each (by simp [hf]) hd n hn)
end
theorem Tryz.cells57 : Tryz.prog.cellsOf 57 = 2 := by kernel_rfl
theorem Tryz.cells50 : Tryz.prog.cellsOf 50 = 3 := by kernel_rfl
theorem Tryz.bytes57 : Tryz.prog.bytesOf 57 = 32 := by kernel_rfl
theorem Tryz.bytes50 : Tryz.prog.bytesOf 50 = 48 := by kernel_rfl
set_option maxRecDepth 100000 in
theorem open_props {H : Type} {enc : TypeId × Value → H} {W : World} {fuel : Nat} {v : Value} {d : DataW H} {p : List MemPlace} {R : Nat}
    (h : DataW.trod enc Tryz.prog W 0 (fun _ => true) true fuel 48 [v] = some (d, p)) (hw : ∀ n ∈ d.weights Tryz.prog 48, n ≤ R) :
    ∃ (A : Option Addr) (c : Nat) (ps : List Pr), v = .slice A ps.length c ∧ Seg W W.heap.size A (prCells ps) ∧ ps.length * 32 ≤ R ∧ ∀ y ∈ ps, y.n.size ≤ R ∧ y.v.size ≤ R := by
  rcases open_slice_fields Tryz.underlying48 Tryz.underlying57 (by kernel_rfl) Tryz.cells57 h with ⟨hcs, hx⟩ | ⟨x, len', cap', m, D, Pl, hcs, _, hl, hmx, hm, hx, hi⟩
  · injection hcs with hcs
    subst hcs
    exact ⟨none, 0, [], rfl, Seg.nil, by simp, by simp⟩
  · injection hcs with hcs
    subst hcs
    simp only [Prod.mk.injEq] at hx
    obtain ⟨rfl, _⟩ := hx
    obtain ⟨h1, h2, _⟩ := weights_slice Tryz.underlying48 hw
    have hone : ∀ i, i < len' → ∃ c : Pr, (c.n.size ≤ R ∧ c.v.size ≤ R) ∧ ∀ j u, (c.cells)[j]? = some u → W.cell? (x.add (i * 2 + j)) = some u := by
      intro i hin
      obtain ⟨ys, n, hD, _, _, hg⟩ := hi i (by simp only [if_true] at hm; omega)
      have hwi := h2 (D i) (List.mem_map.2 ⟨i, List.mem_range.2 hin, rfl⟩)
      rw [hD] at hwi
      obtain ⟨v0, y0, c0, z0, t0⟩ := hg 0 _ rfl
      obtain ⟨v1, y1, c1, z1, t1⟩ := hg 1 _ rfl
      have w0 := weights_agg Tryz.underlying57 hwi (j := 0) rfl (d := y0.1) (by simp [z0])
      have w1 := weights_agg Tryz.underlying57 hwi (j := 1) rfl (d := y1.1) (by simp [z1])
      obtain ⟨s0, e0, x0, _⟩ := DataW.trod_string Tryz.underlying9 t0
      obtain ⟨s1, e1, x1, _⟩ := DataW.trod_string Tryz.underlying9 t1
      simp at e0 e1
      subst e0 e1 x0 x1
      refine ⟨⟨s0, s1⟩, ⟨w0 _ (by simp [DataW.weights]), w1 _ (by simp [DataW.weights])⟩, ?_⟩
      intro j u hu
      have hj : j < 2 := (List.getElem?_eq_some_iff.1 hu).1
      match j, hj with
      | 0, _ => simp [Pr.cells] at hu; subst hu; exact c0
      | 1, _ => simp [Pr.cells] at hu; subst hu; exact c1
    obtain ⟨l, hll, hq⟩ := list_of _ len' hone
    refine ⟨some x, cap', l, by rw [hll], seg_of_things pr_len (by omega) l (fun i hi => (hq i hi).2), ?_, fun c hc => ?_⟩
    · rw [Tryz.bytes57] at h1
      simp only [List.length_map, List.length_range] at h1
      rw [hll]
      omega
    · obtain ⟨i, hi, rfl⟩ := List.mem_iff_getElem.1 hc
      exact (hq i hi).1
set_option maxRecDepth 100000 in
theorem open_nodes {H : Type} {enc : TypeId × Value → H} {W : World} {B0 : Nat} {v : Value} {d : DataW H} {p : List MemPlace} {R : Nat}
    (hv : Value.okWide Tryz.prog W .any B0 22 v) (h : DataW.Trod enc Tryz.prog W 0 (fun _ => true) true 22 v d p) (hw : ∀ n ∈ d.weights Tryz.prog 22, n ≤ R) :
    ∃ (a : Option Addr) (len cap : Nat) (l : List Nm), v = .slice a len cap ∧ len = l.length ∧ Nodes W W.heap.size a l ∧ len * 48 ≤ R ∧
      ∀ x ∈ l, (Lit.int .i64 x.d.p).wf = true ∧ x.d.n.size ≤ R ∧ x.d.ps.length * 32 ≤ R ∧ ∀ y ∈ x.d.ps, y.n.size ≤ R ∧ y.v.size ≤ R := by
  obtain ⟨a, len, cap, rfl⟩ := okWide_slice Tryz.underlying22 hv
  obtain ⟨fuel, hf⟩ := h
  rcases open_slice_fields Tryz.underlying22 Tryz.underlying50 (by kernel_rfl) Tryz.cells50 hf with ⟨hcs, hx⟩ | ⟨x, len', cap', m, D, Pl, hcs, _, hl, hmx, hm, hx, hi⟩
  · simp [Value.cells] at hcs
    obtain ⟨rfl, rfl, rfl⟩ := hcs
    exact ⟨none, 0, 0, [], rfl, rfl, ⟨Seg.nil, by simp⟩, by simp, by simp⟩
  · simp [Value.cells] at hcs
    obtain ⟨rfl, rfl, rfl⟩ := hcs
    simp only [Prod.mk.injEq] at hx
    obtain ⟨rfl, _⟩ := hx
    obtain ⟨h1, h2, _⟩ := weights_slice Tryz.underlying22 hw
    have hone : ∀ i, i < len → ∃ c : Nm, (Seg W W.heap.size c.A (prCells c.d.ps) ∧ (Lit.int .i64 c.d.p).wf = true ∧ c.d.n.size ≤ R ∧ c.d.ps.length * 32 ≤ R ∧ ∀ y ∈ c.d.ps, y.n.size ≤ R ∧ y.v.size ≤ R) ∧ ∀ j u, (c.cells)[j]? = some u → W.cell? (x.add (i * 3 + j)) = some u := by
      intro i hin
      obtain ⟨ys, n, hD, _, _, hg⟩ := hi i (by simp only [if_true] at hm; omega)
      have hwi := h2 (D i) (List.mem_map.2 ⟨i, List.mem_range.2 hin, rfl⟩)
      rw [hD] at hwi
      obtain ⟨v0, y0, c0, z0, t0⟩ := hg 0 _ rfl
      obtain ⟨v1, y1, c1, z1, t1⟩ := hg 1 _ rfl
      obtain ⟨v2, y2, c2, z2, t2⟩ := hg 2 _ rfl
      have w1 := weights_agg Tryz.underlying50 hwi (j := 1) rfl (d := y1.1) (by simp [z1])
      have w2 := weights_agg Tryz.underlying50 hwi (j := 2) rfl (d := y2.1) (by simp [z2])
      obtain ⟨i0, e0, _, x0⟩ := DataW.trod_int Tryz.underlying3 t0
      obtain ⟨s1, e1, x1, _⟩ := DataW.trod_string Tryz.underlying9 t1
      simp at e0 e1
      subst e0 e1 x1
      obtain ⟨A, cc, ps, rfl, hs, hb, hy⟩ := open_props (d := y2.1) (p := y2.2) t2 w2
      refine ⟨⟨⟨i0, s1, ps⟩, A, cc⟩, ⟨hs, x0, w1 _ (by simp [DataW.weights]), hb, hy⟩, ?_⟩
      intro j u hu
      have hj : j < 3 := (List.getElem?_eq_some_iff.1 hu).1
      match j, hj with
      | 0, _ => simp [Nm.cells] at hu; subst hu; exact c0
      | 1, _ => simp [Nm.cells] at hu; subst hu; exact c1
      | 2, _ => simp [Nm.cells] at hu; subst hu; exact c2
    obtain ⟨l, hll, hq⟩ := list_of _ len hone
    refine ⟨some x, len, cap, l, rfl, hll.symm, ⟨seg_of_things nm_len (by omega) l (fun i hi => (hq i hi).2), fun c hc => ?_⟩, ?_, fun c hc => ?_⟩
    · obtain ⟨i, hi, rfl⟩ := List.mem_iff_getElem.1 hc
      exact (hq i hi).1.1
    · rw [Tryz.bytes50] at h1
      simp only [List.length_map, List.length_range] at h1
      omega
    · obtain ⟨i, hi, rfl⟩ := List.mem_iff_getElem.1 hc
      exact (hq i hi).1.2
end Go.Proofs.YtmdnbajbfnhecaaGreatDoor
