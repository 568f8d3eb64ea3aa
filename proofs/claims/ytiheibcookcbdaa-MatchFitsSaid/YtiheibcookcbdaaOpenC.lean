/- Cards and texts that came in, told as lists and where they lie. -/
/- A slice of nodes that came in, told as a list of nodes and where they lie. -/
import Derived.Test.YtiheibcookcbdaaRows
import Derived.Test.YtiheibcookcbdaaMut
import Derived.Test.YtiheibcookcbdaaFitsW
import Derived.Deep.Slices
import Derived.Deep.Fields
import Derived.ChangeSame
import Derived.ProofKit
import Derived.SizedLaws
set_option linter.unusedVariables false
namespace Go.Proofs.Ytiheibcookcbdaa
open Go.ChangeShapes Go.WideShapes Go.Deep Go.RowKit
section
variable {H : Type} {enc : TypeId × Value → H} {P : Program} {w : World} {base : Nat} {spare : Nat → Bool} {held : Bool}
theorem open_slice_fields {t e : TypeId} {fs : Array Field} {fuel : Nat} {cs : List Value} {x : DataW H × List MemPlace} (ht : P.underlying t = some (.slice e)) (he : P.underlying e = some (.struct fs))
    (hone : oneCellFields P fs = true) (hC : P.cellsOf e = fs.size) (h : DataW.trod enc P w base spare held fuel t cs = some x) :
    (cs = [.slice none 0 0] ∧ x = (.nil, [])) ∨
    ∃ (a : Addr) (len cap m : Nat) (D : Nat → DataW H) (Pl : Nat → List MemPlace), cs = [.slice (some a) len cap] ∧ base ≤ a.block ∧ len ≤ cap ∧ cap ≤ maxLen ∧ m = (if spare a.block then cap else len) ∧
      x = (.slice ((List.range len).map D) ((List.range (m - len)).map fun j => D (len + j)), MemPlace.row a (m * fs.size) ++ (List.range m).flatMap Pl) ∧
      ∀ i, i < m → ∃ (ys : List (DataW H × List MemPlace)) (n : Nat), D i = .agg (ys.map (·.1)) ∧ Pl i = ys.flatMap (·.2) ∧ ys.length = fs.size ∧
        ∀ (j : Nat) (f : Field), fs[j]? = some f → ∃ (v : Value) (y : DataW H × List MemPlace), w.cell? (a.add (i * fs.size + j)) = some v ∧ ys[j]? = some y ∧ DataW.trod enc P w base spare held n f.type [v] = some y := by
  rcases open_slice ht h with h0 | ⟨a, len, cap, m, n, D, Pl, hcs, hb, hl, hm, hmm, hx, hi⟩
  · exact .inl h0
  · refine .inr ⟨a, len, cap, m, D, Pl, hcs, hb, hl, hm, hmm, by rw [hC] at hx; exact hx, fun i him => ?_⟩
    obtain ⟨cs', hc, ht'⟩ := hi i him
    rw [hC] at hc
    obtain ⟨ys, n', hn', hy, hlen, hyl, hf⟩ := DataW.trod_struct he ht'
    obtain ⟨_, hcl, hat⟩ := World.cells?_some hc
    simp only [Prod.mk.injEq] at hy
    refine ⟨ys, n', hy.1, hy.2, hyl, fun j f hj => ?_⟩
    obtain ⟨ho, hk⟩ := hone_of hone j f hj
    have hjl : j < fs.size := (Array.getElem?_eq_some_iff.1 hj).1
    have hcell := hat j hjl
    have hv : cs'[j]? = some (cs'[j]'(by omega)) := List.getElem?_eq_getElem (by omega)
    have h1 := hf j f hj
    rw [ho, hk] at h1
    have hone' : (cs'.drop j).take 1 = [cs'[j]'(by omega)] := by
      rw [List.drop_eq_getElem_cons (by omega)]
      rfl
    rw [hone'] at h1
    have hys : ys[j]? = some (ys[j]'(by omega)) := List.getElem?_eq_getElem (by omega)
    refine ⟨_, _, ?_, hys, h1.trans hys⟩
    rw [← Go.Deep.add_add, hcell, hv]
end
/-- Things of m cells each, one behind the other. -/
theorem seg_of_things {α : Type} {f : α → List Value} {m : Nat} (hf : ∀ x, (f x).length = m) (hm : 0 < m) {w : World} {a : Addr} (l : List α)
    (h : ∀ i (hi : i < l.length), ∀ j u, (f l[i])[j]? = some u → w.cell? (a.add (i * m + j)) = some u) : Seg w w.heap.size (some a) (l.flatMap f) := by
  intro hne
  have h0 : 0 < l.length := by
    rcases l with _ | ⟨x, l⟩
    · exact absurd rfl hne
    · simp
  have hx : 0 < (f l[0]).length := by rw [hf]; exact hm
  have hc0 := h 0 h0 0 _ (List.getElem?_eq_getElem hx)
  obtain ⟨b, off, spot⟩ := a
  have hspot : spot = none := by simpa [Addr.add] using World.cell?_spot hc0
  subst hspot
  refine ⟨b, off, rfl, ?_, fun j u hu => ?_⟩
  · have := World.block_lt_of_cell? w _ hc0
    simpa [Addr.add] using this
  · have hlt := (List.getElem?_eq_some_iff.1 hu).1
    rw [flat_length f m hf] at hlt
    have hk : j / m < l.length := (Nat.div_lt_iff_lt_mul hm).2 hlt
    have hj : j % m < m := Nat.mod_lt _ hm
    have e : j = j / m * m + j % m := by have := Nat.div_add_mod j m; rw [Nat.mul_comm] at this; omega
    rw [e, flat_get f m hf l _ _ hk hj] at hu
    have := h _ hk _ u hu
    rw [addr_add, ← e] at this
    exact this
section
variable {H : Type} {P : Program} {t e : TypeId} {R : Nat}
theorem weightsAll_mem {ds : List (DataW H)} {d : DataW H} (h : d ∈ ds) : ∀ n ∈ d.weights P e, n ∈ DataW.weightsAll P e ds := by
  induction ds with
  | nil => cases h
  | cons x r ih =>
    intro n hn
    unfold DataW.weightsAll
    rcases List.mem_cons.1 h with rfl | h
    · exact List.mem_append_left _ hn
    · exact List.mem_append_right _ (ih h n hn)
theorem weights_slice {elems spare : List (DataW H)} (ht : P.underlying t = some (.slice e)) (h : ∀ n ∈ (DataW.slice elems spare).weights P t, n ≤ R) :
    (elems.length + spare.length) * P.bytesOf e ≤ R ∧ (∀ d ∈ elems, ∀ n ∈ d.weights P e, n ≤ R) ∧ ∀ d ∈ spare, ∀ n ∈ d.weights P e, n ≤ R := by
  unfold DataW.weights at h
  rw [ht] at h
  simp only at h
  refine ⟨h _ (List.mem_cons_self ..), fun d hd n hn => h n ?_, fun d hd n hn => h n ?_⟩
  · exact List.mem_cons_of_mem _ (List.mem_append_left _ (weightsAll_mem hd n hn))
  · exact List.mem_cons_of_mem _ (List.mem_append_right _ (weightsAll_mem hd n hn))
theorem weights_agg {fs : Array Field} {parts : List (DataW H)} (ht : P.underlying t = some (.struct fs)) (h : ∀ n ∈ (DataW.agg parts).weights P t, n ≤ R) {j : Nat} {f : Field} {d : DataW H} (hf : fs[j]? = some f) (hd : parts[j]? = some d) : ∀ n ∈ d.weights P f.type, n ≤ R := fun n hn => by
  unfold DataW.weights at h
  rw [ht] at h
  exact h n (DataW.weights_mem_each (by simp [hf]) hd n hn)
end
theorem wf_u8 {n : Int} (h : (Lit.int .u8 n).wf = true) : 0 ≤ n ∧ n ≤ 255 := by
  simp [Lit.wf, IntKind.min, IntKind.max, IntKind.signed, IntKind.bits] at h
  omega
theorem wf_i8 {n : Int} (h : (Lit.int .i8 n).wf = true) : -128 ≤ n ∧ n ≤ 127 := by
  simp [Lit.wf, IntKind.min, IntKind.max, IntKind.signed, IntKind.bits] at h
  omega
theorem strs_flat : ∀ l : List ByteArray, l.flatMap (fun t : ByteArray => [Value.string t]) = strs l
  | [] => rfl
  | x :: l => by rw [List.flatMap_cons, strs_flat l]; rfl
theorem Try.cells37 : Try.prog.cellsOf 37 = 7 := by kernel_rfl
theorem Try.cells9 : Try.prog.cellsOf 9 = 1 := by kernel_rfl
theorem Try.bytes37 : Try.prog.bytesOf 37 = 96 := by kernel_rfl
theorem Try.bytes9 : Try.prog.bytesOf 9 = 16 := by kernel_rfl
set_option maxRecDepth 100000 in
theorem open_strs {H : Type} {enc : TypeId × Value → H} {W : World} {fuel : Nat} {v : Value} {d : DataW H} {p : List MemPlace} {R : Nat}
    (h : DataW.trod enc Try.prog W 0 (fun _ => true) true fuel 23 [v] = some (d, p)) (hw : ∀ n ∈ d.weights Try.prog 23, n ≤ R) :
    ∃ (A : Option Addr) (c : Nat) (ts : List ByteArray), v = .slice A ts.length c ∧ Seg W W.heap.size A (strs ts) ∧ ts.length ≤ c ∧ ts.length * 16 ≤ R ∧ ∀ t ∈ ts, t.size ≤ R := by
  rcases open_slice Try.underlying23 h with ⟨hcs, hx⟩ | ⟨x, len', cap', m, n, D, Pl, hcs, _, hl, hmx, hm, hx, hi⟩
  · injection hcs with hcs
    subst hcs
    exact ⟨none, 0, [], rfl, Seg.nil, by simp, by simp, by simp⟩
  · injection hcs with hcs
    subst hcs
    simp only [Prod.mk.injEq] at hx
    obtain ⟨rfl, _⟩ := hx
    obtain ⟨h1, h2, _⟩ := weights_slice Try.underlying23 hw
    have hone : ∀ i, i < len' → ∃ t : ByteArray, t.size ≤ R ∧ W.cell? (x.add i) = some (.string t) := by
      intro i hin
      obtain ⟨cs', hc, ht'⟩ := hi i (by simp only [if_true] at hm; omega)
      rw [Try.cells9] at hc
      obtain ⟨_, hcl, hat⟩ := World.cells?_some hc
      have hv : cs'[0]? = some (cs'[0]'(by omega)) := List.getElem?_eq_getElem (by omega)
      have hcs1 : cs' = [cs'[0]'(by omega)] := List.ext_getElem (by simp; omega) (fun i h1 h2 => by simp at h2; subst h2; rfl)
      rw [hcs1] at ht'
      have hwi := h2 (D i) (List.mem_map.2 ⟨i, List.mem_range.2 hin, rfl⟩)
      obtain ⟨s0, e0, x0, _⟩ := DataW.trod_string Try.underlying9 ht'
      simp at e0
      have hD0 : D i = DataW.lit (Lit.string s0.data.toList) := congrArg Prod.fst x0
      rw [hD0] at hwi
      refine ⟨s0, hwi _ (by simp [DataW.weights]), ?_⟩
      have := hat 0 (by omega)
      rw [Nat.mul_one] at this
      rw [show (x.add i).add 0 = x.add i from by rw [Go.Deep.add_add, Nat.add_zero]] at this
      rw [this, hv, e0]
    obtain ⟨l, hll, hq⟩ := list_of _ len' hone
    refine ⟨some x, cap', l, by rw [hll], ?_, by omega, ?_, fun c hc => ?_⟩
    · have := seg_of_things (w := W) (a := x) (f := fun t : ByteArray => [Value.string t]) (m := 1) (fun _ => rfl) (by omega) l (fun i hi j u hu => by
        have hj : j < 1 := (List.getElem?_eq_some_iff.1 hu).1
        obtain rfl : j = 0 := by omega
        simp at hu
        subst hu
        rw [Nat.mul_one, Nat.add_zero]
        exact (hq i hi).2)
      have e := strs_flat l
      rw [e] at this
      exact this
    · rw [Try.bytes9] at h1
      simp only [List.length_map, List.length_range] at h1
      rw [hll]
      omega
    · obtain ⟨i, hi, rfl⟩ := List.mem_iff_getElem.1 hc
      exact (hq i hi).1
set_option maxRecDepth 100000 in
theorem open_cards {H : Type} {enc : TypeId × Value → H} {W : World} {B0 : Nat} {v : Value} {d : DataW H} {p : List MemPlace} {R : Nat} (hR : R = 140737488351232)
    (hv : Value.okWide Try.prog W .any B0 22 v) (h : DataW.Trod enc Try.prog W 0 (fun _ => true) true 22 v d p) (hw : ∀ n ∈ d.weights Try.prog 22, n ≤ R) :
    ∃ (a : Option Addr) (len cap : Nat) (l : List Cd), v = .slice a len cap ∧ len = l.length ∧ len ≤ cap ∧ Cards W W.heap.size a l ∧ len * 96 ≤ R ∧ CLim 0 0 l := by
  subst hR
  obtain ⟨a, len, cap, rfl⟩ := okWide_slice Try.underlying22 hv
  obtain ⟨fuel, hf⟩ := h
  rcases open_slice_fields Try.underlying22 Try.underlying37 (by kernel_rfl) Try.cells37 hf with ⟨hcs, hx⟩ | ⟨x, len', cap', m, D, Pl, hcs, _, hl, hmx, hm, hx, hi⟩
  · simp [Value.cells] at hcs
    obtain ⟨rfl, rfl, rfl⟩ := hcs
    exact ⟨none, 0, 0, [], rfl, rfl, Nat.le_refl _, ⟨Seg.nil, by simp, by simp⟩, by simp, fun i h => absurd h (Nat.not_lt_zero i)⟩
  · simp [Value.cells] at hcs
    obtain ⟨rfl, rfl, rfl⟩ := hcs
    simp only [Prod.mk.injEq] at hx
    obtain ⟨rfl, _⟩ := hx
    obtain ⟨h1, h2, _⟩ := weights_slice Try.underlying22 hw
    have hone : ∀ i, i < len → ∃ c : Cd, (Seg W W.heap.size c.A (strs c.d.ts) ∧ c.d.ts.length ≤ c.c ∧ ZOk c.d ∧ ∀ t ∈ c.d.ts, t.size ≤ 140737488351232) ∧ ∀ j u, (c.cells)[j]? = some u → W.cell? (x.add (i * 7 + j)) = some u := by
      intro i hin
      obtain ⟨ys, n, hD, _, _, hg⟩ := hi i (by simp only [if_true] at hm; omega)
      have hwi := h2 (D i) (List.mem_map.2 ⟨i, List.mem_range.2 hin, rfl⟩)
      rw [hD] at hwi
      obtain ⟨v0, y0, c0, z0, t0⟩ := hg 0 _ rfl
      obtain ⟨v1, y1, c1, z1, t1⟩ := hg 1 _ rfl
      obtain ⟨v2, y2, c2, z2, t2⟩ := hg 2 _ rfl
      obtain ⟨v3, y3, c3, z3, t3⟩ := hg 3 _ rfl
      obtain ⟨v4, y4, c4, z4, t4⟩ := hg 4 _ rfl
      obtain ⟨v5, y5, c5, z5, t5⟩ := hg 5 _ rfl
      obtain ⟨v6, y6, c6, z6, t6⟩ := hg 6 _ rfl
      have w0 := weights_agg Try.underlying37 hwi (j := 0) rfl (d := y0.1) (by simp [z0])
      have w1 := weights_agg Try.underlying37 hwi (j := 1) rfl (d := y1.1) (by simp [z1])
      have w3 := weights_agg Try.underlying37 hwi (j := 3) rfl (d := y3.1) (by simp [z3])
      have w5 := weights_agg Try.underlying37 hwi (j := 5) rfl (d := y5.1) (by simp [z5])
      obtain ⟨s0, e0, x0, _⟩ := DataW.trod_string Try.underlying9 t0
      obtain ⟨s1, e1, x1, _⟩ := DataW.trod_string Try.underlying9 t1
      obtain ⟨i2, e2, _, x2⟩ := DataW.trod_int Try.underlying5 t2
      obtain ⟨i4, e4, _, x4⟩ := DataW.trod_int Try.underlying34 t4
      obtain ⟨s5, e5, x5, _⟩ := DataW.trod_string Try.underlying9 t5
      obtain ⟨i6, e6, _, x6⟩ := DataW.trod_int Try.underlying35 t6
      simp at e0 e1 e2 e4 e5 e6
      subst e0 e1 e2 e4 e5 e6 x0 x1 x5
      obtain ⟨A, cc, ts, rfl, hs, hcp, hb, hy⟩ := open_strs (d := y3.1) (p := y3.2) t3 w3
      have b2 := wf_u8 x2
      have b4 := wf_i8 x4
      obtain ⟨lv, rfl⟩ : ∃ lv : Nat, i2 = (lv : Int) := ⟨i2.toNat, by omega⟩
      refine ⟨⟨⟨s0, s1, lv, ts, i4, s5, i6⟩, A, cc⟩, ⟨hs, hcp, ⟨w0 _ (by simp [DataW.weights]), w1 _ (by simp [DataW.weights]), w5 _ (by simp [DataW.weights]), by show lv ≤ 255; omega, hb, b4⟩, hy⟩, ?_⟩
      intro j u hu
      have hj : j < 7 := (List.getElem?_eq_some_iff.1 hu).1
      match j, hj with
      | 0, _ => simp [Cd.cells] at hu; subst hu; exact c0
      | 1, _ => simp [Cd.cells] at hu; subst hu; exact c1
      | 2, _ => simp [Cd.cells] at hu; subst hu; exact c2
      | 3, _ => simp [Cd.cells] at hu; subst hu; exact c3
      | 4, _ => simp [Cd.cells] at hu; subst hu; exact c4
      | 5, _ => simp [Cd.cells] at hu; subst hu; exact c5
      | 6, _ => simp [Cd.cells] at hu; subst hu; exact c6
    obtain ⟨l, hll, hq⟩ := list_of _ len hone
    refine ⟨some x, len, cap, l, rfl, hll.symm, hl, ⟨seg_of_things cd_len (by omega) l (fun i hi => (hq i hi).2), fun c hc => ?_, fun c hc => ?_⟩, ?_, fun i hi => ⟨(hq i hi).1.2.2.1, fun m hm => .inl ((hq i hi).1.2.2.2 _ (List.getElem_mem hm))⟩⟩
    · obtain ⟨i, hi, rfl⟩ := List.mem_iff_getElem.1 hc
      exact (hq i hi).1.1
    · obtain ⟨i, hi, rfl⟩ := List.mem_iff_getElem.1 hc
      exact (hq i hi).1.2.1
    · rw [Try.bytes37] at h1
      simp only [List.length_map, List.length_range] at h1
      omega
theorem open_texts {H : Type} {enc : TypeId × Value → H} {W : World} {B0 : Nat} {v : Value} {d : DataW H} {p : List MemPlace} {R : Nat} (hR : R = 140737488351232)
    (hv : Value.okWide Try.prog W .any B0 23 v) (h : DataW.Trod enc Try.prog W 0 (fun _ => true) true 23 v d p) (hw : ∀ n ∈ d.weights Try.prog 23, n ≤ R) :
    ∃ (a : Option Addr) (len cap : Nat) (ts : List ByteArray), v = .slice a len cap ∧ len = ts.length ∧ Seg W W.heap.size a (strs ts) ∧ len * 16 ≤ R ∧ SLim 0 ts := by
  subst hR
  obtain ⟨a, len, cap, rfl⟩ := okWide_slice Try.underlying23 hv
  obtain ⟨fuel, hf⟩ := h
  obtain ⟨A, c, ts, e, hs, _, hb, hy⟩ := open_strs (fuel := fuel) (v := .slice a len cap) (by simpa [Value.cells] using hf) hw
  injection e with e1 e2 e3
  subst e1 e2 e3
  exact ⟨_, _, _, ts, rfl, rfl, hs, hb, fun i hi => .inl (hy _ (List.getElem_mem hi))⟩
end Go.Proofs.Ytiheibcookcbdaa
