/- The quirks: the map, Quirk, Quirks: contracts. -/
import Derived.Test.YtiheibcookcbdaaDoorMem
import Derived.Test.YtiheibcookcbdaaDoorProg
import Derived.WideMake
import Derived.Laws.EntriesVeiled
set_option linter.unusedVariables false
namespace Go.Proofs.YtiheibcookcbdaaDoor
open Go.RowKit
/-- A map keyed by texts, as it lies. -/
def MapAt (w : World) (b : Nat) (es : List (ByteArray × Value)) : Prop := ∃ (E : Array MapEntry) (clock : Nat), w.heap[b]? = some (.map E clock) ∧ E.toList.map (fun x => (x.key, x.val)) = es.map fun x => (Value.string x.1, x.2)
theorem MapAt.keep {w w' : World} {b : Nat} {es : List (ByteArray × Value)} (h : MapAt w b es) (hk : w'.heap[b]? = w.heap[b]?) : MapAt w' b es := by
  obtain ⟨E, c, h1, h2⟩ := h
  exact ⟨E, c, hk.trans h1, h2⟩
theorem MapAt.lt {w : World} {b : Nat} {es : List (ByteArray × Value)} (h : MapAt w b es) : b < w.heap.size := by
  obtain ⟨E, c, h1, h2⟩ := h
  exact (Array.getElem?_eq_some_iff.1 h1).1
theorem find_at (k : ByteArray) : ∀ (E : List MapEntry) (es : List (ByteArray × Value)) (i : Nat), E.map (fun x => (x.key, x.val)) = es.map (fun x => (Value.string x.1, x.2)) →
    ∃ r, Instr.findNow .string (.string k) E i = some r ∧ r.map Prod.snd = (es.find? fun x => k == x.1).map Prod.snd
  | [], [], i, _ => ⟨none, rfl, rfl⟩
  | [], e :: es, i, h => by cases h
  | x :: E, [], i, h => by cases h
  | x :: E, e :: es, i, h => by
    simp only [List.map_cons, List.cons.injEq, Prod.mk.injEq] at h
    obtain ⟨⟨h1, h2⟩, h3⟩ := h
    unfold Instr.findNow
    rw [h1]
    simp only [Instr.sameNow]
    rcases hk : k == e.1
    · simp only
      obtain ⟨r, hr, he⟩ := find_at k E es (i + 1) h3
      exact ⟨r, hr, by rw [List.find?_cons]; simp only [hk]; exact he⟩
    · simp only
      exact ⟨some (i, x.val), rfl, by rw [List.find?_cons]; simp only [hk]; simp [h2]⟩
theorem run_ins {w : World} {b : Nat} {es : List (ByteArray × Value)} {k : ByteArray} {v : Value} (h : MapAt w b es) (hn : es.find? (fun x => k == x.1) = none) :
    ∃ w', (Instr.mapUpdate 49 (.map (some b)) (.string k) v).run Tryd.prog w = .ok () w' ∧ MapAt w' b (es ++ [(k, v)]) ∧ w.grownBy w' (some b) := by
  obtain ⟨E, c, hb, he⟩ := h
  obtain ⟨r, hr, hre⟩ := find_at k E.toList es 0 he
  rw [hn] at hre
  have hr0 : r = none := by cases r with
    | none => rfl
    | some x => cases hre
  subst hr0
  have hk : Tryd.prog.underlying 9 = some .string := Tryd.underlying9
  have hc : (Instr.checkKey false 10000 9 (.string k)).run Tryd.prog w = .ok () w := MapKept.run_checkKey (k := .string k) hk (by simp [MapKept.IsKey]) false 9999
  refine ⟨_, by simp [Instr.mapUpdate, run_underlying Tryd.underlying49, MapKept.run_getObj_map hb, hc, MapKept.run_findKey hk hr, MapKept.run_setObj_map _ hb, Result.andThen]; rfl, ⟨_, _, (MapKept.heap_set hb).1, ?_⟩, ?_⟩
  · simp [he]
  · exact ⟨rfl, rfl, rfl, by simp, fun j hj hne => (MapKept.heap_set hb).2 j (fun e => hne (by rw [e]))⟩
theorem wpList_ins {w : World} {ops : Array Oper} {rest : List Oper} {o : Oper} {a : Act} {Q : Exit → Act → World → Prop} (hgd : o.guard = none) (m x y : Operand) (ho : o.op = .insert 49 m x y)
    {b : Nat} {es : List (ByteArray × Value)} {k : ByteArray} {v : Value} (hm : MapAt w b es) (hn : es.find? (fun x => k == x.1) = none) (h1 : a.eval m = .map (some b)) (h2 : a.eval x = .string k) (h3 : a.eval y = v)
    (h : ∀ w', MapAt w' b (es ++ [(k, v)]) → w.grownBy w' (some b) → wpList Tryd.prog ops Q rest (a.put o.dst undef) w') : wpList Tryd.prog ops Q (o :: rest) a w := by
  refine wpList_plain hgd fun K' hK' => ?_
  obtain ⟨w', hrun, r1, r2⟩ := run_ins (v := v) hm hn
  unfold Oper.wp
  simp [execOp, ho, h1, h2, h3, hrun, Result.andThen]
  exact hK' _ _ (h w' r1 r2)
theorem look_at {w : World} {b : Nat} {es : List (ByteArray × Value)} (h : MapAt w b es) (k : ByteArray) {v : Value} (hf : (es.find? fun x => k == x.1).map Prod.snd = some v) : (Instr.lookup 49 (.map (some b)) (.string k) true).run Tryd.prog w = .ok (.tuple #[v, .bool true]) w := by
  obtain ⟨E, c, hb, he⟩ := h
  obtain ⟨r, hr, hre⟩ := find_at k E.toList es 0 he
  rw [hf] at hre
  obtain ⟨j, rfl⟩ : ∃ j, r = some (j, v) := by
    cases r with
    | none => cases hre
    | some x => simp at hre; exact ⟨x.1, by rw [← hre]⟩
  have hk : Tryd.prog.underlying 9 = some .string := Tryd.underlying9
  have hc : (Instr.checkKey E.isEmpty 10000 9 (.string k)).run Tryd.prog w = .ok () w := MapKept.run_checkKey (k := .string k) hk (by simp [MapKept.IsKey]) _ 9999
  simp [Instr.lookup, run_underlying Tryd.underlying49, MapKept.run_getObj_map hb, hc, MapKept.run_findKey hk hr, Result.andThen]
set_option maxRecDepth 100000 in
theorem by_any (d : Int) (w : World) : Calls Tryd.prog 27 #[.int .i64 d] w fun e w' => e = .returned (.func (.func 28) #[] #[.pointer (some ⟨w.heap.size, 0, none⟩)]) ∧ w' = w.alloc (.cells #[.int .i64 d] 2) := by
  go_enter Tryd.func27, Tryd.ntmps27
  go_wp2
  go_ret
  exact ⟨by rfl, by rfl⟩
def bSlow : ByteArray := ⟨#[115, 108, 111, 119]⟩
def bHalf : ByteArray := ⟨#[104, 97, 108, 102]⟩
def bDouble : ByteArray := ⟨#[100, 111, 117, 98, 108, 101]⟩
def bOdd : ByteArray := ⟨#[111, 100, 100]⟩
def byF (q : Nat) : Value := .func (.func 28) #[] #[.pointer (some ⟨q, 0, none⟩)]
def fnF (n : Nat) : Value := .func (.func n) #[] #[]
/-- The quirks, as they lie: where the divisors stand. -/
def quirkMap (q1 q4 q2 : Nat) : List (ByteArray × Value) := [(⟨#[]⟩, byF q1), (bSlow, byF q4), (bHalf, byF q2), (bDouble, fnF 29), (bOdd, fnF 30)]
/-- The map and the divisors while the map is filled. -/
structure QS (w0 w : World) (b : Nat) (qs : List (Nat × Int)) (es : List (ByteArray × Value)) : Prop where
  map : MapAt w b es
  low : Below w0.heap.size w0 w
  ge : w0.heap.size ≤ b
  cells : ∀ x ∈ qs, RowAt w x.1 2 [.int .i64 x.2] ∧ x.1 ≠ b
theorem QS.start (w : World) : QS w (w.alloc (.map #[] 0)) w.heap.size [] [] :=
  ⟨⟨#[], 0, heap_alloc_new _ _, rfl⟩, (Below.refl _ _).alloc (Nat.le_refl _) _, Nat.le_refl _, fun x hx => by cases hx⟩
theorem QS.box {w0 w : World} {b : Nat} {qs : List (Nat × Int)} {es : List (ByteArray × Value)} (h : QS w0 w b qs es) (d : Int) : QS w0 (w.alloc (.cells #[.int .i64 d] 2)) b (qs ++ [(w.heap.size, d)]) es := by
  have hb := h.map.lt
  refine ⟨h.map.keep (Below.heap_alloc _ _ _ hb), h.low.alloc h.low.size _, h.ge, fun x hx => ?_⟩
  rcases List.mem_append.1 hx with hx | hx
  · obtain ⟨h1, h2⟩ := h.cells x hx
    exact ⟨h1.keep (Below.heap_alloc _ _ _ h1.lt), h2⟩
  · rw [List.mem_singleton] at hx
    subst hx
    exact ⟨⟨_, heap_alloc_new _ _, rfl⟩, by show w.heap.size ≠ b; omega⟩
theorem QS.ins {w0 w w' : World} {b : Nat} {qs : List (Nat × Int)} {es es' : List (ByteArray × Value)} (h : QS w0 w b qs es) (hm : MapAt w' b es') (hg : w.grownBy w' (some b)) : QS w0 w' b qs es' := by
  refine ⟨hm, h.low.grown hg h.low.size (fun g hg => by injection hg with hg; rw [← hg]; exact h.ge), h.ge, fun x hx => ?_⟩
  obtain ⟨h1, h2⟩ := h.cells x hx
  exact ⟨h1.keep (hg.block _ h1.lt (fun e => h2 (by injection e))), h2⟩
theorem wpList_insQ {w0 w : World} {ops : Array Oper} {rest : List Oper} {o : Oper} {a : Act} {Q : Exit → Act → World → Prop} (hgd : o.guard = none) (m x y : Operand) (ho : o.op = .insert 49 m x y)
    {b : Nat} {qs : List (Nat × Int)} {es : List (ByteArray × Value)} {k : ByteArray} {v : Value} (hq : QS w0 w b qs es) (hn : es.find? (fun x => k == x.1) = none) (h1 : a.eval m = .map (some b)) (h2 : a.eval x = .string k) (h3 : a.eval y = v)
    (h : ∀ w', QS w0 w' b qs (es ++ [(k, v)]) → wpList Tryd.prog ops Q rest (a.put o.dst undef) w') : wpList Tryd.prog ops Q (o :: rest) a w :=
  wpList_ins hgd m x y ho hq.map hn h1 h2 h3 fun w' r1 r2 => h w' (hq.ins r1 r2)
set_option maxRecDepth 100000 in
set_option maxHeartbeats 4000000 in
theorem quirks_any (w : World) : Calls Tryd.prog 14 #[] w fun e w' => ∃ b q1 q4 q2, e = .returned (.map (some b)) ∧ QS w w' b [(q1, 1), (q4, 4), (q2, 2)] (quirkMap q1 q4 q2) := by
  have hmk : ∀ w : World, (Instr.makeMap 49 none).run Tryd.prog w = .ok (.map (some w.heap.size)) (w.alloc (.map #[] 0)) := fun w => run_makeMap_plain w 49
  have HQ0 := Lib.hid (QS.start w)
  go_enter Tryd.func14, Tryd.ntmps14
  go_wp2_with (first
    | (go_at_call 27; refine (by_any _ _).mono ?_; rintro e w' ⟨rfl, rfl⟩)
    | (refine wpList_insQ rfl (.tmp 2) (.const (.string ⟨#[111, 100, 100]⟩)) (.func 30) rfl (k := bOdd) (v := fnF 30) HQ4.out (by rfl) rfl rfl rfl ?_; intro w5 hq5; have HQ5 := Lib.hid hq5; clear hq5)
    | (refine wpList_insQ rfl (.tmp 2) (.const (.string ⟨#[100, 111, 117, 98, 108, 101]⟩)) (.func 29) rfl (k := bDouble) (v := fnF 29) HQ3.out (by rfl) rfl rfl rfl ?_; intro w4 hq4; have HQ4 := Lib.hid hq4; clear hq4)
    | (refine wpList_insQ rfl (.tmp 2) (.const (.string ⟨#[104, 97, 108, 102]⟩)) (.tmp 8) rfl (k := bHalf) (v := byF w2.heap.size) (HQ2.out.box 2) (by rfl) rfl rfl rfl ?_; intro w3 hq3; have HQ3 := Lib.hid hq3; clear hq3)
    | (refine wpList_insQ rfl (.tmp 2) (.const (.string ⟨#[115, 108, 111, 119]⟩)) (.tmp 6) rfl (k := bSlow) (v := byF w1.heap.size) (HQ1.out.box 4) (by rfl) rfl rfl rfl ?_; intro w2 hq2; have HQ2 := Lib.hid hq2; clear hq2)
    | (refine wpList_insQ rfl (.tmp 2) (.const (.string ⟨#[]⟩)) (.tmp 4) rfl (k := ⟨#[]⟩) (v := byF (w.heap.size + 1)) (HQ0.out.box 1) (by rfl) rfl rfl rfl ?_; intro w1 hq1; have HQ1 := Lib.hid hq1; clear hq1)
    | fail)
  go_ret
  have h := HQ5.out
  simp only [List.nil_append, List.cons_append, World.size_alloc] at h
  exact ⟨_, _, _, _, by rfl, h⟩
end Go.Proofs.YtiheibcookcbdaaDoor
