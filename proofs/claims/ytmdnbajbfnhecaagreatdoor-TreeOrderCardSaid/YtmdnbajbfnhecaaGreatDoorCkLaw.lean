/- The depths, the path and the kids as data; append with room. -/
import Derived.Test.YtmdnbajbfnhecaaGreatDoorKid
import Derived.Deep.DeepAppendRoom
set_option linter.unusedVariables false
namespace Go.Proofs.YtmdnbajbfnhecaaGreatDoor
open Go.RowKit
theorem make_row (n : Nat) (hl : n ≤ 2513169434843) (w : World) : (Instr.makeSlice 59 (.int .i64 0) (.int .i64 (n : Int))).run Tryz.prog w =
    .ok (.slice (some ⟨w.heap.size, 0, none⟩) 0 n) (w.alloc (.cells (madeCells #[.int .i64 0] n) 3)) := by
  obtain ⟨i0, hi, hz0, hz1, hz2⟩ := info_parts Tryz.info3
  have := run_make (P := Tryz.prog) w 59 3 i0 (.int .i64 0) Tryz.underlying59 hi hz0 .i64 .i64 0 n (by omega) (by omega) (by rw [hz2]; omega) (by omega)
  simp only [Int.toNat_natCast, hz1, Nat.mul_one] at this
  exact this
/-- append of one thing to a row that has room: the row stays where it is. -/
theorem wpList_push_room {P : Program} {wr : World} {ops : Array Oper} {rest : List Oper} {o : Oper} {a : Act} {Q : Exit → Act → World → Prop} (hgd : o.guard = none) (s x : Operand) (t : TypeId)
    (ho : o.op = .call { callee := .builtin .append, args := #[s, x], argTypes := #[t, t] })
    (base : Nat) (e : TypeId) (i : TypeInfo) (size : Nat) (ht : P.underlying t = some (.slice e)) (hi : P.info? e = some i) (hsize : i.size = size)
    (g n cap : Nat) (xs : List Value) (hs : a.eval s = .slice (some ⟨g, 0, none⟩) n cap) (hown : wr.ownsRow base e size (.slice (some ⟨g, 0, none⟩) n cap) n xs)
    (cs : Array Value) (hx : a.eval x = .slice (some ⟨wr.heap.size, 0, none⟩) 1 1) (hl : cs.toList.length = size) (h1 : ∀ u ∈ cs.toList, u.oneCell' = true) (hroom : n + 1 ≤ cap)
    (h : ∀ w', w'.ownsRow base e size (.slice (some ⟨g, 0, none⟩) (n + 1) cap) (n + 1) (xs ++ cs.toList) → (wr.alloc (.cells cs e)).grownBy w' (some g) → wpList P ops Q rest (a.put o.dst (.slice (some ⟨g, 0, none⟩) (n + 1) cap)) w') :
    wpList P ops Q (o :: rest) a (wr.alloc (.cells cs e)) := by
  refine wpList_plain hgd fun _ hK => ?_
  obtain ⟨w', hrun, h2, h3⟩ := run_append_own_spare (P := P) (w := wr.alloc (.cells cs e)) base t o.type e i size ht hi hsize g n cap xs (hown.alloc _) ⟨wr.heap.size, 0, none⟩ 1 1 cs.toList (by rw [hl, Nat.one_mul]) (fun j u hu => by
    rw [addr_add, Nat.zero_add, cell_of_row _ _ _ _ _ (0, 0) (heap_alloc_new wr _)]
    simpa using hu) h1 hroom
  unfold Oper.wp execOp
  simp only [ho, resolve, invoke, builtin, Sem.run_bind, Sem.run_pure, Result.andThen_ok, List.map_toArray, List.map_cons, List.map_nil, hs, hx, hrun]
  exact hK _ _ (h w' h2 h3)
theorem own_take {w : World} {base : Nat} {e : TypeId} {g n m cap : Nat} {xs : List Value} (h : w.ownsRow base e 1 (.slice (some ⟨g, 0, none⟩) n cap) n xs) (hm : m ≤ n) : w.ownsRow base e 1 (.slice (some ⟨g, 0, none⟩) m cap) m (xs.take m) := by
  have hl := h.1
  rcases h.2 with ⟨h0, _⟩ | ⟨g', cap', cur, hv, hbg, hg, hnc, hcm, hcs, htake⟩
  · cases h0
  · cases hv
    refine ⟨by simp; omega, .inr ⟨g, cap, cur, rfl, hbg, hg, by omega, hcm, hcs, ?_⟩⟩
    rw [← htake, List.take_take]
    congr 1
    omega
theorem own_cap {w : World} {base : Nat} {e : TypeId} {g n cap : Nat} {xs : List Value} (h : w.ownsRow base e 1 (.slice (some ⟨g, 0, none⟩) n cap) n xs) : n ≤ cap := by
  rcases h.2 with ⟨h0, _⟩ | ⟨g', cap', cur, hv, hbg, hg, hnc, hcm, hcs, htake⟩
  · cases h0
  · cases hv; exact hnc
theorem own_made {wr : World} {base : Nat} {q : Nat} (hb : base ≤ wr.heap.size) (hq : q ≤ maxLen) : (wr.alloc (.cells (madeCells #[.int .i64 0] q) 3)).ownsRow base 3 1 (.slice (some ⟨wr.heap.size, 0, none⟩) 0 q) 0 [] := by
  refine ⟨rfl, .inr ⟨wr.heap.size, q, _, rfl, hb, heap_alloc_new wr _, Nat.zero_le _, hq, ?_, by simp⟩⟩
  simp [madeCells]
/-! The depths, the path and the kids as data. -/
def depths (l : List Nd) (k : Nat) : List Int := (List.range k).map fun (j : Nat) => ((above l (j : Int)).length : Int)
theorem depths_len (l : List Nd) (k : Nat) : (depths l k).length = k := by simp [depths]
theorem depths_get (l : List Nd) {k p : Nat} (h : p < k) : (depths l k)[p]'(by rw [depths_len]; exact h) = ((above l (p : Int)).length : Int) := by simp [depths]
theorem depths_succ (l : List Nd) (k : Nat) : depths l (k + 1) = depths l k ++ [((above l (k : Int)).length : Int)] := by simp [depths, List.range_succ]
def pathTo (l : List Nd) (k : Nat) : List Int := (above l ((k : Int) - 1)).reverse
def kidVal (x : Nd) : Value := .agg #[.int .i64 x.p, .string x.n]
def Kids (l : List Nd) (k : Nat) (v : Value) : Prop := ∃ (j : Nat) (h : j < l.length), 1 ≤ j ∧ j < k ∧ v = kidVal l[j]
theorem kids_zero (l : List Nd) (v : Value) : False ↔ Kids l 0 v := ⟨False.elim, fun ⟨j, _, _, h, _⟩ => absurd h (Nat.not_lt_zero j)⟩
theorem kids_one (l : List Nd) (v : Value) : Kids l 0 v ↔ Kids l 1 v := ⟨fun ⟨j, _, _, h, _⟩ => absurd h (Nat.not_lt_zero j), fun ⟨j, _, h1, h, _⟩ => by omega⟩
theorem kids_succ {l : List Nd} {k : Nat} (h : k < l.length) (h1 : 1 ≤ k) (v : Value) : (v = kidVal l[k] ∨ Kids l k v) ↔ Kids l (k + 1) v := by
  constructor
  · rintro (e | ⟨j, a, b, c, d⟩)
    · exact ⟨k, h, h1, by omega, e⟩
    · exact ⟨j, a, b, by omega, d⟩
  · rintro ⟨j, a, b, c, d⟩
    rcases (show j < k ∨ j = k by omega) with h4 | rfl
    · exact .inr ⟨j, a, b, h4, d⟩
    · exact .inl d
theorem fine_succ {l : List Nd} {k : Nat} (h : Fine l k) (hk : nodeOkB l k = true) : Fine l (k + 1) := fun j hj => by
  rcases (show j < k ∨ j = k by omega) with h2 | rfl
  · exact h j h2
  · exact hk
theorem path_root {l : List Nd} (h : Fine l 1) (hl : 0 < l.length) : pathTo l 1 = [0] ∧ (above l (0 : Nat)).length = 1 := by
  have hn := h 0 (by omega)
  rw [node_zero hl] at hn
  simp only [Bool.and_eq_true, beq_iff_eq] at hn
  have hs := above_step h (by omega) (k := 0) (by omega)
  have hp : parAt l (0 : Nat) = -1 := by
    unfold parAt
    rw [Int.toNat_natCast, List.getElem?_eq_getElem hl]
    exact hn.2.1
  rw [hp, above_neg l (show (-1 : Int) < 0 by omega)] at hs
  refine ⟨?_, by rw [hs]; rfl⟩
  unfold pathTo
  rw [show (((1 : Nat) : Int) - 1) = ((0 : Nat) : Int) by omega, hs]
  rfl
/-- What a fine step does to path and depth. -/
theorem path_next {l : List Nd} {k p : Nat} (h : Fine l (k + 1)) (hl : k + 1 ≤ l.length) (hk : 1 ≤ k) (hp : p < k) (hpar : parAt l k = (p : Int)) (hc : (above l ((k : Int) - 1)).contains (p : Int) = true) :
    pathTo l (k + 1) = (pathTo l k).take (above l p).length ++ [(k : Int)] ∧ (above l (k : Int)).length = (above l p).length + 1 := by
  have hs := above_step h hl (k := k) (by omega)
  rw [hpar] at hs
  have hf : Fine l k := fun j hj => h j (by omega)
  rw [show ((k : Int) - 1) = ((k - 1 : Nat) : Int) by omega] at hc
  have := path_step hf (by omega) (k := k - 1) (q := p) (by omega) hc
  refine ⟨?_, by rw [hs]; simp⟩
  unfold pathTo
  rw [show ((k : Int) - 1) = ((k - 1 : Nat) : Int) by omega, this, show (((k + 1 : Nat) : Int) - 1) = (k : Int) by omega, hs]
  simp
theorem path_has {l : List Nd} {k p : Nat} (h : Fine l k) (hl : k ≤ l.length) (hk : 1 ≤ k) (hp : p < k) :
    (above l ((k : Int) - 1)).contains (p : Int) = (decide ((above l p).length ≤ (pathTo l k).length) && ((pathTo l k)[(above l p).length - 1]? == some (p : Int))) := by
  have := on_path h hl (k := k - 1) (q := p) (by omega) hp
  unfold pathTo
  rw [show ((k : Int) - 1) = ((k - 1 : Nat) : Int) by omega, this]
  simp
end Go.Proofs.YtmdnbajbfnhecaaGreatDoor
