/- Lists of integers in memory; append of one thing to a row of the call's own. -/
import Derived.Test.YtmdnbajbfnhecaaGreatDoorMem
set_option linter.unusedVariables false
namespace Go.Proofs.YtmdnbajbfnhecaaGreatDoor
open Go.RowKit
def i64s (l : List Int) : List Value := l.map (.int .i64)
theorem i64s_len (l : List Int) : (i64s l).length = l.length := by simp [i64s]
theorem i64s_snoc (l : List Int) (x : Int) : i64s l ++ [.int .i64 x] = i64s (l ++ [x]) := by simp [i64s]
theorem Seg.i64 {w : World} {B : Nat} {a : Option Addr} {zs : List Int} (h : Seg w B a (i64s zs)) {k : Nat} (hk : k < zs.length) :
   ∃ b off, a = some ⟨b, off, none⟩ ∧ b < B ∧ w.cell? ⟨b, off + k, none⟩ = some (.int .i64 zs[k]) := by
  obtain ⟨b, off, e, hb, hc⟩ := h (by unfold i64s; intro e; simp at e; subst e; simp at hk)
  exact ⟨b, off, e, hb, hc k _ (by unfold i64s; simp [hk])⟩
theorem seg_new (w : World) (e : TypeId) (cs : Array Value) : Seg (w.alloc (.cells cs e)) (w.heap.size + 1) (some ⟨w.heap.size, 0, none⟩) cs.toList := fun _ =>
  ⟨w.heap.size, 0, rfl, by omega, fun j u hu => by
    rw [Nat.zero_add, cell_of_row _ _ _ _ _ (0, 0) (heap_alloc_new w _)]
    simpa using hu⟩
theorem own_frame {S : Nat → Prop} {w w' : World} {base : Nat} {e : TypeId} {size n : Nat} {v : Value} {xs : List Value} (h : w.ownsRow base e size v n xs) (hf : Frame S w w') (hs : ∀ g, v.ownBlock = some g → ¬ S g) : w'.ownsRow base e size v n xs := by
  refine ⟨h.1, ?_⟩
  rcases h.2 with h2 | ⟨g, cap, cur, a1, a2, a3, a4⟩
  · exact .inl h2
  · exact .inr ⟨g, cap, cur, a1, a2, (hf.heap (lt_of_heap a3) (hs g (by rw [a1]; rfl))).trans a3, a4⟩
theorem own_keep {w w' : World} {base : Nat} {e : TypeId} {size n : Nat} {v : Value} {xs : List Value} (h : w.ownsRow base e size v n xs) (hk : ∀ g, v.ownBlock = some g → g < w.heap.size → w'.heap[g]? = w.heap[g]?) : w'.ownsRow base e size v n xs := by
  refine ⟨h.1, ?_⟩
  rcases h.2 with h2 | ⟨g, cap, cur, a1, a2, a3, a4⟩
  · exact .inl h2
  · exact .inr ⟨g, cap, cur, a1, a2, (hk g (by rw [a1]; rfl) (lt_of_heap a3)).trans a3, a4⟩
/-- What a push leaves. -/
structure Pushed (base : Nat) (v : Value) (w w' : World) : Prop where
  low : Below base w w'
  row : ∀ g, g < w.heap.size → v.ownBlock ≠ some g → w'.heap[g]? = w.heap[g]?
/-- append of one thing to a row of the call's own: the thing lies in a block of its own. -/
theorem wpList_push {P : Program} {wr : World} {ops : Array Oper} {rest : List Oper} {o : Oper} {a : Act} {Q : Exit → Act → World → Prop} (hgd : o.guard = none) (s x : Operand) (t : TypeId)
    (ho : o.op = .call { callee := .builtin .append, args := #[s, x], argTypes := #[t, t] })
    (base : Nat) (e : TypeId) (i : TypeInfo) (z : Value) (size bytes : Nat) (ht : P.underlying t = some (.slice e)) (hi : P.info? e = some i) (hz : i.zero = some z)
    (hsize : i.size = size) (hby : i.bytes = bytes) (hzs : z.cells.size = size) (hsz : 0 < size)
    (v : Value) (n : Nat) (xs : List Value) (hs : a.eval s = v) (hown : wr.ownsRow base e size v n xs)
    (cs : Array Value) (hx : a.eval x = .slice (some ⟨wr.heap.size, 0, none⟩) 1 1) (hl : cs.toList.length = size) (h1 : ∀ u ∈ cs.toList, u.oneCell' = true)
    (h63 : n + 1 ≤ maxLen) (hbytes : (n + 1) * bytes ≤ 140737488355328) (hbase : base ≤ wr.heap.size)
    (h : ∀ A' c' w', w'.ownsRow base e size (.slice A' (n + 1) c') (n + 1) (xs ++ cs.toList) → Pushed base v wr w' → wpList P ops Q rest (a.put o.dst (.slice A' (n + 1) c')) w') :
    wpList P ops Q (o :: rest) a (wr.alloc (.cells cs e)) := by
  refine wpList_append_seg (P := P) _ hgd s x t ho base e i z size bytes ht hi hz hsize hby hzs hsz v n xs hs (hown.alloc _) (wr.heap.size + 1) (some ⟨wr.heap.size, 0, none⟩) 1 1 cs.toList hx (by rw [hl, Nat.one_mul]) (seg_new wr e cs) h1 h63 hbytes (by simp; omega) ?_
  intro v' w' h2 h3 _
  obtain ⟨A', c', rfl⟩ := own_shape h2
  exact h A' c' w' h2 ⟨((Below.refl base wr).alloc hbase _).grown h3 (by simp; omega) (fun g hg => (hown.lt g hg).1),
    fun g hg hne => (h3.block g (by simp; omega) (fun e => hne e.symm)).trans (Below.heap_alloc _ _ _ hg)⟩
end Go.Proofs.YtmdnbajbfnhecaaGreatDoor
