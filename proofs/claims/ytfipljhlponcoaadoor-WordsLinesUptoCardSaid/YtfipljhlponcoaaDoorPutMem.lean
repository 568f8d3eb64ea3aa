/- Rows and marks: memory. -/
import Derived.Test.YtfipljhlponcoaaDoorPutLaw
import Derived.Deep.RegionHeld3
set_option linter.unusedVariables false
namespace Go.Proofs.YtfipljhlponcoaaDoor
open Go.RowKit
theorem step_append_seg {P : Program} {w : World} {ops : Array Oper} {o : Oper} {a : Act} {K : Act → World → Prop} {Q : Exit → Act → World → Prop} {E : Prop} (hgd : o.guard = none) (s x : Operand) (t : TypeId)
    (ho : o.op = .call { callee := .builtin .append, args := #[s, x], argTypes := #[t, t] })
    (base : Nat) (e : TypeId) (i : TypeInfo) (z : Value) (size bytes : Nat) (ht : P.underlying t = some (.slice e)) (hi : P.info? e = some i) (hz : i.zero = some z)
    (hsize : i.size = size) (hby : i.bytes = bytes) (hzs : z.cells.size = size) (hsz : 0 < size)
    (v : Value) (n : Nat) (xs : List Value) (hs : a.eval s = v) (hown : w.ownsRow base e size v n xs)
    (B : Nat) (A : Option Addr) (m c : Nat) (news : List Value) (hx : a.eval x = .slice A m c) (hl : news.length = m * size) (hr : Seg w B A news) (h1 : ∀ u ∈ news, u.oneCell' = true)
    (h63 : n + m ≤ maxLen) (hbytes : (n + m) * bytes ≤ 140737488355328) (hbase : base ≤ w.heap.size)
    (h : ∀ v' w', w'.ownsRow base e size v' (n + m) (xs ++ news) → w.grownBy w' v.ownBlock → (v' = .slice none 0 0 → v = .slice none 0 0) → K (a.put o.dst v') w') :
    if Region.wanted o (yielded ops a.tmps) = true then Oper.wp P o a w K Q else E := by
  have hw : Region.wanted o (yielded ops a.tmps) = true := by simp [Region.wanted, hgd]
  rw [if_pos hw]
  obtain ⟨v', w', hrun, h2, h3, h4⟩ := run_append_seg (P := P) w base t o.type e i z size bytes ht hi hz hsize hby hzs hsz v n xs hown B A m c news hl hr h1 h63 hbytes hbase
  unfold Oper.wp execOp
  simp only [ho, resolve, invoke, builtin, Sem.run_bind, Sem.run_pure, Result.andThen_ok, List.map_toArray, List.map_cons, List.map_nil, hs, hx, hrun]
  exact h v' w' h2 h3 h4
/-- A text's bytes in a row that is told from every row of the call's own by its mark. -/
def Frz (w : World) (h : Nat) (l : List Nat) : Prop := ∃ row f, w.heap[h]? = some (.cells row 5 (f, f + 1)) ∧ ∀ k (hk : k < l.length), row[k]? = some (.int .u8 (l[k] : Int))
theorem Frz.new {P : Program} (w : World) (src dst : TypeId) (s : ByteArray) (hs : P.underlying src = some .string) (hd : P.underlying dst = some (.slice 5)) (he : P.underlying 5 = some (.int .u8)) :
    ∃ cap W, (convert src dst (.string s)).run P w = .ok (.slice (some ⟨w.heap.size, 0, none⟩) s.size cap) W ∧ Below w.heap.size w W ∧ w.heap.size < W.heap.size ∧ Frz W w.heap.size (nl s) := by
  refine ⟨_, _, run_bytes_of_string w src dst 5 s hs hd he, (Below.refl _ _).drew.alloc (Nat.le_refl _) _, by simp, _, _, heap_alloc_new w.drew _, fun k hk => ?_⟩
  have h : k < s.size := by rw [← nl_len]; exact hk
  unfold bytesRow
  rw [Array.getElem?_append_left (by simpa using h)]
  simp [nl, h]
theorem Frz.cell {w : World} {h k : Nat} {l : List Nat} (hf : Frz w h l) (hk : k < l.length) : w.cell? ⟨h, k, none⟩ = some (.int .u8 (l[k] : Int)) := by
  obtain ⟨row, f, h1, h2⟩ := hf
  rw [cell_of_row _ _ _ _ _ _ h1]
  exact h2 k hk
theorem Frz.lt {w : World} {h : Nat} {l : List Nat} (hf : Frz w h l) : h < w.heap.size := by
  obtain ⟨row, f, h1, h2⟩ := hf
  exact (Array.getElem?_eq_some_iff.1 h1).1
theorem Frz.alloc {w : World} {h : Nat} {l : List Nat} (hf : Frz w h l) (o : Obj) : Frz (w.alloc o) h l := by
  have hlt := hf.lt
  obtain ⟨row, f, h1, h2⟩ := hf
  exact ⟨row, f, (Below.heap_alloc _ _ _ hlt).trans h1, h2⟩
theorem Frz.grown {w w' : World} {h n base size : Nat} {e : TypeId} {v : Value} {xs : List Value} {l : List Nat} (hf : Frz w h l) (ho : w.ownsRow base e size v n xs) (hg : w.grownBy w' v.ownBlock) : Frz w' h l := by
  have hlt := hf.lt
  obtain ⟨row, f, h1, h2⟩ := hf
  refine ⟨row, f, (hg.block h hlt fun hh => ?_).trans h1, h2⟩
  rcases ho.2 with ⟨h3, _⟩ | ⟨g, cap, cur, h3, _, h4, _⟩
  · subst h3; cases hh
  · subst h3
    injection hh with hh
    simp only at hh
    subst hh
    rw [h1] at h4
    injection h4 with h4
    injection h4 with _ _ h4
    injection h4 with h5 h6
    omega
/-- A row made there and then. -/
theorem seg_new {w : World} {cs : Array Value} {e : TypeId} : Seg (w.alloc (.cells cs e)) (w.heap.size + 1) (some ⟨w.heap.size, 0, none⟩) cs.toList := fun _ => by
  refine ⟨_, _, rfl, by omega, fun j u hu => ?_⟩
  rw [Nat.zero_add, cell_of_row _ _ _ _ _ (0, 0) (heap_alloc_new w _)]
  simpa using hu
end Go.Proofs.YtfipljhlponcoaaDoor
