/- Nodes above a block; lists put together out of another's nodes. -/
import Derived.Test.YtmdnbajbfnhecaaGreatDoorCutMem
import Derived.Test.YtmdnbajbfnhecaaGreatDoorPush2
set_option linter.unusedVariables false
namespace Go.Proofs.YtmdnbajbfnhecaaGreatDoor
open Go.RowKit
/-- An address at or above a block. -/
def Low (lo : Nat) (A : Option Addr) : Prop := ∀ a, A = some a → lo ≤ a.block
/-- Nodes in memory, all of it at or above block 'lo'. -/
structure NodesL (w : World) (lo : Nat) (A : Option Addr) (n : Nat) (l : List Nm) : Prop where
  len : n = l.length
  nodes : Nodes w w.heap.size A l
  low : nmCells l ≠ [] → Low lo A
  lows : ∀ x ∈ l, prCells x.d.ps ≠ [] → Low lo x.A
theorem Seg.above {w w' : World} {B B' lo : Nat} {A : Option Addr} {xs : List Value} (h : Seg w B A xs) (hlo : xs ≠ [] → Low lo A) (hB : B ≤ B') (hk : ∀ g, lo ≤ g → g < B → w'.heap[g]? = w.heap[g]?) : Seg w' B' A xs := fun hne => by
  obtain ⟨b, off, e, hb, hc⟩ := h hne
  have hl := hlo hne _ e
  refine ⟨b, off, e, by omega, fun j u hu => ?_⟩
  have := hc j u hu
  unfold World.cell? at this ⊢
  rw [hk b hl hb]
  exact this
theorem NodesL.keep {w w' : World} {lo n : Nat} {A : Option Addr} {l : List Nm} (h : NodesL w lo A n l) (hB : w.heap.size ≤ w'.heap.size) (hk : ∀ g, lo ≤ g → g < w.heap.size → w'.heap[g]? = w.heap[g]?) : NodesL w' lo A n l :=
  ⟨h.len, ⟨h.nodes.seg.above h.low hB hk, fun x hx => (h.nodes.props x hx).above (h.lows x hx) hB hk⟩, h.low, h.lows⟩
theorem NodesL.below {w w' : World} {lo n : Nat} {A : Option Addr} {l : List Nm} (h : NodesL w lo A n l) (hb : Below w.heap.size w w') : NodesL w' lo A n l := h.keep hb.size fun g _ hlt => hb.block g hlt
theorem NodesL.lo_ {w : World} {lo lo' n : Nat} {A : Option Addr} {l : List Nm} (h : NodesL w lo A n l) (hl : lo' ≤ lo) : NodesL w lo' A n l :=
  ⟨h.len, h.nodes, fun e a ha => Nat.le_trans hl (h.low e a ha), fun x hx e a ha => Nat.le_trans hl (h.lows x hx e a ha)⟩
theorem low_own {w : World} {base : Nat} {e : TypeId} {size n c : Nat} {A : Option Addr} {xs : List Value} (h : w.ownsRow base e size (.slice A n c) n xs) : Low base A := fun a ha => by
  subst ha
  exact (h.lt a.block rfl).1
theorem OwnN.lowN {w : World} {base n c : Nat} {A : Option Addr} {l : List Nm} (h : OwnN w base A n c l) : NodesL w base A n l :=
  ⟨h.len, h.nodes, fun _ => low_own h.row, fun x hx _ => low_own (h.props x hx)⟩
/-- What the document's cut hands back. -/
def RCutRet (l : List Nd) (i : Int) (w' : World) (base : Nat) (e : Ending) : Prop := ∃ (A1 : Option Addr) (n1 c1 : Nat) (l1 : List Nm) (A2 : Option Addr) (n2 c2 : Nat) (l2 : List Nm),
  e = .returned (.tuple #[.slice A1 n1 c1, .slice A2 n2 c2, .int .i64 (cutE l i)]) ∧ NodesL w' base A1 n1 l1 ∧ NodesL w' base A2 n2 l2 ∧ dat l1 = cutR l i ∧ dat l2 = cutP l i
theorem rcutret_no {l : List Nd} {i : Int} {w' : World} {base : Nat} (h : cutE l i ≠ 0) {r : Int} (hr : r = cutE l i) : RCutRet l i w' base (.returned (.tuple #[.slice none 0 0, .slice none 0 0, .int .i64 r])) := by
  subst hr
  refine ⟨none, 0, 0, [], none, 0, 0, [], rfl, (own_none _ _).lowN, (own_none _ _).lowN, ?_, ?_⟩
  · unfold cutR; rw [if_neg h]; rfl
  · unfold cutP; rw [if_neg h]; rfl
/-- A list that is being put together out of another one's nodes: its row is the call's own, its props are the other's. -/
structure Picked (w : World) (base : Nat) (A : Option Addr) (n c : Nat) (l l0 : List Nm) : Prop where
  len : n = l.length
  row : w.ownsRow base 50 3 (.slice A n c) n (nmCells l)
  from_ : ∀ x ∈ l, ∃ y ∈ l0, x.A = y.A ∧ x.d.ps = y.d.ps
theorem Picked.snoc {w w' : World} {base n c c' : Nat} {A A' : Option Addr} {l l0 : List Nm} (h : Picked w base A n c l l0) {x y : Nm} (hy : y ∈ l0) (e1 : x.A = y.A) (e2 : x.d.ps = y.d.ps)
    (hr : w'.ownsRow base 50 3 (.slice A' (n + 1) c') (n + 1) (nmCells l ++ x.cells)) : Picked w' base A' (n + 1) c' (l ++ [x]) l0 := by
  refine ⟨by rw [List.length_append, h.len]; rfl, ?_, fun z hz => ?_⟩
  · have : nmCells (l ++ [x]) = nmCells l ++ x.cells := by simp [nmCells]
    rw [this]; exact hr
  · rcases List.mem_append.1 hz with hz | hz
    · exact h.from_ z hz
    · obtain rfl : z = x := by simpa using hz
      exact ⟨y, hy, e1, e2⟩
theorem Picked.keep {w w' : World} {base n c : Nat} {A : Option Addr} {l l0 : List Nm} (h : Picked w base A n c l l0) (hk : ∀ g, (Value.slice A n c).ownBlock = some g → g < w.heap.size → w'.heap[g]? = w.heap[g]?) : Picked w' base A n c l l0 :=
  ⟨h.len, own_keep h.row hk, h.from_⟩
theorem Picked.lowN {w w1 : World} {base n c : Nat} {A : Option Addr} {l l0 : List Nm} (h : Picked w base A n c l l0) {lo n0 : Nat} {A0 : Option Addr} (h0 : NodesL w1 lo A0 n0 l0) (hb : Below w1.heap.size w1 w) (hlo : lo ≤ base) : NodesL w lo A n l := by
  refine ⟨h.len, ⟨own_seg h.row, fun x hx => ?_⟩, fun _ a ha => Nat.le_trans hlo (low_own h.row a ha), fun x hx he => ?_⟩
  · obtain ⟨y, hy, e1, e2⟩ := h.from_ x hx
    rw [e1, e2]
    exact ((h0.nodes.props y hy).below hb).more hb.size
  · obtain ⟨y, hy, e1, e2⟩ := h.from_ x hx
    rw [e1]
    exact h0.lows y hy (by rw [← e2]; exact he)
/-- A node's copy with another parent. -/
theorem copy_mem (wr : World) (P p : Int) (s : ByteArray) (xA : Option Addr) (m xc : Nat) :
    ((wr.alloc (.cells #[.int .i64 P, .string s, .slice xA m xc] 50)).cell? ⟨wr.heap.size, 0, none⟩ = some (.int .i64 P) ∧ (wr.alloc (.cells #[.int .i64 P, .string s, .slice xA m xc] 50)).frozen? ⟨wr.heap.size, 0, none⟩ = false) ∧
    (((wr.alloc (.cells #[.int .i64 P, .string s, .slice xA m xc] 50)).setCell ⟨wr.heap.size, 0, none⟩ (.int .i64 p)).cell? ⟨wr.heap.size, 0, none⟩ = some (.int .i64 p) ∧
     ((wr.alloc (.cells #[.int .i64 P, .string s, .slice xA m xc] 50)).setCell ⟨wr.heap.size, 0, none⟩ (.int .i64 p)).cell? ⟨wr.heap.size, 1, none⟩ = some (.string s) ∧
     ((wr.alloc (.cells #[.int .i64 P, .string s, .slice xA m xc] 50)).setCell ⟨wr.heap.size, 0, none⟩ (.int .i64 p)).cell? ⟨wr.heap.size, 2, none⟩ = some (.slice xA m xc)) ∧
    Below wr.heap.size wr ((wr.alloc (.cells #[.int .i64 P, .string s, .slice xA m xc] 50)).setCell ⟨wr.heap.size, 0, none⟩ (.int .i64 p)) ∧
    ((wr.alloc (.cells #[.int .i64 P, .string s, .slice xA m xc] 50)).setCell ⟨wr.heap.size, 0, none⟩ (.int .i64 p)).heap.size = wr.heap.size + 1 := by
  have h0 : RowAt (wr.alloc (.cells #[.int .i64 P, .string s, .slice xA m xc] 50)) wr.heap.size 50 [.int .i64 P, .string s, .slice xA m xc] := ⟨_, heap_alloc_new _ _, rfl⟩
  have h1 := h0.store 0 (.int .i64 p)
  refine ⟨⟨h0.cell (k := 0) (by simp), h0.frozen 0⟩, ⟨h1.cell (k := 0) (by simp), h1.cell (k := 1) (by simp), h1.cell (k := 2) (by simp)⟩, ?_, by simp [World.setCell]⟩
  exact ((Below.refl _ wr).alloc (Nat.le_refl _) _).setCell (Nat.le_refl _) _
end Go.Proofs.YtmdnbajbfnhecaaGreatDoor
