/- Nodes in memory of the call's own. -/
import Derived.Test.YtmdnbajbfnhecaaGreatDoorRefD
set_option linter.unusedVariables false
namespace Go.Proofs.YtmdnbajbfnhecaaGreatDoor
open Go.RowKit
theorem own_empty (w : World) (B e size g : Nat) (hg : g = w.heap.size) (hB : B ≤ w.heap.size) : (w.alloc (.cells #[] e)).ownsRow B e size (.slice (some ⟨g, 0, none⟩) 0 0) 0 [] := by
  subst hg
  exact ⟨by simp, .inr ⟨w.heap.size, 0, #[], rfl, hB, heap_alloc_new w _, Nat.le_refl _, by unfold maxLen; omega, by simp, by simp⟩⟩
theorem own_types {w : World} {b b' : Nat} {e e' : TypeId} {s s' n n' : Nat} {v v' : Value} {xs xs' : List Value} (h : w.ownsRow b e s v n xs) (h' : w.ownsRow b' e' s' v' n' xs') (hne : e ≠ e') :
    ∀ g, v.ownBlock = some g → v'.ownBlock ≠ some g := by
  intro g hg hg'
  rcases h.2 with ⟨rfl, _⟩ | ⟨g1, c1, cur1, rfl, _, a1, _⟩
  · cases hg
  rcases h'.2 with ⟨rfl, _⟩ | ⟨g2, c2, cur2, rfl, _, a2, _⟩
  · cases hg'
  injection hg with hg
  injection hg' with hg'
  subst hg
  subst hg'
  rw [a1] at a2
  injection a2 with a2
  injection a2 with _ a2
  exact hne a2
theorem own_base {w : World} {base base' : Nat} {e : TypeId} {size n : Nat} {v : Value} {xs : List Value} (h : w.ownsRow base e size v n xs) (hb : base' ≤ base) : w.ownsRow base' e size v n xs := by
  refine ⟨h.1, ?_⟩
  rcases h.2 with h2 | ⟨g, cap, cur, a1, a2, a3⟩
  · exact .inl h2
  · exact .inr ⟨g, cap, cur, a1, by omega, a3⟩
def Nm.val (x : Nm) : Value := .slice x.A x.d.ps.length x.c
/-- Nodes in memory of the call's own, from block 'base' on. -/
structure OwnN (w : World) (base : Nat) (A : Option Addr) (n c : Nat) (l : List Nm) : Prop where
  len : n = l.length
  row : w.ownsRow base 50 3 (.slice A n c) n (nmCells l)
  props : ∀ x ∈ l, w.ownsRow base 57 2 x.val x.d.ps.length (prCells x.d.ps)
  apart : l.Pairwise fun x y => ∀ g, x.val.ownBlock = some g → y.val.ownBlock ≠ some g
section
variable {w w' : World} {base n c : Nat} {A : Option Addr} {l : List Nm}
theorem OwnN.keep (h : OwnN w base A n c l) (hk : ∀ g, base ≤ g → g < w.heap.size → w'.heap[g]? = w.heap[g]?) : OwnN w' base A n c l :=
  ⟨h.len, own_keep h.row fun g hg hlt => hk g (h.row.lt g hg).1 hlt, fun x hx => own_keep (h.props x hx) fun g hg hlt => hk g ((h.props x hx).lt g hg).1 hlt, h.apart⟩
theorem OwnN.below (h : OwnN w base A n c l) (hb : Below w.heap.size w w') : OwnN w' base A n c l := h.keep fun g _ hlt => hb.block g hlt
theorem OwnN.nodes (h : OwnN w base A n c l) : Nodes w w.heap.size A l := ⟨own_seg h.row, fun x hx => own_seg (h.props x hx)⟩
theorem OwnN.base_ (h : OwnN w base A n c l) {b : Nat} (hb : b ≤ base) : OwnN w b A n c l := ⟨h.len, own_base h.row hb, fun x hx => own_base (h.props x hx) hb, h.apart⟩
theorem own_none (w : World) (base : Nat) : OwnN w base none 0 0 [] := ⟨rfl, World.ownsRow_nil _ _ _ _, by simp, List.Pairwise.nil⟩
/-- One node more, its props in a block of their own. -/
theorem OwnN.snoc {w4 w5 : World} {B : Nat} {x : Nm} {A5 : Option Addr} {c5 : Nat} (h : OwnN w base A n c l) (h4 : Below w.heap.size w w4) (hB : w.heap.size ≤ B)
    (hx : w4.ownsRow B 57 2 x.val x.d.ps.length (prCells x.d.ps)) (h5 : w5.ownsRow base 50 3 (.slice A5 (n + 1) c5) (n + 1) (nmCells (l ++ [x]))) (hp : Pushed base (.slice A n c) w4 w5) (hbase : base ≤ w.heap.size) : OwnN w5 base A5 (n + 1) c5 (l ++ [x]) := by
  have hrow4 : w4.ownsRow base 50 3 (.slice A n c) n (nmCells l) := own_keep h.row fun g _ hlt => h4.block g hlt
  have hpr4 : ∀ y ∈ l, w4.ownsRow base 57 2 y.val y.d.ps.length (prCells y.d.ps) := fun y hy => own_keep (h.props y hy) fun g _ hlt => h4.block g hlt
  refine ⟨by simp [h.len], h5, ?_, ?_⟩
  · intro y hy
    rcases List.mem_append.1 hy with hy | hy
    · exact own_keep (hpr4 y hy) fun g hg hlt => hp.row g hlt (own_types (hpr4 y hy) hrow4 (by decide) g hg)
    · obtain rfl : y = x := by simpa using hy
      exact own_base (own_keep hx fun g hg hlt => hp.row g hlt (own_types hx hrow4 (by decide) g hg)) (by omega)
  · rw [List.pairwise_append]
    refine ⟨h.apart, List.pairwise_singleton _ _, fun y hy z hz g hg hg2 => ?_⟩
    obtain rfl : z = x := by simpa using hz
    have a1 := ((h.props y hy).lt g hg).2
    have a2 := (hx.lt g hg2).1
    omega
end
end Go.Proofs.YtmdnbajbfnhecaaGreatDoor
