/- A list of nodes in memory. -/
import Derived.Test.YtmdnbajbfnhecaaGreatDoorBase
import Derived.Test.YtmdnbajbfnhecaaGreatDoorLaw
set_option linter.unusedVariables false
namespace Go.Proofs.YtmdnbajbfnhecaaGreatDoor
open Go.RowKit
/-! A list of nodes in memory. -/
/-- A node as it lies: its data, and where its props lie. -/
structure Nm where
  d : Nd
  A : Option Addr
  c : Nat
def Pr.cells (x : Pr) : List Value := [.string x.n, .string x.v]
def prCells (l : List Pr) : List Value := l.flatMap Pr.cells
def Nm.cells (x : Nm) : List Value := [.int .i64 x.d.p, .string x.d.n, .slice x.A x.d.ps.length x.c]
def nmCells (l : List Nm) : List Value := l.flatMap Nm.cells
def dat (l : List Nm) : List Nd := l.map (·.d)
theorem pr_len (x : Pr) : (Pr.cells x).length = 2 := rfl
theorem nm_len (x : Nm) : (Nm.cells x).length = 3 := rfl
theorem prCells_len (l : List Pr) : (prCells l).length = l.length * 2 := flat_length _ 2 pr_len l
theorem nmCells_len (l : List Nm) : (nmCells l).length = l.length * 3 := flat_length _ 3 nm_len l
theorem dat_len (l : List Nm) : (dat l).length = l.length := by simp [dat]
theorem dat_get (l : List Nm) {k : Nat} (h : k < l.length) : (dat l)[k]'(by rw [dat_len]; exact h) = l[k].d := by simp [dat]
theorem one_pr (l : List Pr) : ∀ u ∈ prCells l, u.oneCell' = true := by
  intro u hu
  obtain ⟨x, _, hx⟩ := List.mem_flatMap.1 hu
  simp [Pr.cells] at hx
  rcases hx with rfl | rfl <;> rfl
structure Nodes (w : World) (B : Nat) (a : Option Addr) (l : List Nm) : Prop where
  seg : Seg w B a (nmCells l)
  props : ∀ x ∈ l, Seg w B x.A (prCells x.d.ps)
section
variable {w w' : World} {B B' : Nat} {a : Option Addr} {l : List Nm} {ps : List Pr}
theorem Nodes.below (h : Nodes w B a l) (hb : Below B w w') : Nodes w' B a l := ⟨h.seg.below hb, fun x hx => (h.props x hx).below hb⟩
theorem Nodes.more (h : Nodes w B a l) (hB : B ≤ B') : Nodes w B' a l := ⟨h.seg.more hB, fun x hx => (h.props x hx).more hB⟩
theorem Nodes.drewN (h : Nodes w B a l) (k : Nat) : Nodes (w.drewN k) B a l := ⟨h.seg, h.props⟩
theorem Nodes.at_ (h : Nodes w B a l) {k : Nat} (hk : k < l.length) : ∃ b off, a = some ⟨b, off, none⟩ ∧ b < B ∧ w.cell? ⟨b, off + k * 3, none⟩ = some (.int .i64 l[k].d.p) ∧ w.cell? ⟨b, off + k * 3 + 1, none⟩ = some (.string l[k].d.n) ∧
    w.cell? ⟨b, off + k * 3 + 2, none⟩ = some (.slice l[k].A l[k].d.ps.length l[k].c) ∧ Seg w B l[k].A (prCells l[k].d.ps) := by
  obtain ⟨b, off, e, hb, hc⟩ := h.seg.thing (f := Nm.cells) (m := 3) nm_len (by omega) hk
  exact ⟨b, off, e, hb, hc 0 _ rfl, hc 1 _ rfl, hc 2 _ rfl, h.props _ (List.getElem_mem hk)⟩
theorem Seg.pr {A : Option Addr} (h : Seg w B A (prCells ps)) {k : Nat} (hk : k < ps.length) : ∃ b off, A = some ⟨b, off, none⟩ ∧ b < B ∧ w.cell? ⟨b, off + k * 2, none⟩ = some (.string ps[k].n) ∧ w.cell? ⟨b, off + k * 2 + 1, none⟩ = some (.string ps[k].v) := by
  obtain ⟨b, off, e, hb, hc⟩ := h.thing (f := Pr.cells) (m := 2) pr_len (by omega) hk
  exact ⟨b, off, e, hb, hc 0 _ rfl, hc 1 _ rfl⟩
end
/-- All texts are of a size that memory holds. -/
def Small (l : List Nd) : Prop := ∀ x ∈ l, x.n.size ≤ 1125899906842624 ∧ ∀ y ∈ x.ps, y.n.size ≤ 1125899906842624 ∧ y.v.size ≤ 1125899906842624
end Go.Proofs.YtmdnbajbfnhecaaGreatDoor
