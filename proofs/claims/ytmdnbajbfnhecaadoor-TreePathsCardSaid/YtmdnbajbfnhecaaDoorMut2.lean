/- Writing into nodes of the call's own, as the walk asks for it. -/
import Derived.Test.YtmdnbajbfnhecaaDoorMut
set_option linter.unusedVariables false
namespace Go.Proofs.YtmdnbajbfnhecaaDoor
open Go.RowKit
section
variable {w : World} {base n c : Nat} {A : Option Addr} {l : List Nm}
/-- The cells of a node, and what a store of its parent leaves. -/
theorem OwnN.at_ (h : OwnN w base A n c l) {k : Nat} (hk : k < l.length) : ∃ g, A = some ⟨g, 0, none⟩ ∧ base ≤ g ∧ g < w.heap.size ∧ w.cell? ⟨g, k * 3, none⟩ = some (.int .i64 l[k].d.p) ∧ w.frozen? ⟨g, k * 3, none⟩ = false ∧
    w.cell? ⟨g, k * 3 + 2, none⟩ = some (.slice l[k].A l[k].d.ps.length l[k].c) ∧ ∀ p, OwnN (w.setCell ⟨g, k * 3, none⟩ (.int .i64 p)) base A n c (l.set k (l[k].setP p)) := by
  obtain ⟨g, hA, hb, h1, h2, _⟩ := h.setP hk 0
  have hn : 0 < n := by have := h.len; omega
  refine ⟨g, hA, hb, ?_, h1, h2, ?_, fun p => ?_⟩
  · have := (h.row.lt g (by rw [hA]; rfl)).2
    exact this
  · have hr := h.row
    rw [hA] at hr
    rw [hr.cellAt (k * 3 + 2) (by have := h.len; omega)]
    exact flat_get Nm.cells 3 nm_len l k 2 hk (by omega)
  · obtain ⟨g', hA', _, _, _, h3⟩ := h.setP hk p
    rw [hA] at hA'
    injection hA' with e
    injection e with e
    subst e
    exact h3
theorem OwnN.pr_ (h : OwnN w base A n c l) {k : Nat} (hk : k < l.length) {j : Nat} (hj : j < l[k].d.ps.length) : ∃ g, l[k].A = some ⟨g, 0, none⟩ ∧ base ≤ g ∧ w.cell? ⟨g, j * 2, none⟩ = some (.string l[k].d.ps[j].n) ∧ w.frozen? ⟨g, j * 2, none⟩ = false ∧
    ∀ s, OwnN (w.setCell ⟨g, j * 2, none⟩ (.string s)) base A n c (l.set k (l[k].setN j ⟨s, l[k].d.ps[j].v⟩)) := by
  obtain ⟨g, hA, hb, h1, h2, _⟩ := h.setN hk hj ByteArray.empty
  refine ⟨g, hA, hb, h1, h2, fun s => ?_⟩
  obtain ⟨g', hA', _, _, _, h3⟩ := h.setN hk hj s
  rw [hA] at hA'
  injection hA' with e
  injection e with e
  subst e
  exact h3
theorem OwnN.drewN (h : OwnN w base A n c l) (q : Nat) : OwnN (w.drewN q) base A n c l := h.keep fun _ _ _ => rfl
end
end Go.Proofs.YtmdnbajbfnhecaaDoor
