/- Writing into nodes of the call's own. Writing into nodes of the call's own, as the walk asks for it. -/
import Derived.Test.YtmdnbajbfnhecaaGreatDoorOwn
import Derived.Laws.OwnMore
set_option linter.unusedVariables false
namespace Go.Proofs.YtmdnbajbfnhecaaGreatDoor
open Go.RowKit
/-! Writing into nodes of the call's own. -/
def Nm.setP (x : Nm) (p : Int) : Nm := ⟨⟨p, x.d.n, x.d.ps⟩, x.A, x.c⟩
def Nm.setN (x : Nm) (j : Nat) (y : Pr) : Nm := ⟨⟨x.d.p, x.d.n, x.d.ps.set j y⟩, x.A, x.c⟩
theorem setP_val (x : Nm) (p : Int) : (x.setP p).val = x.val := rfl
theorem setN_val (x : Nm) (j : Nat) (y : Pr) : (x.setN j y).val = x.val := by simp [Nm.setN, Nm.val]
theorem pair_set {l : List Nm} {k : Nat} {y : Nm} (hk : k < l.length) (hv : y.val = l[k].val) (h : l.Pairwise fun x y => ∀ g, x.val.ownBlock = some g → y.val.ownBlock ≠ some g) :
    (l.set k y).Pairwise fun x y => ∀ g, x.val.ownBlock = some g → y.val.ownBlock ≠ some g := by
  have e : (l.set k y).map Nm.val = l.map Nm.val := by
    rw [List.map_set, hv]
    apply List.ext_getElem (by simp)
    intro i h1 h2
    by_cases hik : k = i
    · subst hik; simp
    · simp [hik]
  have h2 : (l.map Nm.val).Pairwise fun x y => ∀ g, x.ownBlock = some g → y.ownBlock ≠ some g := List.pairwise_map.2 h
  rw [← e] at h2
  exact List.pairwise_map.1 h2
theorem pair_at {l : List Nm} (h : l.Pairwise fun x y => ∀ g, x.val.ownBlock = some g → y.val.ownBlock ≠ some g) {i k : Nat} (hi : i < l.length) (hk : k < l.length) (hne : i ≠ k) {g : Nat} (hg : l[k].val.ownBlock = some g) : l[i].val.ownBlock ≠ some g := by
  rw [List.pairwise_iff_getElem] at h
  rcases Nat.lt_or_gt_of_ne hne with h1 | h1
  · exact fun e => h i k hi hk h1 g e hg
  · exact h k i hk hi h1 g hg
section
variable {w : World} {base n c : Nat} {A : Option Addr} {l : List Nm}
theorem OwnN.setP (h : OwnN w base A n c l) {k : Nat} (hk : k < l.length) (p : Int) : ∃ g, A = some ⟨g, 0, none⟩ ∧ base ≤ g ∧ w.cell? ⟨g, k * 3, none⟩ = some (.int .i64 l[k].d.p) ∧ w.frozen? ⟨g, k * 3, none⟩ = false ∧
    OwnN (w.setCell ⟨g, k * 3, none⟩ (.int .i64 p)) base A n c (l.set k (l[k].setP p)) := by
  have hn : 0 < n := by have := h.len; omega
  obtain ⟨g, cap, hv, hb, hlt⟩ := h.row.form hn
  injection hv with hA hc
  subst hA
  have hl := flat_length Nm.cells 3 nm_len l
  have hcell : w.cell? ⟨g, k * 3, none⟩ = some (.int .i64 l[k].d.p) := by
    rw [h.row.cellAt (k * 3) (by have := h.len; omega)]
    have := flat_get Nm.cells 3 nm_len l k 0 hk (by omega)
    exact this
  refine ⟨g, rfl, hb, hcell, h.row.frozenAt _, ?_⟩
  have hst := h.row.stored (k * 3) (.int .i64 p)
  have hset : (nmCells l).set (k * 3) (.int .i64 p) = nmCells (l.set k (l[k].setP p)) := flat_set Nm.cells 3 nm_len l k 0 (l[k].setP p) (.int .i64 p) hk (by omega) rfl
  refine ⟨by simp [h.len], ?_, ?_, pair_set hk (setP_val _ _) h.apart⟩
  · rw [← hset]; exact hst.1
  · intro x hx
    have hold : ∃ x0 ∈ l, x.val = x0.val ∧ x.d.ps = x0.d.ps := by
      obtain ⟨i, hi, rfl⟩ := List.mem_iff_getElem.1 hx
      by_cases hik : k = i
      · subst hik; exact ⟨l[k], List.getElem_mem hk, by simp [setP_val], by simp [Nm.setP]⟩
      · exact ⟨l[i]'(by simpa using hi), List.getElem_mem _, by simp [hik], by simp [hik]⟩
    obtain ⟨x0, h0, e1, e2⟩ := hold
    rw [e1, e2]
    exact own_keep (h.props x0 h0) fun g' hg' _ => Below.heap_setCell _ _ _ _ (by
      intro e
      subst e
      exact own_types (h.props x0 h0) h.row (by decide) _ hg' rfl)
theorem OwnN.setN (h : OwnN w base A n c l) {k : Nat} (hk : k < l.length) {j : Nat} (hj : j < l[k].d.ps.length) (s : ByteArray) : ∃ g, l[k].A = some ⟨g, 0, none⟩ ∧ base ≤ g ∧ w.cell? ⟨g, j * 2, none⟩ = some (.string l[k].d.ps[j].n) ∧ w.frozen? ⟨g, j * 2, none⟩ = false ∧
    OwnN (w.setCell ⟨g, j * 2, none⟩ (.string s)) base A n c (l.set k (l[k].setN j ⟨s, l[k].d.ps[j].v⟩)) := by
  have hrow := h.props l[k] (List.getElem_mem hk)
  have hn : 0 < l[k].d.ps.length := by omega
  obtain ⟨g, cap, hv, hb, hlt⟩ := hrow.form hn
  unfold Nm.val at hv
  injection hv with hA _ hc
  have hv2 : l[k].val = .slice (some ⟨g, 0, none⟩) l[k].d.ps.length cap := by unfold Nm.val; rw [hA, hc]
  rw [hv2] at hrow
  have hcell : w.cell? ⟨g, j * 2, none⟩ = some (.string l[k].d.ps[j].n) := by
    rw [hrow.cellAt (j * 2) (by omega)]
    exact flat_get Pr.cells 2 pr_len l[k].d.ps j 0 hj (by omega)
  refine ⟨g, hA, hb, hcell, hrow.frozenAt _, ?_⟩
  have hst := hrow.stored (j * 2) (.string s)
  have hset : (prCells l[k].d.ps).set (j * 2) (.string s) = prCells (l[k].d.ps.set j ⟨s, l[k].d.ps[j].v⟩) := flat_set Pr.cells 2 pr_len l[k].d.ps j 0 ⟨s, l[k].d.ps[j].v⟩ (.string s) hj (by omega) rfl
  have hcells : nmCells (l.set k (l[k].setN j ⟨s, l[k].d.ps[j].v⟩)) = nmCells l := by
    have e := flat_set Nm.cells 3 nm_len l k 0 (l[k].setN j ⟨s, l[k].d.ps[j].v⟩) (.int .i64 l[k].d.p) hk (by omega) (by simp [Nm.cells, Nm.setN])
    unfold nmCells
    rw [← e]
    have e2 := flat_get Nm.cells 3 nm_len l k 0 hk (by omega)
    apply List.ext_getElem (by simp)
    intro i h1 h2
    by_cases hik : k * 3 + 0 = i
    · subst hik
      rw [List.getElem_set_self]
      have : (List.flatMap Nm.cells l)[k * 3 + 0]? = some (Value.int .i64 l[k].d.p) := e2
      rw [List.getElem?_eq_getElem h2] at this
      exact (Option.some.inj this).symm
    · rw [List.getElem_set_ne hik]
  refine ⟨by simp [h.len], ?_, ?_, pair_set hk (setN_val _ _ _) h.apart⟩
  · rw [hcells]
    exact own_keep h.row fun g' hg' _ => Below.heap_setCell _ _ _ _ (by
      intro e
      subst e
      exact own_types (h.props l[k] (List.getElem_mem hk)) h.row (by decide) _ (by rw [hv2]; rfl) hg')
  · intro x hx
    obtain ⟨i, hi, rfl⟩ := List.mem_iff_getElem.1 hx
    by_cases hik : k = i
    · subst hik
      simp only [List.getElem_set_self]
      have e1 : (l[k].setN j ⟨s, l[k].d.ps[j].v⟩).val = .slice (some ⟨g, 0, none⟩) l[k].d.ps.length cap := by rw [setN_val, hv2]
      rw [e1]
      have e2 : (l[k].setN j ⟨s, l[k].d.ps[j].v⟩).d.ps = l[k].d.ps.set j ⟨s, l[k].d.ps[j].v⟩ := rfl
      rw [e2, List.length_set, ← hset]
      exact hst.1
    · have hi2 : i < l.length := by simpa using hi
      simp only [List.getElem_set_ne hik]
      exact own_keep (h.props _ (List.getElem_mem hi2)) fun g' hg' _ => Below.heap_setCell _ _ _ _ (by
        intro e
        subst e
        exact pair_at h.apart hi2 hk (Ne.symm hik) (by rw [hv2]; rfl) hg')
end
end Go.Proofs.YtmdnbajbfnhecaaGreatDoor

set_option linter.unusedVariables false
namespace Go.Proofs.YtmdnbajbfnhecaaGreatDoor
open Go.RowKit
section
variable {w : World} {base n c : Nat} {A : Option Addr} {l : List Nm}
/-- The cells of a node, and what a store of its parent leaves. -/
theorem OwnN.at_ (h : OwnN w base A n c l) {k : Nat} (hk : k < l.length) : ∃ g, A = some ⟨g, 0, none⟩ ∧ base ≤ g ∧ g < w.heap.size ∧ w.cell? ⟨g, k * 3, none⟩ = some (.int .i64 l[k].d.p) ∧ w.frozen? ⟨g, k * 3, none⟩ = false ∧
    w.cell? ⟨g, k * 3 + 2, none⟩ = some (.slice l[k].A l[k].d.ps.length l[k].c) ∧ ∀ p, OwnN (w.setCell ⟨g, k * 3, none⟩ (.int .i64 p)) base A n c (l.set k (l[k].setP p)) := by
  obtain ⟨g, hA, hb, h1, h2, _⟩ := h.setP hk 0
  have hn : 0 < n := by have := h.len; omega
  refine ⟨g, hA, hb, ?_, h1, h2, ?_, fun p => ?_⟩
  · have := (h.row.lt g (by rw [hA]; rfl)).2
    exact this
  · have hr := h.row
    rw [hA] at hr
    rw [hr.cellAt (k * 3 + 2) (by have := h.len; omega)]
    exact flat_get Nm.cells 3 nm_len l k 2 hk (by omega)
  · obtain ⟨g', hA', _, _, _, h3⟩ := h.setP hk p
    rw [hA] at hA'
    injection hA' with e
    injection e with e
    subst e
    exact h3
theorem OwnN.pr_ (h : OwnN w base A n c l) {k : Nat} (hk : k < l.length) {j : Nat} (hj : j < l[k].d.ps.length) : ∃ g, l[k].A = some ⟨g, 0, none⟩ ∧ base ≤ g ∧ w.cell? ⟨g, j * 2, none⟩ = some (.string l[k].d.ps[j].n) ∧ w.frozen? ⟨g, j * 2, none⟩ = false ∧
    ∀ s, OwnN (w.setCell ⟨g, j * 2, none⟩ (.string s)) base A n c (l.set k (l[k].setN j ⟨s, l[k].d.ps[j].v⟩)) := by
  obtain ⟨g, hA, hb, h1, h2, _⟩ := h.setN hk hj ByteArray.empty
  refine ⟨g, hA, hb, h1, h2, fun s => ?_⟩
  obtain ⟨g', hA', _, _, _, h3⟩ := h.setN hk hj s
  rw [hA] at hA'
  injection hA' with e
  injection e with e
  subst e
  exact h3
theorem OwnN.drewN (h : OwnN w base A n c l) (q : Nat) : OwnN (w.drewN q) base A n c l := h.keep fun _ _ _ => rfl
end
end Go.Proofs.YtmdnbajbfnhecaaGreatDoor
