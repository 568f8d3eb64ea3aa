/- Names lengthened, values written over. -/
import Derived.Test.YtmdnbajbfnhecaaCutsA
import Derived.Test.YtmdnbajbfnhecaaChecksW
set_option linter.unusedVariables false
namespace Go.Proofs.Ytmdnbajbfnhecaa
open Go.RowKit
section
variable {w : World} {base n c : Nat} {A : Option Addr} {l : List Nm}
theorem OwnN.setV (h : OwnN w base A n c l) {k : Nat} (hk : k < l.length) {j : Nat} (hj : j < l[k].d.ps.length) (s : ByteArray) : ∃ g, l[k].A = some ⟨g, 0, none⟩ ∧ base ≤ g ∧ w.cell? ⟨g, j * 2 + 1, none⟩ = some (.string l[k].d.ps[j].v) ∧ w.frozen? ⟨g, j * 2 + 1, none⟩ = false ∧
    OwnN (w.setCell ⟨g, j * 2 + 1, none⟩ (.string s)) base A n c (l.set k (l[k].setN j ⟨l[k].d.ps[j].n, s⟩)) := by
  have hrow := h.props l[k] (List.getElem_mem hk)
  have hn : 0 < l[k].d.ps.length := by omega
  obtain ⟨g, cap, hv, hb, hlt⟩ := hrow.form hn
  unfold Nm.val at hv
  injection hv with hA _ hc
  have hv2 : l[k].val = .slice (some ⟨g, 0, none⟩) l[k].d.ps.length cap := by unfold Nm.val; rw [hA, hc]
  rw [hv2] at hrow
  have hcell : w.cell? ⟨g, j * 2 + 1, none⟩ = some (.string l[k].d.ps[j].v) := by
    rw [hrow.cellAt (j * 2 + 1) (by omega)]
    exact flat_get Pr.cells 2 pr_len l[k].d.ps j 1 hj (by omega)
  refine ⟨g, hA, hb, hcell, hrow.frozenAt _, ?_⟩
  have hst := hrow.stored (j * 2 + 1) (.string s)
  have hset : (prCells l[k].d.ps).set (j * 2 + 1) (.string s) = prCells (l[k].d.ps.set j ⟨l[k].d.ps[j].n, s⟩) := flat_set Pr.cells 2 pr_len l[k].d.ps j 1 ⟨l[k].d.ps[j].n, s⟩ (.string s) hj (by omega) rfl
  have hcells : nmCells (l.set k (l[k].setN j ⟨l[k].d.ps[j].n, s⟩)) = nmCells l := by
    have e := flat_set Nm.cells 3 nm_len l k 0 (l[k].setN j ⟨l[k].d.ps[j].n, s⟩) (.int .i64 l[k].d.p) hk (by omega) (by simp [Nm.cells, Nm.setN])
    unfold nmCells
    rw [← e]
    have e2 := flat_get Nm.cells 3 nm_len l k 0 hk (by omega)
    apply List.ext_getElem (by simp)
    intro i h1 h2
    by_cases hik : k * 3 + 0 = i
    · subst hik
      rw [List.getElem_set_self]
      have : (List.flatMap Nm.cells l)[k * 3 + 0]? = some (Value.int .i64 l[k].d.p) := e2
      rw [List.getElem?_eq_getElem h2] at this
      exact (Option.some.inj this).symm
    · rw [List.getElem_set_ne hik]
  refine ⟨by simp [h.len], ?_, ?_, pair_set hk (setN_val _ _ _) h.apart⟩
  · rw [hcells]
    exact own_keep h.row fun g' hg' _ => Below.heap_setCell _ _ _ _ (by
      intro e
      subst e
      exact own_types (h.props l[k] (List.getElem_mem hk)) h.row (by decide) _ (by rw [hv2]; rfl) hg')
  · intro x hx
    obtain ⟨i, hi, rfl⟩ := List.mem_iff_getElem.1 hx
    by_cases hik : k = i
    · subst hik
      simp only [List.getElem_set_self]
      have e1 : (l[k].setN j ⟨l[k].d.ps[j].n, s⟩).val = .slice (some ⟨g, 0, none⟩) l[k].d.ps.length cap := by rw [setN_val, hv2]
      rw [e1]
      have e2 : (l[k].setN j ⟨l[k].d.ps[j].n, s⟩).d.ps = l[k].d.ps.set j ⟨l[k].d.ps[j].n, s⟩ := rfl
      rw [e2, List.length_set, ← hset]
      exact hst.1
    · have hi2 : i < l.length := by simpa using hi
      simp only [List.getElem_set_ne hik]
      exact own_keep (h.props _ (List.getElem_mem hi2)) fun g' hg' _ => Below.heap_setCell _ _ _ _ (by
        intro e
        subst e
        exact pair_at h.apart hi2 hk (Ne.symm hik) (by rw [hv2]; rfl) hg')
end
theorem blk_set {A : Option Addr} {l : List Nm} {k : Nat} (hk : k < l.length) {y : Nm} (hv : y.val = l[k].val) {g : Nat} (h : Blk A (l.set k y) g) : Blk A l g := by
  rcases h with h | ⟨x, hx, h⟩
  · exact .inl h
  · obtain ⟨i, hi, rfl⟩ := List.mem_iff_getElem.1 hx
    by_cases hik : k = i
    · subst hik
      rw [List.getElem_set_self, hv] at h
      exact .inr ⟨_, List.getElem_mem hk, h⟩
    · rw [List.getElem_set_ne hik] at h
      exact .inr ⟨_, List.getElem_mem (by simpa using hi), h⟩
/-- Sizes, while names are lengthened and values are written over. -/
def Bnd (k : Nat) (l : List Nm) : Prop := ∀ i (h : i < l.length), (Lit.int .i64 l[i].d.p).wf = true ∧ l[i].d.n.size ≤ (if i < k then 140737488351233 else 140737488351232) ∧ l[i].d.ps.length * 32 ≤ 140737488351232 ∧
  ∀ y ∈ l[i].d.ps, y.n.size ≤ 140737488351232 ∧ y.v.size ≤ 140737488351232
theorem Lim.bnd {l : List Nm} (h : Lim 0 0 l) : Bnd 0 l := fun i hi => by
  obtain ⟨h1, h2, h3, h4⟩ := h i hi
  refine ⟨h1, by rw [if_neg (by omega)]; exact h2, h3, fun y hy => ?_⟩
  obtain ⟨m, hm, rfl⟩ := List.mem_iff_getElem.1 hy
  obtain ⟨h5, h6⟩ := h4 m hm
  exact ⟨h6.resolve_right (by omega), h5⟩
theorem Bnd.sized {k : Nat} {l : List Nm} (h : Bnd k l) (hn : l.length * 48 ≤ 140737488355328) : Sized l := by
  have h2 : ∀ i (hi : i < l.length), l[i].d.n.size ≤ 140737488351233 := fun i hi => by
    have := (h i hi).2.1
    split at this <;> omega
  refine ⟨hn, fun x hx => ?_, fun x hx => ?_, fun x hx => ?_⟩
  · obtain ⟨y, hy, rfl⟩ := mem_dat hx
    obtain ⟨i, hi, rfl⟩ := List.mem_iff_getElem.1 hy
    have := h2 i hi
    refine ⟨by omega, fun y hy => ?_⟩
    have := (h i hi).2.2.2 y hy
    omega
  · obtain ⟨i, hi, rfl⟩ := List.mem_iff_getElem.1 hx
    have := (h i hi).2.2.1
    omega
  · obtain ⟨i, hi, rfl⟩ := List.mem_iff_getElem.1 hx
    exact (h i hi).1
theorem Bnd.dat {k : Nat} {l l' : List Nm} (h : Bnd k l) (hd : dat l' = dat l) : Bnd k l' := fun i hi => by
  have hl : l'.length = l.length := by have := congrArg List.length hd; rwa [dat_len, dat_len] at this
  have hi2 : i < l.length := by omega
  have e : l'[i].d = l[i].d := by
    rw [← dat_get l' hi, ← dat_get l hi2]
    congr 1
  have h2 := h i hi2
  rw [← e] at h2
  exact h2
theorem Bnd.name {k : Nat} {l : List Nm} (h : Bnd k l) (hk : k < l.length) {s : ByteArray} (hs : s.size ≤ l[k].d.n.size + 1) : Bnd (k + 1) (l.set k ⟨⟨l[k].d.p, s, l[k].d.ps⟩, l[k].A, l[k].c⟩) := fun i hi => by
  have hi2 : i < l.length := by simpa using hi
  by_cases e : k = i
  · subst e
    simp only [List.getElem_set_self]
    obtain ⟨h1, h2, h3, h4⟩ := h k hk
    rw [if_neg (by omega)] at h2
    exact ⟨h1, by rw [if_pos (by omega)]; omega, h3, h4⟩
  · simp only [List.getElem_set_ne e]
    obtain ⟨h1, h2, h3, h4⟩ := h i hi2
    refine ⟨h1, ?_, h3, h4⟩
    split at h2
    · rw [if_pos (by omega)]; exact h2
    · split <;> omega
theorem Bnd.value {k : Nat} {l : List Nm} (h : Bnd k l) {i j : Nat} (hi : i < l.length) (hj : j < l[i].d.ps.length) : Bnd k (l.set i (l[i].setN j ⟨l[i].d.ps[j].n, ⟨#[121]⟩⟩)) := fun i' hi' => by
  have hi2 : i' < l.length := by simpa using hi'
  by_cases e : i = i'
  · subst e
    simp only [List.getElem_set_self]
    obtain ⟨h1, h2, h3, h4⟩ := h i hi
    refine ⟨h1, h2, by simp [Nm.setN]; omega, fun y hy => ?_⟩
    unfold Nm.setN at hy
    rcases List.mem_or_eq_of_mem_set hy with hy | rfl
    · exact h4 y hy
    · exact ⟨(h4 _ (List.getElem_mem hj)).1, by show ByteArray.size ⟨#[121]⟩ ≤ _; decide⟩
  · simp only [List.getElem_set_ne e]
    exact h i' hi2
theorem Bnd.props {k : Nat} {l : List Nm} (h : Bnd k l) : ∀ x ∈ l, x.d.ps.length * 32 ≤ 140737488351232 := fun x hx => by
  obtain ⟨i, hi, rfl⟩ := List.mem_iff_getElem.1 hx
  exact (h i hi).2.2.1
end Go.Proofs.Ytmdnbajbfnhecaa
