/- Writing into lent cards. -/
import Derived.Test.YtiheibcookcbdaaKept
set_option linter.unusedVariables false
namespace Go.Proofs.Ytiheibcookcbdaa
open Go.RowKit
/-! Writing into lent cards. -/
def Cd.setS (x : Cd) (s : Int) : Cd := ⟨{ x.d with sc := s }, x.A, x.c⟩
def Cd.setT (x : Cd) (j : Nat) (s : ByteArray) : Cd := ⟨{ x.d with ts := x.d.ts.set j s }, x.A, x.c⟩
theorem LentTo.score {w : World} {base n c k : Nat} {A : Option Addr} {l : List Cd} (h : LentTo w base A n c l n) (hk : k < l.length) : ∃ g, A = some ⟨g, 0, none⟩ ∧ base ≤ g ∧ g < w.heap.size ∧ w.cell? ⟨g, k * 7 + 4, none⟩ = some (.int .i8 l[k].d.sc) ∧ w.frozen? ⟨g, k * 7 + 4, none⟩ = false ∧
    w.cell? ⟨g, k * 7 + 3, none⟩ = some (.slice l[k].A l[k].d.ts.length l[k].c) ∧ ∀ s, LentTo (w.setCell ⟨g, k * 7 + 4, none⟩ (.int .i8 s)) base A n c (l.set k (l[k].setS s)) n := by
  have hn : 0 < n := by have := h.len; omega
  obtain ⟨g, hA, hb, hlt⟩ := own_head h.row hn
  subst hA
  have hl := flat_length Cd.cells 7 cd_len l
  refine ⟨g, rfl, hb, hlt, ?_, h.row.frozenAt _, ?_, fun s => ?_⟩
  · rw [h.row.cellAt (k * 7 + 4) (by have := h.len; omega)]
    exact flat_get Cd.cells 7 cd_len l k 4 hk (by omega)
  · rw [h.row.cellAt (k * 7 + 3) (by have := h.len; omega)]
    exact flat_get Cd.cells 7 cd_len l k 3 hk (by omega)
  · have hst := h.row.stored (k * 7 + 4) (.int .i8 s)
    have hset : (cdCells l).set (k * 7 + 4) (.int .i8 s) = cdCells (l.set k (l[k].setS s)) := flat_set Cd.cells 7 cd_len l k 4 (l[k].setS s) (.int .i8 s) hk (by omega) rfl
    have hne : ∀ {b2 n2 : Nat} {v2 : Value} {xs2 : List Value}, w.ownsRow b2 9 1 v2 n2 xs2 → (w.setCell ⟨g, k * 7 + 4, none⟩ (.int .i8 s)).ownsRow b2 9 1 v2 n2 xs2 := fun h2 =>
      own_keep2 h2 fun g2 hg2 _ => Below.heap_setCell _ _ _ _ (by
        intro e
        subst e
        exact own_types h2 h.row (by decide) _ hg2 rfl)
    have hv : ∀ i (hi : i < (l.set k (l[k].setS s)).length), (l.set k (l[k].setS s))[i].A = (l[i]'(by simpa using hi)).A ∧ (l.set k (l[k].setS s))[i].c = (l[i]'(by simpa using hi)).c ∧ (l.set k (l[k].setS s))[i].d.ts = (l[i]'(by simpa using hi)).d.ts := fun i hi => by
      by_cases hik : k = i
      · subst hik; simp [Cd.setS]
      · simp [hik]
    have hts : ∀ i (hi : i < (l.set k (l[k].setS s)).length), i < n → lentTs (w.setCell ⟨g, k * 7 + 4, none⟩ (.int .i8 s)) base (l.set k (l[k].setS s))[i] := fun i hi hin => by
      obtain ⟨e1, e2, e3⟩ := hv i hi
      unfold lentTs
      rw [e1, e2, e3]
      exact hne (h.ts i (by simpa using hi) hin)
    refine ⟨by simp [h.len], by rw [← hset]; exact hst.1, fun x hx => ?_, hts, fun i j hi hj hij hjn g1 hg1 hg2 => ?_⟩
    · obtain ⟨i, hi, rfl⟩ := List.mem_iff_getElem.1 hx
      exact ⟨[.string ⟨#[109, 97, 114, 107]⟩], hts i hi (by have := h.len; simp at hi; omega)⟩
    · refine h.apart i j (by simpa using hi) (by simpa using hj) hij hjn g1 ?_ ?_
      · rw [← hg1]; unfold Cd.val; rw [(hv i hi).1]; exact block_same _ _ _ _ _
      · rw [← hg2]; unfold Cd.val; rw [(hv j hj).1]; exact block_same _ _ _ _ _
theorem LentTo.text {w : World} {base n c k j : Nat} {A : Option Addr} {l : List Cd} (h : LentTo w base A n c l n) (hk : k < l.length) (hj : j < l[k].d.ts.length) : ∃ g, l[k].A = some ⟨g, 0, none⟩ ∧ base ≤ g ∧ g < w.heap.size ∧ w.cell? ⟨g, j, none⟩ = some (.string l[k].d.ts[j]) ∧ w.frozen? ⟨g, j, none⟩ = false ∧
    ∀ s, LentTo (w.setCell ⟨g, j, none⟩ (.string s)) base A n c (l.set k (l[k].setT j s)) n := by
  have hkn : k < n := by have := h.len; omega
  have hrow := h.ts k hk hkn
  obtain ⟨g, hA, hb, hlt⟩ := lent_head hrow
  unfold lentTs at hrow
  rw [hA] at hrow
  refine ⟨g, hA, hb, hlt, ?_, hrow.frozenAt _, fun s => ?_⟩
  · rw [hrow.cellAt j (by omega), List.getElem?_append_left (by rw [strs_len]; exact hj)]
    unfold strs
    simp [hj]
  · have hst := hrow.stored j (.string s)
    have hset : (strs l[k].d.ts ++ [Value.string ⟨#[109, 97, 114, 107]⟩]).set j (.string s) = strs (l[k].d.ts.set j s) ++ [.string ⟨#[109, 97, 114, 107]⟩] := by
      rw [List.set_append_left _ _ (by rw [strs_len]; exact hj)]
      unfold strs
      rw [List.map_set]
    have hcells : cdCells (l.set k (l[k].setT j s)) = cdCells l := by
      have e := flat_set Cd.cells 7 cd_len l k 0 (l[k].setT j s) (.string l[k].d.nm) hk (by omega) (by simp [Cd.cells, Cd.setT])
      unfold cdCells
      rw [← e]
      have e2 := flat_get Cd.cells 7 cd_len l k 0 hk (by omega)
      apply List.ext_getElem (by simp)
      intro i h1 h2
      by_cases hik : k * 7 + 0 = i
      · subst hik
        rw [List.getElem_set_self]
        have : (List.flatMap Cd.cells l)[k * 7 + 0]? = some (Value.string l[k].d.nm) := e2
        rw [List.getElem?_eq_getElem h2] at this
        exact (Option.some.inj this).symm
      · rw [List.getElem_set_ne hik]
    have hts : ∀ i (hi : i < (l.set k (l[k].setT j s)).length), i < n → lentTs (w.setCell ⟨g, j, none⟩ (.string s)) base (l.set k (l[k].setT j s))[i] := fun i hi hin => by
      have hi2 : i < l.length := by simpa using hi
      by_cases hik : k = i
      · subst hik
        simp only [List.getElem_set_self]
        unfold lentTs
        have e1 : (l[k].setT j s).A = some ⟨g, 0, none⟩ := hA
        have e2 : (l[k].setT j s).d.ts = l[k].d.ts.set j s := rfl
        have e3 : (l[k].setT j s).c = l[k].c := rfl
        rw [e1, e2, e3, List.length_set, ← hset]
        exact hst.1
      · simp only [List.getElem_set_ne hik]
        refine own_keep2 (h.ts i hi2 hin) fun g' hg' _ => Below.heap_setCell _ _ _ _ (by
          intro e
          subst e
          have hgk : l[k].val.ownBlock = some g' := by unfold Cd.val; rw [hA]; rfl
          have hgi : l[i].val.ownBlock = some g' := by rw [← hg']; exact block_same _ _ _ _ _
          rcases Nat.lt_or_gt_of_ne hik with h1 | h1
          · exact h.apart k i hk hi2 h1 hin g' hgk hgi
          · exact h.apart i k hi2 hk h1 hkn g' hgi hgk)
    have hv : ∀ i (hi : i < (l.set k (l[k].setT j s)).length), (l.set k (l[k].setT j s))[i].A = (l[i]'(by simpa using hi)).A := fun i hi => by
      by_cases hik : k = i
      · subst hik; simp [Cd.setT]
      · simp [hik]
    refine ⟨by simp [h.len], ?_, fun x hx => ?_, hts, fun i j hi hj hij hjn g1 hg1 hg2 => ?_⟩
    · rw [hcells]
      exact own_keep2 h.row fun g' hg' _ => Below.heap_setCell _ _ _ _ (by
        intro e
        subst e
        exact own_types hrow h.row (by decide) _ rfl hg')
    · obtain ⟨i, hi, rfl⟩ := List.mem_iff_getElem.1 hx
      exact ⟨[.string ⟨#[109, 97, 114, 107]⟩], hts i hi (by have := h.len; simp at hi; omega)⟩
    · refine h.apart i j (by simpa using hi) (by simpa using hj) hij hjn g1 ?_ ?_
      · rw [← hg1]; unfold Cd.val; rw [hv i hi]; exact block_same _ _ _ _ _
      · rw [← hg2]; unfold Cd.val; rw [hv j hj]; exact block_same _ _ _ _ _
/-- Sizes, while texts are lengthened: those ahead of place (k, j) may be two bytes longer. -/
structure ZOk (x : Cc) : Prop where
  nm : x.nm.size ≤ 140737488351232
  fam : x.fam.size ≤ 140737488351232
  qk : x.qk.size ≤ 140737488351232
  lv : x.lv ≤ 255
  tn : x.ts.length * 16 ≤ 140737488351232
  sc : -128 ≤ x.sc ∧ x.sc ≤ 127
def CLim (k j : Nat) (l : List Cd) : Prop := ∀ i (h : i < l.length), ZOk l[i].d ∧ ∀ m (hm : m < l[i].d.ts.length), l[i].d.ts[m].size ≤ 140737488351232 ∨ ((i < k ∨ (i = k ∧ m < j)) ∧ l[i].d.ts[m].size ≤ 140737488351234)
theorem CLim.sized {k j : Nat} {l : List Cd} (h : CLim k j l) (hn : l.length * 96 ≤ 140737488355328) : CSized l := by
  refine ⟨hn, fun x hx => ?_, fun x hx => ?_, fun x hx => ?_⟩
  all_goals obtain ⟨i, hi, rfl⟩ := List.mem_iff_getElem.1 hx
  · obtain ⟨z, hm⟩ := h i hi
    refine ⟨?_, ?_, ?_, z.lv, fun t ht => ?_⟩
    · have := z.nm; unfold maxLen; omega
    · have := z.fam; unfold maxLen; omega
    · have := z.qk; unfold maxLen; omega
    · obtain ⟨m, hm2, rfl⟩ := List.mem_iff_getElem.1 ht
      have := hm m hm2
      unfold maxLen; omega
  · have := (h i hi).1.tn; omega
  · exact (h i hi).1.sc
theorem CLim.mono {k j k' j' : Nat} {l : List Cd} (h : CLim k j l) (hm : ∀ i (hi : i < l.length) m, m < l[i].d.ts.length → (i < k ∨ (i = k ∧ m < j)) → (i < k' ∨ (i = k' ∧ m < j'))) : CLim k' j' l := fun i hi => by
  obtain ⟨z, h4⟩ := h i hi
  exact ⟨z, fun m hlt => (h4 m hlt).imp id fun ⟨a, b⟩ => ⟨hm i hi m hlt a, b⟩⟩
theorem CLim.dat {k j : Nat} {l l' : List Cd} (h : CLim k j l) (hd : cdat l' = cdat l) : CLim k j l' := fun i hi => by
  have hl : l'.length = l.length := by have := congrArg List.length hd; rwa [cdat_len, cdat_len] at this
  have hi2 : i < l.length := by omega
  have e : l'[i].d = l[i].d := by
    rw [← cdat_get l' hi, ← cdat_get l hi2]
    congr 1
  have h2 := h i hi2
  rw [← e] at h2
  exact h2
theorem CLim.score {k j : Nat} {l : List Cd} (h : CLim k j l) {i : Nat} (hi : i < l.length) {s : Int} (hs : -128 ≤ s ∧ s ≤ 127) : CLim k j (l.set i (l[i].setS s)) := fun i' hi' => by
  have hi2 : i' < l.length := by simpa using hi'
  by_cases e : i = i'
  · subst e
    simp only [List.getElem_set_self]
    obtain ⟨z, h4⟩ := h i hi
    exact ⟨⟨z.nm, z.fam, z.qk, z.lv, z.tn, hs⟩, h4⟩
  · simp only [List.getElem_set_ne e]
    exact h i' hi2
theorem CLim.text {k j : Nat} {l : List Cd} (h : CLim k j l) (hk : k < l.length) (hj : j < l[k].d.ts.length) {s : ByteArray} (hs : s.size ≤ l[k].d.ts[j].size + 2) : CLim k (j + 1) (l.set k (l[k].setT j s)) := fun i' hi' => by
  have hi2 : i' < l.length := by simpa using hi'
  by_cases e : k = i'
  · subst e
    simp only [List.getElem_set_self]
    obtain ⟨z, h4⟩ := h k hk
    refine ⟨⟨z.nm, z.fam, z.qk, z.lv, by simp only [Cd.setT, List.length_set]; exact z.tn, z.sc⟩, fun m hm => ?_⟩
    have hm2 : m < l[k].d.ts.length := by simpa [Cd.setT] using hm
    by_cases em : j = m
    · subst em
      have e1 : ((l[k].setT j s).d.ts[j]'hm) = s := by simp [Cd.setT]
      rw [e1]
      rcases h4 j hj with h6 | ⟨h6, _⟩
      · exact .inr ⟨by simp, by omega⟩
      · omega
    · have e1 : ((l[k].setT j s).d.ts[m]'hm) = l[k].d.ts[m] := by simp [Cd.setT, List.getElem_set_ne em]
      rw [e1]
      exact (h4 m hm2).imp id fun ⟨a, b⟩ => ⟨by simp at a ⊢; omega, b⟩
  · simp only [List.getElem_set_ne e]
    obtain ⟨z, h4⟩ := h i' hi2
    exact ⟨z, fun m hm => (h4 m hm).imp id fun ⟨a, b⟩ => ⟨by omega, b⟩⟩
end Go.Proofs.Ytiheibcookcbdaa
