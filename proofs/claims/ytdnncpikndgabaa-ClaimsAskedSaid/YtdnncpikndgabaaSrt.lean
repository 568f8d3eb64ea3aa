/- The library's sort of claims: the contract. -/
import Derived.Test.YtdnncpikndgabaaSortMem
import Derived.Test.YtdnncpikndgabaaShelfS
import Derived.Test.YtdnncpikndgabaaOrd
set_option linter.unusedVariables false
namespace Go.Proofs.Ytdnncpikndgabaa
open Go.RowKit Go.Sort Go.Lib
instance : Inhabited Cl := ⟨⟨0, 0, 0⟩⟩
def clCells (l : List Cl) : List Value := l.flatMap Cl.cells
theorem clCells_len (l : List Cl) : (clCells l).length = l.length * 3 := flat_length _ 3 cl_len l
def Own1 (A : Option Addr) (g : Nat) : Prop := (Value.slice A 0 0).ownBlock = some g
theorem own1_val {A : Option Addr} {n c g : Nat} : (Value.slice A n c).ownBlock = some g ↔ Own1 A g := by cases A <;> exact Iff.rfl
theorem cmpN_lt (x y : Nat) : (cmpN x y = -1 ∧ x < y) ∨ (cmpN x y = 0 ∧ x = y) ∨ (cmpN x y = 1 ∧ y < x) := by
  unfold cmpN
  by_cases h : x < y
  · rw [if_pos h]; omega
  · rw [if_neg h]
    by_cases h2 : y < x
    · rw [if_pos h2]; omega
    · rw [if_neg h2]; omega
theorem ord_lt (a b : Cl) : ordF a b < 0 ↔ a.k < b.k ∨ (a.k = b.k ∧ (a.f < b.f ∨ (a.f = b.f ∧ a.t < b.t))) := by
  unfold ordF or3
  rcases cmpN_lt a.k b.k with ⟨e1, h1⟩ | ⟨e1, h1⟩ | ⟨e1, h1⟩ <;> rcases cmpN_lt a.f b.f with ⟨e2, h2⟩ | ⟨e2, h2⟩ | ⟨e2, h2⟩ <;> rcases cmpN_lt a.t b.t with ⟨e3, h3⟩ | ⟨e3, h3⟩ | ⟨e3, h3⟩ <;> rw [e1, e2, e3] <;> simp <;> omega
theorem lt_true (a b : Cl) : ltOf ordF a b = true ↔ a.k < b.k ∨ (a.k = b.k ∧ (a.f < b.f ∨ (a.f = b.f ∧ a.t < b.t))) := by
  unfold ltOf
  rw [decide_eq_true_eq]
  exact ord_lt a b
theorem lt_false (a b : Cl) : ltOf ordF a b = false ↔ ¬ (a.k < b.k ∨ (a.k = b.k ∧ (a.f < b.f ∨ (a.f = b.f ∧ a.t < b.t)))) := by
  rw [Bool.eq_false_iff, Ne, lt_true]
theorem ord_swo : SWO (ltOf ordF) where
  irrefl := fun x => (lt_false _ _).2 (by omega)
  trans := fun x y z h1 h2 => (lt_true _ _).2 (by have := (lt_true _ _).1 h1; have := (lt_true _ _).1 h2; omega)
  ntrans := fun x y z h1 h2 => (lt_false _ _).2 (by have := (lt_false _ _).1 h1; have := (lt_false _ _).1 h2; omega)
theorem sort_any (A : Option Addr) (n c : Nat) (ps : List Cl) (w : World) (base : Nat) (hown : w.ownsRow base 24 3 (.slice A n c) n (clCells ps)) (hn : n * 24 ≤ 140737488355328) (K : Nat) (hK : ∀ x ∈ ps, x.k = K) :
    Calls Try.prog 12 #[.slice A n c, .func (.func 13) #[] #[]] w fun e w' => e = .returned (.tuple #[]) ∧ ∃ qs : List Cl, qs.Perm ps ∧ qs.Pairwise (fun x y => x.f ≤ y.f) ∧ w'.ownsRow base 24 3 (.slice A n c) n (clCells qs) ∧ Frame (Own1 A) w w' := by
  have hl : ps.length = n := by have := hown.1; rw [clCells_len] at this; omega
  rcases A with _ | ⟨g, off, spot⟩
  · have hn0 : n = 0 := by
      rcases hown.2 with ⟨_, h⟩ | ⟨g, cap, cur, hv, _⟩
      · exact h
      · cases hv
    subst hn0
    have hps : ps = [] := List.eq_nil_of_length_eq_zero hl
    subst hps
    have h := AnyF.slices_SortFunc_none (P := Try.prog) (ρ := Try.laysSP_ren) Try.laysSP none c (.func (.func 13) #[] #[]) w
    change Calls Try.prog 12 _ _ _ at h
    refine h.mono ?_
    rintro e w' ⟨he, rfl⟩
    exact ⟨he, [], .refl _, List.Pairwise.nil, hown, Frame.refl _ _⟩
  · have hg : off = 0 ∧ spot = none := by
      rcases hown.2 with ⟨h, _⟩ | ⟨g, cap, cur, hv, _⟩
      · cases h
      · injection hv with hv
        injection hv with hv
        injection hv with _ h1 h2
        exact ⟨h1, h2⟩
    obtain ⟨rfl, rfl⟩ := hg
    have hgl : g < w.heap.size := (hown.lt g rfl).2
    have hsz : ps.toArray.size = n := by simp [hl]
    have hH : HoldsK Cl.cells 3 w g 0 ps.toArray := by
      unfold HoldsK
      rw [flatK_flat Cl.cells 3 cl_len]
      exact own_holds hown
    have h := AnyQ.slices_SortFunc (P := Try.prog) (ρ := Try.laysSP_ren) Try.laysSP 3 Try.isAgg24 Try.sizeOf24 Cl.cells cl_len (fun x v hv => by
      simp [Cl.cells] at hv
      rcases hv with rfl | rfl | rfl <;> rfl) ordF ord_swo 13 #[] g 0 c ps.toArray w (enters_of Try.func13 (by kernel_rfl) rfl)
      (fun _ _ _ _ x y => order_any x y _) hH hgl (by rw [hsz]; omega)
    rw [hsz] at h
    change Calls Try.prog 12 _ _ _ at h
    refine h.mono ?_
    rintro e w' ⟨he, d', m, os, hp, hs, rfl⟩
    rw [← hsz] at hp
    have hpp : d'.toList.Perm ps := by simpa using permIn_all hp
    have hd : d'.toList.length = n := by rw [hpp.length_eq, hl]
    have hcells : flatK Cl.cells 3 d' = (clCells d'.toList).toArray := by rw [flatK_flat Cl.cells 3 cl_len]; rfl
    have := own_put hown (ys := clCells d'.toList) (by rw [clCells_len, clCells_len, hd, hl]) m os
    refine ⟨he, d'.toList, hpp, ?_, ?_, ?_⟩
    · rw [List.pairwise_iff_getElem]
      intro i j hi hj hij
      have h1 := hs i j (Nat.zero_le _) hij (by omega)
      rw [getElem!_pos d' j (by simpa using hj), getElem!_pos d' i (by simpa using hi)] at h1
      have h2 := (lt_false _ _).1 h1
      have k1 := hK _ (hpp.subset (List.getElem_mem hi))
      have k2 := hK _ (hpp.subset (List.getElem_mem hj))
      simp only [Array.getElem_toList] at *
      omega
    · unfold sortWorldK putRowK
      rw [hcells]
      exact this.1
    · unfold sortWorldK putRowK
      rw [hcells]
      exact this.2.mono fun i _ hi => by subst hi; rfl
end Go.Proofs.Ytdnncpikndgabaa
