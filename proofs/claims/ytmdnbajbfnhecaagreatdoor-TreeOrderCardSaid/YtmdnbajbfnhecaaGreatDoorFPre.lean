/- What a checked tree's values are; a list and its twin. -/
import Derived.Test.YtmdnbajbfnhecaaGreatDoorRSame
import Derived.Test.YtmdnbajbfnhecaaGreatDoorRTwin
import Derived.Test.YtmdnbajbfnhecaaGreatDoorCutLaw
set_option linter.unusedVariables false
namespace Go.Proofs.YtmdnbajbfnhecaaGreatDoor
open Go.RowKit
theorem fine_props {l : List Nm} (hf : Fine (dat l) (dat l).length) : ∀ x ∈ l, propsB x.d.ps = true := fun x hx => by
  obtain ⟨j, hj, rfl⟩ := List.mem_iff_getElem.1 hx
  have := hf j (by rw [dat_len]; exact hj)
  unfold nodeOkB at this
  rw [List.getElem?_eq_getElem (by rw [dat_len]; exact hj)] at this
  simp only [dat_get l hj, Bool.and_eq_true] at this
  exact this.1.2
theorem fine_vals {l : List Nm} (hf : Fine (dat l) (dat l).length) : ∀ x ∈ l, ∀ y ∈ x.d.ps, y.v.size ≤ 1048576 := fun x hx y hy => by
  have h := fine_props hf x hx
  obtain ⟨j, hj, rfl⟩ := List.mem_iff_getElem.1 hy
  unfold propsB at h
  rw [Bool.and_eq_true] at h
  have h2 := all_range.1 h.2 j hj
  rw [prop_some hj] at h2
  simp only [Bool.and_eq_true, decide_eq_true_eq] at h2
  omega
theorem sized_dat {l l' : List Nm} (h : Sized l) (hd : dat l' = dat l) : Sized l' := by
  have hl : l'.length = l.length := by have := congrArg List.length hd; rwa [dat_len, dat_len] at this
  have hm : ∀ x ∈ l', ∃ y ∈ l, x.d = y.d := fun x hx => by
    have : x.d ∈ dat l' := by unfold dat; exact List.mem_map_of_mem hx
    rw [hd] at this
    unfold dat at this
    obtain ⟨y, hy, e⟩ := List.mem_map.1 this
    exact ⟨y, hy, e.symm⟩
  refine ⟨by rw [hl]; exact h.n, by rw [hd]; exact h.small, fun x hx => ?_, fun x hx => ?_⟩
  · obtain ⟨y, hy, e⟩ := hm x hx
    rw [e]; exact h.props y hy
  · obtain ⟨y, hy, e⟩ := hm x hx
    rw [e]; exact h.wf y hy
theorem rsame_eq (A : Option Addr) (c n : Nat) (la : List Nm) (hn : n = la.length) (hz : Sized la) (A' : Option Addr) (c' n' : Nat) (lb : List Nm) (hn' : n' = lb.length) (w : World) (hs : Nodes w w.heap.size A la) (hs' : Nodes w w.heap.size A' lb) (he : dat la = dat lb) :
    Calls Tryz.prog 9 #[.slice A n c, .slice A' n' c'] w fun e w' => e = .returned (.bool true) ∧ Below w.heap.size w w' := by
  have := rsame_any A c n la hn hz A' c' n' lb hn' w _ (Nat.le_refl _) hs hs'
  rw [he, same_refl] at this
  exact this
end Go.Proofs.YtmdnbajbfnhecaaGreatDoor
