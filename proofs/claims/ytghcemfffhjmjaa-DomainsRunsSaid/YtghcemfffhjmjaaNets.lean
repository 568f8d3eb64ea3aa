/- A net by its data: what is wanted tells all. Contracts of New, Vote, Level, Wants. -/
import Derived.Test.YtghcemfffhjmjaaOut
set_option linter.unusedVariables false
namespace Go.Proofs.Ytghcemfffhjmjaa
open Go.RowKit
/-- A net that stands as what is wanted says. -/
def IsNet (w : World) (nb mb N : Nat) (ds : List Dm) (W : Int → Int → Nat) : Prop :=
  ∃ N' Ad cd ls, N' ≤ N ∧ NetAt w nb mb N' ds.length Ad cd ls W (lev ds W) ∧ dsOf ls = ds ∧ Okd ds ∧ Fitw ds.length W ∧ TopOk ds (lev ds W)
section
variable {w w' : World} {nb mb N : Nat} {ds : List Dm} {W : Int → Int → Nat}
theorem IsNet.below (h : IsNet w nb mb N ds W) (hb : Below w.heap.size w w') : IsNet w' nb mb N ds W := by
  obtain ⟨N', Ad, cd, ls, h1, h2, h3⟩ := h
  exact ⟨N', Ad, cd, ls, h1, h2.below hb, h3⟩
theorem IsNet.more {M : Nat} (h : IsNet w nb mb N ds W) (hM : N ≤ M) : IsNet w nb mb M ds W := by
  obtain ⟨N', Ad, cd, ls, h1, h2, h3⟩ := h
  exact ⟨N', Ad, cd, ls, by omega, h2, h3⟩
theorem IsNet.okd (h : IsNet w nb mb N ds W) : Okd ds := by obtain ⟨N', Ad, cd, ls, h1, h2, h3, h4, _⟩ := h; exact h4
theorem IsNet.fit (h : IsNet w nb mb N ds W) : Fitw ds.length W := by obtain ⟨N', Ad, cd, ls, h1, h2, h3, h4, h5, _⟩ := h; exact h5
theorem IsNet.top (h : IsNet w nb mb N ds W) : TopOk ds (lev ds W) := by obtain ⟨N', Ad, cd, ls, h1, h2, h3, h4, h5, h6⟩ := h; exact h6
theorem IsNet.lt (h : IsNet w nb mb N ds W) : mb < nb ∧ nb < w.heap.size := by obtain ⟨N', Ad, cd, ls, h1, h2, h3, h4, h5, h6⟩ := h; exact ⟨h2.low, h2.lt⟩
end
def inR (n : Nat) (u d : Int) : Prop := 0 ≤ u ∧ u < 1024 ∧ 0 ≤ d ∧ d < (n : Int)
open Classical in
noncomputable def voteE (ds : List Dm) (W : Int → Int → Nat) (u d : Int) (lv : Nat) : Int := if inR ds.length u d then if TopOk ds (lev ds (updW W u d lv)) then 0 else 201 else 1
noncomputable def voteW (ds : List Dm) (W : Int → Int → Nat) (u d : Int) (lv : Nat) : Int → Int → Nat := if voteE ds W u d lv = 0 then updW W u d lv else W
noncomputable def voteC (ds : List Dm) (W : Int → Int → Nat) (u d : Int) (lv : Nat) : List (Nat × Nat × Nat) := if voteE ds W u d lv = 0 then chgs (lev ds W) (lev ds (updW W u d lv)) ds.length else []
theorem voteE_ok {ds : List Dm} {W : Int → Int → Nat} {u d : Int} {lv : Nat} (h : inR ds.length u d) (ht : TopOk ds (lev ds (updW W u d lv))) : voteE ds W u d lv = 0 := by unfold voteE; rw [if_pos h, if_pos ht]
theorem voteE_stuck {ds : List Dm} {W : Int → Int → Nat} {u d : Int} {lv : Nat} (h : inR ds.length u d) (ht : ¬ TopOk ds (lev ds (updW W u d lv))) : voteE ds W u d lv = 201 := by unfold voteE; rw [if_pos h, if_neg ht]
theorem voteE_arg {ds : List Dm} {W : Int → Int → Nat} {u d : Int} {lv : Nat} (h : ¬ inR ds.length u d) : voteE ds W u d lv = 1 := by unfold voteE; rw [if_neg h]
theorem voteE_zero {ds : List Dm} {W : Int → Int → Nat} {u d : Int} {lv : Nat} (h : voteE ds W u d lv = 0) : inR ds.length u d ∧ TopOk ds (lev ds (updW W u d lv)) := by
  unfold voteE at h
  split at h
  · split at h
    · exact ⟨by assumption, by assumption⟩
    · omega
  · omega
theorem voteW_ok {ds : List Dm} {W : Int → Int → Nat} {u d : Int} {lv : Nat} (h : voteE ds W u d lv = 0) : voteW ds W u d lv = updW W u d lv := by unfold voteW; rw [if_pos h]
theorem voteW_no {ds : List Dm} {W : Int → Int → Nat} {u d : Int} {lv : Nat} (h : voteE ds W u d lv ≠ 0) : voteW ds W u d lv = W := by unfold voteW; rw [if_neg h]
theorem voteC_ok {ds : List Dm} {W : Int → Int → Nat} {u d : Int} {lv : Nat} (h : voteE ds W u d lv = 0) : voteC ds W u d lv = chgs (lev ds W) (lev ds (updW W u d lv)) ds.length := by unfold voteC; rw [if_pos h]
theorem voteC_no {ds : List Dm} {W : Int → Int → Nat} {u d : Int} {lv : Nat} (h : voteE ds W u d lv ≠ 0) : voteC ds W u d lv = [] := by unfold voteC; rw [if_neg h]
theorem vote_net {w : World} {nb mb N : Nat} {ds : List Dm} {W : Int → Int → Nat} (h : IsNet w nb mb N ds W) (hN : N < maxLen) (u d : Int) (lv : Nat) (hlv : lv ≤ 255) :
    Calls Try.prog 11 #[.pointer (some ⟨nb, 0, none⟩), .int .i64 u, .int .i64 d, .int .u8 (lv : Int)] w fun e w' => ∃ A c, e = .returned (.tuple #[.slice A (voteC ds W u d lv).length c, .int .i64 (voteE ds W u d lv)]) ∧
      w'.ownsRow w.heap.size 40 3 (.slice A (voteC ds W u d lv).length c) (voteC ds W u d lv).length (chCells (voteC ds W u d lv)) ∧ IsNet w' nb mb (N + 1) ds (voteW ds W u d lv) ∧ Frame (fun j => j = nb ∨ j = mb) w w' := by
  obtain ⟨N', Ad, cd, ls, h1, h2, h3, h4, h5, h6⟩ := h
  by_cases hin : inR ds.length u d
  · obtain ⟨u', rfl⟩ : ∃ u' : Nat, u = u' := ⟨u.toNat, (Int.toNat_of_nonneg hin.1).symm⟩
    obtain ⟨d', rfl⟩ : ∃ d' : Nat, d = d' := ⟨d.toNat, (Int.toNat_of_nonneg hin.2.2.1).symm⟩
    have hu : u' < 1024 := by have := hin.2.1; omega
    have hd : d' < ds.length := by have := hin.2.2.2; omega
    refine (vote_any h2 (by rw [h3]; exact h4) h5 (by omega) hu hd hlv).mono ?_
    rintro e w' (⟨ht, rfl, hb⟩ | ⟨ht, A, c, rfl, ho, hn, hf⟩)
    · rw [h3] at ht
      have he := voteE_stuck hin ht
      have hne : voteE ds W u' d' lv ≠ 0 := by omega
      rw [voteC_no hne, voteW_no hne, he]
      exact ⟨none, 0, rfl, World.ownsRow_nil _ _ _ _, ⟨N', Ad, cd, ls, by omega, h2.below hb, h3, h4, h5, h6⟩, Frame.of_below hb⟩
    · rw [h3] at ht ho hn ⊢
      have he := voteE_ok hin ht
      rw [voteC_ok he, voteW_ok he, he]
      exact ⟨A, c, rfl, ho, ⟨N' + 1, Ad, cd, ls, by omega, hn, h3, h4, h5.put hu hd hlv, ht⟩, hf⟩
  · have he := voteE_arg (lv := lv) (W := W) hin
    have hne : voteE ds W u d lv ≠ 0 := by omega
    rw [voteC_no hne, voteW_no hne, he]
    refine (vote_arg h2 u d lv ?_).mono ?_
    · unfold inR at hin
      omega
    · rintro e w' ⟨rfl, rfl⟩
      exact ⟨none, 0, rfl, World.ownsRow_nil _ _ _ _, ⟨N', Ad, cd, ls, by omega, h2, h3, h4, h5, h6⟩, Frame.refl _ _⟩
noncomputable def levelAt (ds : List Dm) (W : Int → Int → Nat) (d : Int) : Nat := open Classical in if 0 ≤ d ∧ d < (ds.length : Int) then lev ds W d.toNat else 0
theorem level_net {w : World} {nb mb N : Nat} {ds : List Dm} {W : Int → Int → Nat} (h : IsNet w nb mb N ds W) (d : Int) :
    Calls Try.prog 13 #[.pointer (some ⟨nb, 0, none⟩), .int .i64 d] w fun e w' => e = .returned (.int .u8 (levelAt ds W d : Int)) ∧ w = w' := by
  obtain ⟨N', Ad, cd, ls, h1, h2, h3, h4, h5, h6⟩ := h
  unfold levelAt
  by_cases hd : 0 ≤ d ∧ d < (ds.length : Int)
  · rw [if_pos hd]
    obtain ⟨d', rfl⟩ : ∃ d' : Nat, d = d' := ⟨d.toNat, (Int.toNat_of_nonneg hd.1).symm⟩
    rw [Int.toNat_natCast]
    exact level_ok h2 h4.len (by omega)
  · rw [if_neg hd]
    exact level_no h2 (by omega)
theorem level_nat {w : World} {nb mb N : Nat} {ds : List Dm} {W : Int → Int → Nat} (h : IsNet w nb mb N ds W) {d : Nat} (hd : d < ds.length) :
    Calls Try.prog 13 #[.pointer (some ⟨nb, 0, none⟩), .int .i64 (d : Int)] w fun e w' => e = .returned (.int .u8 (lev ds W d : Int)) ∧ w = w' := by
  obtain ⟨N', Ad, cd, ls, h1, h2, h3, h4, h5, h6⟩ := h
  exact level_ok h2 h4.len hd
theorem wants_net {w : World} {nb mb N : Nat} {ds : List Dm} {W : Int → Int → Nat} (h : IsNet w nb mb N ds W) (u d : Int) (hu : (Lit.int .i64 u).wf = true) (hd : (Lit.int .i64 d).wf = true) :
    Calls Try.prog 12 #[.pointer (some ⟨nb, 0, none⟩), .int .i64 u, .int .i64 d] w fun e w' => e = .returned (.int .u8 (W u d : Int)) ∧ w = w' := by
  obtain ⟨N', Ad, cd, ls, h1, h2, h3, h4, h5, h6⟩ := h
  exact wants_ok h2 u d hu hd
theorem bs_none : bs (fun _ _ => 0) = fun _ => 0 := by
  funext d
  exact Nat.le_zero.1 (base_le fun u _ _ => Nat.le_refl _)
theorem lev_none (ds : List Dm) : lev ds (fun _ _ => 0) = fun _ => 0 := by
  funext i
  unfold lev
  rw [bs_none]
  exact Nat.le_zero.1 (settle_min (g := fun _ => 0) (fun _ _ _ => Nat.le_refl _) (fun _ => Nat.le_refl _) i)
/-- Domains as they are handed in, as data. -/
def dms (l : List Dmi) : List Dm := l.map toDm
theorem dms_len (l : List Dmi) : (dms l).length = l.length := by simp [dms]
theorem mayD_okd {l : List Dmi} (h : mayD l) (ht : ∀ x ∈ l, x.t ≤ 255) : Okd (dms l) := by
  have hg : ∀ i (hi : i < (dms l).length), (dms l)[i] = toDm (l[i]'(by rw [← dms_len]; exact hi)) := fun i hi => by simp [dms]
  refine ⟨by rw [dms_len]; exact h.1, fun i hi => ?_, fun i hi x hx => ?_, fun i hi => ?_⟩
  · rw [hg i hi]
    simpa [toDm] using (h.2 i (by rw [← dms_len]; exact hi)).1
  · rw [hg i hi] at hx
    simp only [toDm, List.mem_map] at hx
    obtain ⟨y, hy, rfl⟩ := hx
    obtain ⟨j, hj, rfl⟩ := List.getElem_of_mem hy
    have := (h.2 i (by rw [← dms_len]; exact hi)).2 j hj
    omega
  · rw [hg i hi]
    exact ht _ (List.getElem_mem _)
theorem new_net (A : Option Addr) (cap : Nat) (l : List Dmi) (n : Nat) (hn : n = l.length) (ht : ∀ x ∈ l, x.t ≤ 255) (w : World) (hs : Domi w w.heap.size A l) :
    Calls Try.prog 9 #[.slice A n cap] w fun e w' => Below w.heap.size w w' ∧ ((¬ mayD l ∧ e = .returned (.tuple #[.pointer none, .int .i64 200])) ∨
      (mayD l ∧ e = .returned (.tuple #[.pointer (some ⟨w.heap.size + 1, 0, none⟩), .int .i64 0]) ∧ IsNet w' (w.heap.size + 1) w.heap.size 0 (dms l) (fun _ _ => 0))) := by
  refine (new_any A cap l n hn w hs).mono ?_
  rintro e w' ⟨hb, (⟨h1, h2⟩ | ⟨h1, h2, Ad, cd, ls, h3, h4⟩)⟩
  · exact ⟨hb, .inl ⟨h1, h2⟩⟩
  · refine ⟨hb, .inr ⟨h1, h2, 0, Ad, cd, ls, Nat.le_refl _, ?_, h4, mayD_okd h1 ht, fitw_none _, ?_⟩⟩
    · rw [lev_none, dms_len, ← hn]; exact h3
    · rw [lev_none]; exact fun i hi => Nat.zero_le _
end Go.Proofs.Ytghcemfffhjmjaa
