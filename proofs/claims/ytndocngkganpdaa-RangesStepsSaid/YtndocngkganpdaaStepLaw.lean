/- The plain law of RangesSteps: step by step; who owns. -/
import Derived.Test.YtndocngkganpdaaRgAptB
set_option linter.unusedVariables false
namespace Go.Proofs.Ytndocngkganpdaa
open Go.RowKit
/-! A window that fits still fits behind a step. -/
theorem fits_sp {a b : Nat} : fitsB a b = true ↔ b = 0 ∨ a + b ≤ 18446744073709551616 := by
  unfold fitsB
  rw [Bool.or_eq_true, beq_iff_eq, decide_eq_true_iff]
theorem up_fits {m : List Mp × Bool × Int} (hg : GoodM m.1) {b s u : Nat} (hf : fitsB b s = true) (h : upM m b s = (u, 0)) : fitsB u s = true := by
  obtain ⟨h0, h1 | ⟨h1, x, hx, hw, rfl⟩⟩ := up_inv h
  · rw [h1.2]; exact hf
  · have hw' := within_sp.1 hw
    obtain ⟨g1, _⟩ := hg x hx
    unfold mpFits at g1
    rw [Bool.and_eq_true, fits_sp, fits_sp] at g1
    rw [fits_sp]
    omega
theorem out_fits {l : List Nd} (hu : Ups l) : ∀ (i : Nat), i < l.length → ∀ (b s u : Nat), fitsB b s = true → outF l i b s = (u, 0) → fitsB u s = true := by
  intro i
  induction i using Nat.strongRecOn with
  | ind i ih =>
    intro hi b s u hf h
    rcases Nat.eq_zero_or_pos i with rfl | h0
    · rw [out_zero] at h
      injection h with h
      subst h
      exact hf
    · obtain ⟨q, h1, h2⟩ := out_in hu h0 hi h
      have hp := ups_par hu h0 hi
      exact ih _ hp.1 (by omega) q s u (up_fits (maps_goodM l i) hf h1) h2
theorem reg_fits {l : List Nd} {i : Nat} {ws : List (Nat × Nat)} (h : regF l i = some ws) : ∀ x ∈ ws, fitsB x.1 x.2 = true := by
  unfold regF at h
  split at h
  · cases h
  · unfold winsF at h
    split at h
    · cases h
    · split at h
      · rename_i hall
        injection h with h
        subst h
        intro x hx
        obtain ⟨r, hr, rfl⟩ := List.mem_map.1 hx
        exact List.all_eq_true.1 hall r hr
      · cases h
theorem outs_fits {l : List Nd} (hu : Ups l) {p : Nat} (hp : p < l.length) : ∀ ws : List (Nat × Nat), (∀ x ∈ ws, fitsB x.1 x.2 = true) → ∀ x ∈ (outsF l p ws).1, fitsB x.1 x.2 = true
  | [], _, x, hx => by cases hx
  | w :: r, h, x, hx => by
    by_cases h1 : (outF l p w.1 w.2).2 = 0
    · by_cases h2 : (outsF l p r).2 = 0
      · rw [outs_ok h1 h2] at hx
        rcases List.mem_cons.1 hx with rfl | hx
        · exact out_fits hu p hp w.1 w.2 _ (h w (by simp)) (pair_snd h1)
        · exact outs_fits hu hp r (fun y hy => h y (by simp [hy])) x hx
      · rw [outs_mid h1 h2] at hx; cases hx
    · rw [outs_bad h1] at hx; cases hx
theorem wins_fits {l : List Nd} (hu : Ups l) {i : Nat} (h0 : 0 < i) (hi : i < l.length) : ∀ x ∈ (windowsF l i).1, fitsB x.1 x.2 = true := by
  unfold windowsF
  have hp := ups_par hu h0 hi
  cases h : regF l i with
  | none => intro x hx; cases hx
  | some ws => exact outs_fits hu (show parN l i < l.length by omega) ws (reg_fits h)
/-! Who has an address. -/
/-- The best so far is a window with the address. -/
def Wit (l : List Nd) (at_ : Nat) (p : Nat × Nat) : Prop := 0 < p.1 ∧ p.1 < l.length ∧ (windowsF l p.1).2 = 0 ∧ ∃ w ∈ (windowsF l p.1).1, withinB at_ 1 w.1 w.2 = true ∧ w.2 = p.2
theorem ownS_cases (at_ i : Nat) (p w : Nat × Nat) : (withinB at_ 1 w.1 w.2 = true ∧ (p.1 = 0 ∨ w.2 < p.2) ∧ ownS at_ i p w = (i, w.2)) ∨ (¬ (withinB at_ 1 w.1 w.2 = true ∧ (p.1 = 0 ∨ w.2 < p.2)) ∧ ownS at_ i p w = p) := by
  unfold ownS
  by_cases h : (withinB at_ 1 w.1 w.2 && (p.1 == 0 || decide (w.2 < p.2))) = true
  · rw [if_pos h]
    rw [Bool.and_eq_true, Bool.or_eq_true, beq_iff_eq, decide_eq_true_iff] at h
    exact .inl ⟨h.1, h.2, rfl⟩
  · rw [if_neg h]
    rw [Bool.and_eq_true, Bool.or_eq_true, beq_iff_eq, decide_eq_true_iff] at h
    exact .inr ⟨h, rfl⟩
theorem ownS_fold (l : List Nd) (at_ i : Nat) (h0 : 0 < i) (hi : i < l.length) (hw : (windowsF l i).2 = 0) : ∀ (L : List (Nat × Nat)) (p : Nat × Nat), (∀ w ∈ L, w ∈ (windowsF l i).1) → (p.1 = 0 ∨ Wit l at_ p) →
    ((L.foldl (ownS at_ i) p).1 = 0 ∨ Wit l at_ (L.foldl (ownS at_ i) p)) ∧ (p.1 ≠ 0 → (L.foldl (ownS at_ i) p).1 ≠ 0 ∧ (L.foldl (ownS at_ i) p).2 ≤ p.2) ∧
    ∀ w ∈ L, withinB at_ 1 w.1 w.2 = true → (L.foldl (ownS at_ i) p).1 ≠ 0 ∧ (L.foldl (ownS at_ i) p).2 ≤ w.2
  | [], p, _, hp => ⟨hp, fun h => ⟨h, Nat.le_refl _⟩, by simp⟩
  | w :: r, p, hL, hp => by
    rw [List.foldl_cons]
    have hq : (ownS at_ i p w).1 = 0 ∨ Wit l at_ (ownS at_ i p w) := by
      rcases ownS_cases at_ i p w with ⟨h1, h2, e⟩ | ⟨_, e⟩
      · rw [e]; exact .inr ⟨h0, hi, hw, w, hL w (by simp), h1, rfl⟩
      · rw [e]; exact hp
    have hm : p.1 ≠ 0 → (ownS at_ i p w).1 ≠ 0 ∧ (ownS at_ i p w).2 ≤ p.2 := fun hne => by
      rcases ownS_cases at_ i p w with ⟨h1, h2, e⟩ | ⟨_, e⟩
      · rw [e]
        refine ⟨by show i ≠ 0; omega, ?_⟩
        show w.2 ≤ p.2
        rcases h2 with h2 | h2
        · exact absurd h2 hne
        · omega
      · rw [e]; exact ⟨hne, Nat.le_refl _⟩
    have hc : withinB at_ 1 w.1 w.2 = true → (ownS at_ i p w).1 ≠ 0 ∧ (ownS at_ i p w).2 ≤ w.2 := fun h1 => by
      rcases ownS_cases at_ i p w with ⟨_, h2, e⟩ | ⟨h2, e⟩
      · rw [e]; exact ⟨by show i ≠ 0; omega, Nat.le_refl _⟩
      · rw [e]
        have h3 : ¬ (p.1 = 0 ∨ w.2 < p.2) := fun h => h2 ⟨h1, h⟩
        exact ⟨fun h => h3 (.inl h), by have : ¬ w.2 < p.2 := fun h => h3 (.inr h); omega⟩
    obtain ⟨a, b, c⟩ := ownS_fold l at_ i h0 hi hw r _ (fun x hx => hL x (by simp [hx])) hq
    refine ⟨a, fun hne => ?_, fun x hx h1 => ?_⟩
    · have h2 := hm hne
      have h3 := b h2.1
      exact ⟨h3.1, by omega⟩
    · rcases List.mem_cons.1 hx with rfl | hx
      · have h2 := hc h1
        have h3 := b h2.1
        exact ⟨h3.1, by omega⟩
      · exact c x hx h1
theorem ownP_fold (l : List Nd) (at_ : Nat) : ∀ (Is : List Nat) (p : Nat × Nat), (∀ i ∈ Is, 0 < i ∧ i < l.length) → (p.1 = 0 ∨ Wit l at_ p) →
    ((Is.foldl (ownP l at_) p).1 = 0 ∨ Wit l at_ (Is.foldl (ownP l at_) p)) ∧ (p.1 ≠ 0 → (Is.foldl (ownP l at_) p).1 ≠ 0 ∧ (Is.foldl (ownP l at_) p).2 ≤ p.2) ∧
    ∀ i ∈ Is, (windowsF l i).2 = 0 → ∀ w ∈ (windowsF l i).1, withinB at_ 1 w.1 w.2 = true → (Is.foldl (ownP l at_) p).1 ≠ 0 ∧ (Is.foldl (ownP l at_) p).2 ≤ w.2
  | [], p, _, hp => ⟨hp, fun h => ⟨h, Nat.le_refl _⟩, by simp⟩
  | i :: r, p, hI, hp => by
    rw [List.foldl_cons]
    obtain ⟨h0, hi⟩ := hI i (by simp)
    by_cases he : (windowsF l i).2 = 0
    · have e : ownP l at_ p i = (windowsF l i).1.foldl (ownS at_ i) p := by unfold ownP; rw [if_neg (fun h => h he)]
      obtain ⟨a1, b1, c1⟩ := ownS_fold l at_ i h0 hi he (windowsF l i).1 p (fun _ h => h) hp
      rw [← e] at a1 b1 c1
      obtain ⟨a, b, c⟩ := ownP_fold l at_ r _ (fun x hx => hI x (by simp [hx])) a1
      refine ⟨a, fun hne => ?_, fun x hx hxe w hw h1 => ?_⟩
      · have h2 := b1 hne
        have h3 := b h2.1
        exact ⟨h3.1, by omega⟩
      · rcases List.mem_cons.1 hx with rfl | hx
        · have h2 := c1 w hw h1
          have h3 := b h2.1
          exact ⟨h3.1, by omega⟩
        · exact c x hx hxe w hw h1
    · have e : ownP l at_ p i = p := by unfold ownP; rw [if_pos he]
      rw [e]
      obtain ⟨a, b, c⟩ := ownP_fold l at_ r p (fun x hx => hI x (by simp [hx])) hp
      refine ⟨a, b, fun x hx hxe w hw h1 => ?_⟩
      rcases List.mem_cons.1 hx with rfl | hx
      · exact absurd hxe he
      · exact c x hx hxe w hw h1
/-- What has a byte of a node's windows has a window with it that is not greater. -/
def ownsB (l : List Nd) (o at_ most : Nat) : Bool := (winE l o).2 == 0 && (winE l o).1.any fun w => withinB at_ 1 w.1 w.2 && decide (w.2 ≤ most)
theorem winE_of {l : List Nd} (ht : treeB l = true) {k : Nat} (h0 : 0 < k) (hk : k < l.length) : winE l k = windowsF l k := by
  unfold winE wrongF
  rw [if_pos ht, if_neg (by omega)]
  rfl
theorem owner_of {l : List Nd} (ht : treeB l = true) {i : Nat} (h0 : 0 < i) (hi : i < l.length) (he : (windowsF l i).2 = 0) {w : Nat × Nat} (hw : w ∈ (windowsF l i).1) {at_ : Nat} (ha : withinB at_ 1 w.1 w.2 = true) :
    (ownE l at_).2 = 0 ∧ ownsB l (ownE l at_).1 at_ w.2 = true := by
  obtain ⟨a, _, c⟩ := ownP_fold l at_ ((List.range l.length).drop 1) (0, 0) (fun j hj => by
    rw [List.mem_iff_getElem] at hj
    obtain ⟨q, hq, rfl⟩ := hj
    simp at hq
    simp
    omega) (.inl rfl)
  have hm : i ∈ (List.range l.length).drop 1 := by
    rw [List.mem_iff_getElem]
    exact ⟨i - 1, by simp; omega, by simp; omega⟩
  have hc := c i hm he w hw ha
  have hB : ownerB l at_ = ((List.range l.length).drop 1).foldl (ownP l at_) (0, 0) := rfl
  rw [← hB] at a hc
  have hE : ownE l at_ = ((ownerB l at_).1, 0) := by unfold ownE; rw [if_pos ht, if_neg hc.1]
  rw [hE]
  refine ⟨rfl, ?_⟩
  rcases a with a | ⟨b1, b2, b3, w', b4, b5, b6⟩
  · exact absurd a hc.1
  · unfold ownsB
    rw [winE_of ht b1 b2, b3]
    show (true && _) = true
    rw [Bool.true_and, List.any_eq_true]
    refine ⟨w', b4, ?_⟩
    rw [b5, Bool.true_and, decide_eq_true_iff]
    omega
end Go.Proofs.Ytndocngkganpdaa
