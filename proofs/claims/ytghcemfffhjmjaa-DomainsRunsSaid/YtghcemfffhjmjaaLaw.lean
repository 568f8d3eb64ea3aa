/- Domains as data: what is wanted goes down to those that are needed. The plain law. -/
import Derived.ProofKit
set_option linter.unusedVariables false
namespace Go.Proofs.Ytghcemfffhjmjaa
/-! Domains as data; what is wanted goes down to those that are needed. -/
structure Dm where
  u : List Nat
  t : Nat
/-- May they be? -/
structure Okd (ds : List Dm) : Prop where
  len : ds.length ≤ 256
  few : ∀ i (h : i < ds.length), ds[i].u.length ≤ 8
  under : ∀ i (h : i < ds.length), ∀ x ∈ ds[i].u, x < i
  top : ∀ i (h : i < ds.length), ds[i].t ≤ 255
def upd (f : Nat → Nat) (i v : Nat) : Nat → Nat := fun j => if j = i then v else f j
theorem upd_same (f : Nat → Nat) (i v : Nat) : upd f i v i = v := by simp [upd]
theorem upd_other (f : Nat → Nat) {i j : Nat} (v : Nat) (h : j ≠ i) : upd f i v j = f j := by simp [upd, h]
def down (f : Nat → Nat) (d u : Nat) : Nat → Nat := upd f u (max (f u) (f d))
def downs (f : Nat → Nat) (d : Nat) (us : List Nat) : Nat → Nat := us.foldl (fun g u => down g d u) f
def und (ds : List Dm) (d : Nat) : List Nat := match ds[d]? with
  | none => []
  | some x => x.u
/-- From domain k - 1 down to 0. -/
def settleN (ds : List Dm) : Nat → (Nat → Nat) → (Nat → Nat)
  | 0, f => f
  | k + 1, f => settleN ds k (downs f k (und ds k))
def settle (ds : List Dm) (f : Nat → Nat) : Nat → Nat := settleN ds ds.length f
/-- Nothing stands higher than what it needs. -/
def Closed (ds : List Dm) (f : Nat → Nat) : Prop := ∀ d, ∀ u ∈ und ds d, f d ≤ f u
theorem down_le (f : Nat → Nat) (d u i : Nat) : f i ≤ down f d u i := by
  unfold down upd
  split
  · subst_vars; exact Nat.le_max_left _ _
  · exact Nat.le_refl _
theorem downs_le (d : Nat) : ∀ (us : List Nat) (f : Nat → Nat) (i : Nat), f i ≤ downs f d us i
  | [], f, i => Nat.le_refl _
  | u :: us, f, i => Nat.le_trans (down_le f d u i) (downs_le d us (down f d u) i)
theorem downs_same (d : Nat) : ∀ (us : List Nat) (f : Nat → Nat) (i : Nat), (∀ u ∈ us, u ≠ i) → downs f d us i = f i
  | [], f, i, _ => rfl
  | u :: us, f, i, h => by
    show downs (down f d u) d us i = f i
    rw [downs_same d us _ i (fun x hx => h x (List.mem_cons_of_mem _ hx))]
    exact upd_other f _ (fun e => h u (List.mem_cons_self ..) e.symm)
theorem downs_ge (d : Nat) : ∀ (us : List Nat) (f : Nat → Nat), (∀ u ∈ us, u ≠ d) → ∀ u ∈ us, f d ≤ downs f d us u
  | [], f, _, u, hu => by cases hu
  | v :: us, f, h, u, hu => by
    show f d ≤ downs (down f d v) d us u
    have hd : down f d v d = f d := upd_other f _ (fun e => h v (List.mem_cons_self ..) e.symm)
    rcases List.mem_cons.1 hu with rfl | hu
    · refine Nat.le_trans ?_ (downs_le d us _ u)
      unfold down
      rw [upd_same]
      exact Nat.le_max_right _ _
    · have := downs_ge d us (down f d v) (fun x hx => h x (List.mem_cons_of_mem _ hx)) u hu
      rw [hd] at this
      exact this
theorem downs_min (d : Nat) {g : Nat → Nat} : ∀ (us : List Nat) (f : Nat → Nat), (∀ u ∈ us, g d ≤ g u) → (∀ i, f i ≤ g i) → ∀ i, downs f d us i ≤ g i
  | [], f, _, h, i => h i
  | v :: us, f, hc, h, i => by
    refine downs_min d us (down f d v) (fun u hu => hc u (List.mem_cons_of_mem _ hu)) (fun j => ?_) i
    unfold down upd
    split
    · subst_vars
      have := hc j (List.mem_cons_self ..)
      have := h d
      have := h j
      omega
    · exact h j
theorem und_lt {ds : List Dm} (hok : Okd ds) {d u : Nat} (h : u ∈ und ds d) : u < d := by
  unfold und at h
  rcases Nat.lt_or_ge d ds.length with hd | hd
  · rw [List.getElem?_eq_getElem hd] at h
    exact hok.under d hd u h
  · rw [List.getElem?_eq_none hd] at h
    cases h
theorem settleN_le (ds : List Dm) : ∀ (k : Nat) (f : Nat → Nat) (i : Nat), f i ≤ settleN ds k f i
  | 0, f, i => Nat.le_refl _
  | k + 1, f, i => Nat.le_trans (downs_le k _ f i) (settleN_le ds k _ i)
theorem settleN_high {ds : List Dm} (hok : Okd ds) : ∀ (k : Nat) (f : Nat → Nat) (i : Nat), k ≤ i + 1 → settleN ds k f i = f i
  | 0, f, i, _ => rfl
  | k + 1, f, i, h => by
    show settleN ds k (downs f k (und ds k)) i = f i
    rw [settleN_high hok k _ i (by omega), downs_same]
    intro u hu e
    have := und_lt hok hu
    omega
theorem settleN_closed {ds : List Dm} (hok : Okd ds) : ∀ (k : Nat) (f : Nat → Nat), ∀ d, d < k → ∀ u ∈ und ds d, settleN ds k f d ≤ settleN ds k f u
  | 0, f, d, h, u, hu => by omega
  | k + 1, f, d, h, u, hu => by
    show settleN ds k (downs f k (und ds k)) d ≤ settleN ds k (downs f k (und ds k)) u
    rcases (show d < k ∨ d = k by omega) with h2 | rfl
    · exact settleN_closed hok k _ d h2 u hu
    · rw [settleN_high hok d _ d (by omega), downs_same d _ f d (fun x hx => by have := und_lt hok hx; omega)]
      exact Nat.le_trans (downs_ge d _ f (fun x hx => by have := und_lt hok hx; omega) u hu) (settleN_le ds d _ u)
theorem settleN_min {ds : List Dm} {g : Nat → Nat} (hg : Closed ds g) : ∀ (k : Nat) (f : Nat → Nat), (∀ i, f i ≤ g i) → ∀ i, settleN ds k f i ≤ g i
  | 0, f, h, i => h i
  | k + 1, f, h, i => settleN_min hg k _ (downs_min k _ f (hg k) h) i
theorem settle_le (ds : List Dm) (f : Nat → Nat) (i : Nat) : f i ≤ settle ds f i := settleN_le ds _ f i
theorem settle_closed {ds : List Dm} (hok : Okd ds) (f : Nat → Nat) : Closed ds (settle ds f) := fun d u hu => by
  rcases Nat.lt_or_ge d ds.length with h | h
  · exact settleN_closed hok _ f d h u hu
  · unfold und at hu
    rw [List.getElem?_eq_none h] at hu
    cases hu
theorem settle_min {ds : List Dm} {f g : Nat → Nat} (hg : Closed ds g) (h : ∀ i, f i ≤ g i) (i : Nat) : settle ds f i ≤ g i := settleN_min hg _ f h i
theorem settle_mono {ds : List Dm} (hok : Okd ds) {f g : Nat → Nat} (h : ∀ i, f i ≤ g i) (i : Nat) : settle ds f i ≤ settle ds g i :=
  settle_min (settle_closed hok g) (fun j => Nat.le_trans (h j) (settle_le ds g j)) i
/-- One more thing wanted, on top of what is settled. -/
theorem settle_more {ds : List Dm} (hok : Okd ds) (f : Nat → Nat) (d v : Nat) : settle ds (upd (settle ds f) d (max (settle ds f d) v)) = settle ds (upd f d (max (f d) v)) := by
  funext i
  have h1 : ∀ j, settle ds f j ≤ settle ds (upd f d (max (f d) v)) j := settle_mono hok fun j => by
    by_cases e : j = d
    · rw [e, upd_same]; exact Nat.le_max_left _ _
    · rw [upd_other _ _ e]; exact Nat.le_refl _
  refine Nat.le_antisymm (settle_min (settle_closed hok _) (fun j => ?_) i) (settle_mono hok (fun j => ?_) i)
  · by_cases e : j = d
    · rw [e, upd_same]
      have h2 := settle_le ds (upd f d (max (f d) v)) d
      rw [upd_same] at h2
      have h3 := h1 d
      omega
    · rw [upd_other _ _ e]; exact h1 j
  · by_cases e : j = d
    · rw [e, upd_same, upd_same]
      have := settle_le ds f d
      omega
    · rw [upd_other _ _ e, upd_other _ _ e]; exact settle_le ds f j
end Go.Proofs.Ytghcemfffhjmjaa
