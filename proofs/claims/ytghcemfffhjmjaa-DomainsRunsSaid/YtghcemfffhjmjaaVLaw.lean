/- What is wanted: the plain law of a vote; the map's steps. -/
import Derived.Test.YtghcemfffhjmjaaTurn
set_option linter.unusedVariables false
namespace Go.Proofs.Ytghcemfffhjmjaa
open Go.RowKit
/-- How much is wanted of a domain by anybody. -/
def bs (W : Int → Int → Nat) : Nat → Nat := baseF W fun _ _ => true
/-- How high all stand. -/
def lev (ds : List Dm) (W : Int → Int → Nat) : Nat → Nat := settle ds (bs W)
/-- Does no domain stand too high? -/
def TopOk (ds : List Dm) (f : Nat → Nat) : Prop := ∀ i (h : i < ds.length), f i ≤ ds[i].t
theorem bs_le {n : Nat} {W : Int → Int → Nat} (h : Fitw n W) (d : Nat) : bs W d ≤ 255 := base_le fun u _ _ => h.le u d
theorem settle_bound {ds : List Dm} {f : Nat → Nat} {b : Nat} (h : ∀ i, f i ≤ b) (i : Nat) : settle ds f i ≤ b := settle_min (g := fun _ => b) (fun _ _ _ => Nat.le_refl _) h i
theorem base_put (W : Int → Int → Nat) {u d : Nat} (hu : u < 1024) (v : Nat) : bs (updW W u d v) = upd (baseF W fun a b => !decide (a = (u : Int) ∧ b = (d : Int))) d (max (baseF W (fun a b => !decide (a = (u : Int) ∧ b = (d : Int))) d) v) := by
  funext e
  by_cases he : e = d
  · subst he
    rw [upd_same]
    refine Nat.le_antisymm (base_le fun u' hu' _ => ?_) (Nat.max_le.2 ⟨base_le fun u' hu' hk => ?_, ?_⟩)
    · by_cases hh : (u' : Int) = u
      · rw [hh, updW_same]; exact Nat.le_max_right _ _
      · rw [updW_other _ _ (fun x => hh x.1)]
        have := base_ge W (fun a b => !decide (a = (u : Int) ∧ b = (e : Int))) (u := u') (d := e) hu' (by simp [hh])
        omega
    · have hh : ¬ ((u' : Int) = u ∧ (e : Int) = e) := by simpa using hk
      have := base_ge (updW W u e v) (fun _ _ => true) (u := u') (d := e) hu' rfl
      rw [updW_other _ _ hh] at this
      exact this
    · have := base_ge (updW W u e v) (fun _ _ => true) (u := u) (d := e) hu rfl
      rw [updW_same] at this
      exact this
  · rw [upd_other _ _ he]
    have hne : ¬ (e : Int) = d := by omega
    refine Nat.le_antisymm (base_le fun u' hu' _ => ?_) (base_le fun u' hu' hk => ?_)
    · rw [updW_other _ _ (fun x => hne x.2)]
      exact base_ge W (fun a b => !decide (a = (u : Int) ∧ b = (d : Int))) (u := u') (d := e) hu' (by simp [hne])
    · have := base_ge (updW W u d v) (fun _ _ => true) (u := u') (d := e) hu' rfl
      rw [updW_other _ _ (fun x => hne x.2)] at this
      exact this
theorem lev_put {ds : List Dm} (hok : Okd ds) (W : Int → Int → Nat) {u d : Nat} (hu : u < 1024) (v : Nat) :
    settle ds (upd (settle ds (baseF W fun a b => !decide (a = (u : Int) ∧ b = (d : Int)))) d (max (settle ds (baseF W fun a b => !decide (a = (u : Int) ∧ b = (d : Int))) d) v)) = lev ds (updW W u d v) := by
  rw [settle_more hok, lev, base_put W hu]
theorem Fitw.put {n : Nat} {W : Int → Int → Nat} (h : Fitw n W) {u d : Nat} (hu : u < 1024) (hd : d < n) {v : Nat} (hv : v ≤ 255) : Fitw n (updW W u d v) := by
  refine ⟨fun a b hne => ?_, fun a b => ?_⟩
  · by_cases e : a = u ∧ b = d
    · exact ⟨u, d, e.1, e.2, hu, hd⟩
    · rw [updW_other _ _ e] at hne
      exact h.zero a b hne
  · by_cases e : a = u ∧ b = d
    · rw [e.1, e.2, updW_same]; exact hv
    · rw [updW_other _ _ e]; exact h.le a b
theorem fitw_none (n : Nat) : Fitw n (fun _ _ => 0) := ⟨fun _ _ h => absurd rfl h, fun _ _ => by omega⟩
theorem updW_twice (W : Int → Int → Nat) (u d : Int) (v v' : Nat) : updW (updW W u d v) u d v' = updW W u d v' := by
  funext a b
  unfold updW
  split <;> rfl
theorem updW_self (W : Int → Int → Nat) (u d : Int) : updW W u d (W u d) = W := by
  funext a b
  unfold updW
  split
  · rename_i h; rw [h.1, h.2]
  · rfl
theorem WantsAt.drop {w : World} {mb N n : Nat} {W : Int → Int → Nat} (h : WantsAt w mb N n W) {u d : Nat} (hu : u < 1024) (hd : d < 256) (ty : TypeId) :
    ∃ w', (Builtin.delete_ #[59, 66] ty #[.map (some mb), seat u d]).run Try.prog w = .ok (.tuple #[]) w' ∧ WantsAt w' mb N n (updW W u d 0) ∧ w.grownBy w' (some mb) := by
  obtain ⟨D, ho, hr⟩ := h
  obtain ⟨kl, hk⟩ := seat_key u d (WalkArith.wf_i64 (by omega)) (WalkArith.wf_i64 (by omega))
  obtain ⟨w', hrun, ho', hg⟩ := ho.drop seat_law Try.underlying59 hk ty
  exact ⟨w', hrun, ⟨_, ho', hr.del hk⟩, hg.grown⟩
/-- 'm[seat] = v' in a region that draws its order. -/
theorem step_put {w : World} {ops : Array Oper} {o : Oper} {a : Act} {K : Act → World → Prop} {Q : Exit → Act → World → Prop} {E : Prop} (hgd : o.guard = none) (m x y : Operand) (ho : o.op = .mapUpdate 59 m x y)
    {mb N n : Nat} {W : Int → Int → Nat} (hm : WantsAt w mb N n W) {u d : Nat} (hu : u < 1024) (hd : d < n) (hn : n ≤ 256) (hN : N < maxLen) (v : Nat) (hv : v ≤ 255)
    (h1 : a.eval m = .map (some mb)) (h2 : a.eval x = seat u d) (h3 : a.eval y = .int .u8 (v : Int))
    (h : ∀ w', WantsAt w' mb (N + 1) n (updW W u d v) → w.grownBy w' (some mb) → K (a.put o.dst undef) w') :
    if Region.wanted o (yielded ops a.tmps) = true then Oper.wp Try.prog o a w K Q else E := by
  have hw : Region.wanted o (yielded ops a.tmps) = true := by simp [Region.wanted, hgd]
  rw [if_pos hw]
  obtain ⟨w', hrun, r1, r2⟩ := hm.add hu hd hn hN v hv
  unfold Oper.wp
  simp [execOp, ho, h1, h2, h3, hrun, Result.andThen]
  exact h w' r1 r2
/-- 'delete(m, seat)' in a region that draws its order. -/
theorem step_del {w : World} {ops : Array Oper} {o : Oper} {a : Act} {K : Act → World → Prop} {Q : Exit → Act → World → Prop} {E : Prop} (hgd : o.guard = none) (m x : Operand) (ho : o.op = .call { callee := .builtin .delete, args := #[m, x], argTypes := #[59, 66] })
    {mb N n : Nat} {W : Int → Int → Nat} (hm : WantsAt w mb N n W) {u d : Nat} (hu : u < 1024) (hd : d < 256)
    (h1 : a.eval m = .map (some mb)) (h2 : a.eval x = seat u d)
    (h : ∀ w', WantsAt w' mb N n (updW W u d 0) → w.grownBy w' (some mb) → K (a.put o.dst (.tuple #[])) w') :
    if Region.wanted o (yielded ops a.tmps) = true then Oper.wp Try.prog o a w K Q else E := by
  have hw : Region.wanted o (yielded ops a.tmps) = true := by simp [Region.wanted, hgd]
  rw [if_pos hw]
  obtain ⟨w', hrun, r1, r2⟩ := hm.drop hu hd o.type
  unfold Oper.wp
  simp only [execOp, ho, resolve, invoke, builtin, Sem.run_bind, Sem.run_pure, Result.andThen_ok, List.map_toArray, List.map_cons, List.map_nil, h1, h2, hrun]
  exact h w' r1 r2
end Go.Proofs.Ytghcemfffhjmjaa
