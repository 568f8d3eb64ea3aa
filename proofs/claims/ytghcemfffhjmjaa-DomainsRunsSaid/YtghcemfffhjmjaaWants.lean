/- Who wants what: the map in memory. -/
import Derived.Test.YtghcemfffhjmjaaMem
import Derived.Maps.OwnSet
import Derived.Maps.RangeWalk
import Derived.DeepKeys4
set_option linter.unusedVariables false
namespace Go.Proofs.Ytghcemfffhjmjaa
open Go.RowKit
/-! Who wants what: a map keyed by a user and a domain. -/
def seat (u d : Int) : Value := .agg #[.int .i64 u, .int .i64 d]
theorem Try.laid_out : laidOutB Try.prog = true := by kernel_rfl
theorem Try.row66' : (66 : TypeId) < Try.prog.types.size := of_decide_eq_true (by kernel_rfl)
theorem Try.wide66 : (match Try.prog.underlying 66 with | some (.array _ _) | some (.struct _) => true | _ => false) = true := by kernel_rfl
set_option maxRecDepth 100000 in
theorem seat_law : Go.Maps.Keyed Try.prog 66 := Go.Maps.Keyed.of_law (deep_law_laid Try.laid_out (m := 2) (by omega) Try.row66' (by kernel_rfl) Try.wide66)
theorem Try.keyType66 : Try.prog.keyType 66 = true := by kernel_rfl
theorem Try.cells66 : Try.prog.cellsOf 66 = 2 := by kernel_rfl
theorem Try.cells3 : Try.prog.cellsOf 3 = 1 := by kernel_rfl
theorem seat_key (u d : Int) (hu : (Lit.int .i64 u).wf = true) (hd : (Lit.int .i64 d).wf = true) : ∃ kl, keyOf Try.prog 66 (seat u d) = some kl := by
  obtain ⟨m, hm⟩ : ∃ m, Try.prog.types.size = m + 1 := ⟨Try.prog.types.size - 1, (Nat.succ_pred_eq_of_pos (Nat.lt_of_le_of_lt (Nat.zero_le _) Try.row66')).symm⟩
  unfold keyOf seat
  rw [Try.underlying66]
  simp only [Try.keyType66, Value.formed, Try.underlying66, Try.cells66, hm]
  simp [Program.keyLits, Try.underlying66, Try.underlying3, Value.cells, Try.cells66, Try.cells3, hu, hd]
theorem seat_inj {u d u' d' : Int} (h : seat u d = seat u' d') : u = u' ∧ d = d' := by
  unfold seat at h
  simp only [Value.agg.injEq, Array.mk.injEq, List.cons.injEq, Value.int.injEq, true_and, and_true] at h
  exact h
/-- What is wanted, as a function; one thing changed. -/
def updW (W : Int → Int → Nat) (u d : Int) (v : Nat) : Int → Int → Nat := fun a b => if a = u ∧ b = d then v else W a b
theorem updW_same (W : Int → Int → Nat) (u d : Int) (v : Nat) : updW W u d v u d = v := by simp [updW]
theorem updW_other (W : Int → Int → Nat) {u d a b : Int} (v : Nat) (h : ¬ (a = u ∧ b = d)) : updW W u d v a b = W a b := by simp [updW, h]
/-- All that is wanted is wanted by a user, of a domain, at most 255. -/
structure Fitw (n : Nat) (W : Int → Int → Nat) : Prop where
  zero : ∀ u d, W u d ≠ 0 → ∃ u' d' : Nat, u = u' ∧ d = d' ∧ u' < 1024 ∧ d' < n
  le : ∀ u d, W u d ≤ 255
structure Reads (n : Nat) (D : DataW Unit) (W : Int → Int → Nat) : Prop where
  map : Go.Maps.IsMap D
  at_ : ∀ u d kl, keyOf Try.prog 66 (seat u d) = some kl → D.atKey kl (.lit (.int .u8 0)) = .lit (.int .u8 (W u d : Int))
  has : ∀ kl, Go.Maps.has D kl = true → ∃ u d : Nat, u < 1024 ∧ d < n ∧ keyOf Try.prog 66 (seat u d) = some kl
theorem reads_empty (n : Nat) : Reads n (.map []) (fun _ _ => 0) := ⟨Go.Maps.isMap_empty, fun u d kl _ => rfl, fun kl h => by simp [Go.Maps.has] at h⟩
theorem Reads.put {n : Nat} {D : DataW Unit} {W : Int → Int → Nat} (h : Reads n D W) {u d : Nat} (hu : u < 1024) (hd : d < n) {kl : Lit} (hk : keyOf Try.prog 66 (seat u d) = some kl) (v : Nat) : Reads n (D.put kl (.lit (.int .u8 v))) (updW W u d v) := by
  refine ⟨h.map.put _ _, fun a b kl' hkl => ?_, fun kl' hh => ?_⟩
  · by_cases e : kl' = kl
    · subst e
      obtain ⟨e1, e2⟩ := seat_inj (seat_law.inj hkl hk)
      subst e1 e2
      rw [Go.Maps.atKey_put_same h.map (seat_law.key hk), updW_same]
    · rw [Go.Maps.atKey_put_other e, updW_other _ _ (fun ⟨e1, e2⟩ => e (by subst e1 e2; rw [hk] at hkl; injection hkl with x; exact x.symm))]
      exact h.at_ a b kl' hkl
  · by_cases e : kl' = kl
    · subst e; exact ⟨u, d, hu, hd, hk⟩
    · rw [Go.Maps.has_put_other e] at hh
      exact h.has kl' hh
theorem Reads.del {n : Nat} {D : DataW Unit} {W : Int → Int → Nat} (h : Reads n D W) {u d : Int} {kl : Lit} (hk : keyOf Try.prog 66 (seat u d) = some kl) : Reads n (D.del kl) (updW W u d 0) := by
  refine ⟨?_, fun a b kl' hkl => ?_, fun kl' hh => ?_⟩
  · obtain ⟨es, rfl⟩ := h.map
    exact ⟨_, rfl⟩
  · by_cases e : kl' = kl
    · subst e
      obtain ⟨e1, e2⟩ := seat_inj (seat_law.inj hkl hk)
      subst e1 e2
      rw [Go.Maps.atKey_del_same, updW_same]
      rfl
    · rw [Go.Maps.atKey_del_other e, updW_other _ _ (fun ⟨e1, e2⟩ => e (by subst e1 e2; rw [hk] at hkl; injection hkl with x; exact x.symm))]
      exact h.at_ a b kl' hkl
  · by_cases e : kl' = kl
    · subst e; rw [Go.Maps.has_del_same] at hh; cases hh
    · rw [Go.Maps.has_del_other e] at hh
      exact h.has kl' hh
/-- Block mb holds what is wanted. -/
def WantsAt (w : World) (mb N n : Nat) (W : Int → Int → Nat) : Prop := ∃ D : DataW Unit, w.ownsMap Try.prog 66 (plainElem Try.prog 5) mb N D ∧ Reads n D W
theorem WantsAt.block {w w' : World} {mb N n : Nat} {W : Int → Int → Nat} (h : WantsAt w mb N n W) (hk : w'.heap[mb]? = w.heap[mb]?) : WantsAt w' mb N n W := by
  obtain ⟨D, ⟨es, clock, hb, F, hs, hD⟩, hr⟩ := h
  exact ⟨D, ⟨es, clock, hk.trans hb, F, hs, hD⟩, hr⟩
theorem WantsAt.lt {w : World} {mb N n : Nat} {W : Int → Int → Nat} (h : WantsAt w mb N n W) : mb < w.heap.size := by
  obtain ⟨D, ho, _⟩ := h
  exact ho.lt
theorem wants_made (w : World) (n : Nat) : WantsAt (w.alloc (.map #[] 0)) w.heap.size 0 n (fun _ _ => 0) := ⟨.map [], World.ownsMap_made w Try.prog 66 _, reads_empty n⟩
theorem zero5 (w : World) : (zeroValue 5).run Try.prog w = .ok (.int .u8 0) w := by kernel_rfl
theorem WantsAt.look {w : World} {mb N n : Nat} {W : Int → Int → Nat} (h : WantsAt w mb N n W) (u d : Int) (hu : (Lit.int .i64 u).wf = true) (hd : (Lit.int .i64 d).wf = true) :
    (Instr.lookup 59 (.map (some mb)) (seat u d) false).run Try.prog w = .ok (.int .u8 (W u d : Int)) w := by
  obtain ⟨D, ho, hr⟩ := h
  obtain ⟨kl, hk⟩ := seat_key u d hu hd
  obtain ⟨c, hrun, hat, _⟩ := ho.lookup_int seat_law Try.underlying59 Try.underlying5 (zero5 w) hk
  rw [hr.at_ u d kl hk] at hat
  injection hat with hat
  injection hat with _ hat
  rw [hrun, hat]
theorem WantsAt.add {w : World} {mb N n : Nat} {W : Int → Int → Nat} (h : WantsAt w mb N n W) {u d : Nat} (hu : u < 1024) (hd : d < n) (hn : n ≤ 256) (hN : N < maxLen) (v : Nat) (hv : v ≤ 255) :
    ∃ w', (Instr.mapUpdate 59 (.map (some mb)) (seat u d) (.int .u8 (v : Int))).run Try.prog w = .ok () w' ∧ WantsAt w' mb (N + 1) n (updW W u d v) ∧ w.grownBy w' (some mb) := by
  obtain ⟨D, ho, hr⟩ := h
  obtain ⟨kl, hk⟩ := seat_key u d (WalkArith.wf_i64 (by omega)) (WalkArith.wf_i64 (by omega))
  obtain ⟨w', hrun, ho', hg⟩ := ho.update seat_law Try.underlying59 hN hk (plainElem_int (q := .u8) Try.underlying5 (WalkArith.wf_u8 (n := (v : Int)) (by omega)))
  exact ⟨w', hrun, ⟨_, ho', hr.put hu hd hk v⟩, hg⟩
end Go.Proofs.Ytghcemfffhjmjaa
