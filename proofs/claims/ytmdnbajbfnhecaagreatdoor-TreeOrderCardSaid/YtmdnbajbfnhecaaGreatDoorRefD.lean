/- The document's has and above: the contracts. The document's props: the contract. The document's next: the contract. The document's Check: the contract. -/
import Derived.Test.YtmdnbajbfnhecaaGreatDoorName
import Derived.Test.YtmdnbajbfnhecaaGreatDoorPush
set_option linter.unusedVariables false
namespace Go.Proofs.YtmdnbajbfnhecaaGreatDoor
open Go.RowKit
theorem Tryz.info3 : (Tryz.prog.info? 3).map (fun i => (i.zero, i.size, i.bytes)) = some (some (.int .i64 0), 1, 8) := by kernel_rfl
theorem contains_take (zs : List Int) (k : Nat) (x : Int) (h : k < zs.length) : (zs.take (k + 1)).contains x = ((zs.take k).contains x || (zs[k] == x)) := by
  rw [List.take_succ_eq_append_getElem h, Bool.eq_iff_iff]
  simp only [List.contains_iff_mem, List.mem_append, List.mem_singleton, Bool.or_eq_true, beq_iff_eq]
  exact or_congr Iff.rfl eq_comm
theorem contains_hit (zs : List Int) (k : Nat) (x : Int) (h : k < zs.length) (e : zs[k] = x) : zs.contains x = true := by
  rw [List.contains_iff_mem, ← e]
  exact List.getElem_mem h
theorem par_get (l : List Nm) {k : Nat} (hk : k < l.length) : parAt (dat l) k = l[k].d.p := by
  unfold parAt
  rw [Int.toNat_natCast, List.getElem?_eq_getElem (by rw [dat_len]; exact hk)]
  simp [dat]
end Go.Proofs.YtmdnbajbfnhecaaGreatDoor

set_option linter.unusedVariables false
namespace Go.Proofs.YtmdnbajbfnhecaaGreatDoor
open Go.RowKit
theorem str_inj {t s : ByteArray} (h : t.toList = s.toList) : t = s := by
  rw [ByteArray.toList_eq, ByteArray.toList_eq] at h
  obtain ⟨a⟩ := t
  obtain ⟨b⟩ := s
  have : a = b := Array.toList_inj.1 h
  rw [this]
theorem str_ne {t s : ByteArray} (h : t ≠ s) : (t.toList == s.toList) = false := by
  rw [beq_eq_false_iff_ne]
  exact fun e => h (str_inj e)
theorem props_no {ps : List Pr} {k : Nat} (hk : k < ps.length) (h : propOkB ps k = false) : propsB ps = false := by
  unfold propsB
  rw [Bool.and_eq_false_iff]
  right
  rw [Bool.eq_false_iff]
  intro hh
  have := all_range.1 hh k hk
  rw [h] at this
  cases this
theorem props_yes {ps : List Pr} (h1 : ps.length ≤ 32) (h : ∀ i, i < ps.length → propOkB ps i = true) : propsB ps = true := by
  unfold propsB
  rw [decide_eq_true h1, Bool.true_and]
  exact all_range.2 h
theorem prop_name {ps : List Pr} {k : Nat} (hk : k < ps.length) (h : nameB ps[k].n.data.toList = false) : propOkB ps k = false := by
  rw [prop_some hk, h]; rfl
theorem prop_val {ps : List Pr} {k : Nat} (hk : k < ps.length) (h : ¬ ps[k].v.size ≤ 1024) : propOkB ps k = false := by
  rw [prop_some hk, decide_eq_false h]; simp
theorem prop_twin {ps : List Pr} {k j : Nat} (hk : k < ps.length) (hj : j < k) (h : ps[j].n = ps[k].n) : propOkB ps k = false := by
  rw [prop_some hk, Bool.and_eq_false_iff]
  right
  rw [Bool.eq_false_iff]
  intro hh
  exact (apart_iff (by omega) _).1 hh j (by omega) hj h
theorem prop_good {ps : List Pr} {k : Nat} (hk : k < ps.length) (h1 : nameB ps[k].n.data.toList = true) (h2 : ps[k].v.size ≤ 1024) (h3 : ∀ (j : Nat) (h : j < ps.length), j < k → ps[j].n ≠ ps[k].n) : propOkB ps k = true := by
  rw [prop_some hk, h1, decide_eq_true h2, (apart_iff (by omega) _).2 h3]
  rfl
end Go.Proofs.YtmdnbajbfnhecaaGreatDoor

set_option linter.unusedVariables false
namespace Go.Proofs.YtmdnbajbfnhecaaGreatDoor
open Go.RowKit
theorem str_nil (s : ByteArray) : s.toList.isEmpty = decide (s = ByteArray.empty) := by
  rw [ByteArray.toList_eq]
  obtain ⟨⟨l⟩⟩ := s
  rw [Bool.eq_iff_iff]
  simp only [List.isEmpty_iff, decide_eq_true_eq]
  constructor
  · rintro h
    show ByteArray.mk ⟨l⟩ = ByteArray.mk #[]
    rw [show l = [] from h]
  · intro h
    have := congrArg (fun b => b.data.toList) h
    exact this
/-- Whether a node fits, by its parts. -/
structure Fits (r : Bool) (l : List Nd) (i : Nat) (P : Int) (s : ByteArray) (bp bn : Bool) : Prop where
  big : 512 ≤ i → r = false
  props : bp = false → r = false
  root : i = 0 → bp = true → r = ((P == -1) && s.toList.isEmpty)
  name : i ≠ 0 → bn = false → r = false
  neg : i ≠ 0 → P < 0 → r = false
  late : i ≠ 0 → (i : Int) ≤ P → r = false
  path : i ≠ 0 → (above l ((i : Int) - 1)).contains P = false → r = false
  deep : i ≠ 0 → 16 < (above l P).length + 1 → r = false
  twin : ∀ (j : Nat) (h : j < l.length), 1 ≤ j → j < i → l[j].p = P → l[j].n = s → r = false
  ok : i ≠ 0 → i < 512 → bp = true → bn = true → 0 ≤ P → P < i → (above l ((i : Int) - 1)).contains P = true → (above l P).length + 1 ≤ 16 →
    (∀ (j : Nat) (h : j < l.length), 1 ≤ j → j < i → l[j].p = P → l[j].n ≠ s) → r = true
theorem fits {l : List Nd} {i : Nat} (hi : i < l.length) : Fits (nodeOkB l i) l i l[i].p l[i].n (propsB l[i].ps) (nameB l[i].n.data.toList) := by
  have hcast : i ≠ 0 → ((i - 1 : Nat) : Int) = (i : Int) - 1 := by omega
  refine ⟨?_, ?_, ?_, ?_, ?_, ?_, ?_, ?_, ?_, ?_⟩
  · intro h
    rw [node_some hi (by omega), decide_eq_false (by omega)]; rfl
  · intro h
    by_cases h0 : i = 0
    · subst h0; rw [node_zero hi, h]; rfl
    · rw [node_some hi h0, h]; simp
  · intro h0 h
    subst h0
    rw [node_zero hi, h, str_nil]; rfl
  · intro h0 h
    rw [node_some hi h0, h]; simp
  · intro h0 h
    rw [node_some hi h0, decide_eq_false (show ¬ 0 ≤ l[i].p by omega)]; simp
  · intro h0 h
    rw [node_some hi h0, decide_eq_false (show ¬ l[i].p < i by omega)]; simp
  · intro h0 h
    rw [node_some hi h0, hcast h0, h]; simp
  · intro h0 h
    rw [node_some hi h0, decide_eq_false (show ¬ (above l l[i].p).length + 1 ≤ 16 by omega)]; simp
  · intro j hj h1 h2 h3 h4
    rw [node_some hi (by omega), (twin_iff (by omega) _ _).2 ⟨j, hj, h1, h2, h3, h4⟩]; simp
  · intro h0 a1 a2 a3 a4 a5 a6 a7 a8
    have ht : twinB l i l[i].p l[i].n = false := by
      rw [Bool.eq_false_iff]
      intro ht
      obtain ⟨j, hj, h1, h2, h3, h4⟩ := (twin_iff (by omega) _ _).1 ht
      exact a8 j hj h1 h2 h3 h4
    rw [node_some hi h0, hcast h0, a2, a3, a6, ht, decide_eq_true a1, decide_eq_true a4, decide_eq_true a5, decide_eq_true a7]; rfl
end Go.Proofs.YtmdnbajbfnhecaaGreatDoor

set_option linter.unusedVariables false
namespace Go.Proofs.YtmdnbajbfnhecaaGreatDoor
open Go.RowKit
/-- What memory holds of a list of nodes. -/
structure Sized (l : List Nm) : Prop where
  n : l.length * 48 ≤ 140737488355328
  small : Small (dat l)
  props : ∀ x ∈ l, x.d.ps.length * 32 ≤ 140737488355328
  wf : ∀ x ∈ l, (Lit.int .i64 x.d.p).wf = true
end Go.Proofs.YtmdnbajbfnhecaaGreatDoor
