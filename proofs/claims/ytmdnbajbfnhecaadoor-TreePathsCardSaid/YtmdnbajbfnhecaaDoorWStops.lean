/- What Walk hands back: the contract of the iterator. -/
import Derived.RangeFuncNested
import Derived.RangeFuncBound
import Derived.RangeFuncCalls
import Derived.RangeFuncLeaves
import Derived.RangeFuncFrom
import Derived.Shelf.Abstract
import Derived.Shelf.RegionOpen
import Derived.WalkKit
import Derived.OwnWalkIn
import Derived.TacticsInMore
import Derived.LoopNIn
import Derived.LoopIn
import Derived.Test.YtmdnbajbfnhecaaDoorWWalk
set_option linter.unusedVariables false
namespace Go.Proofs.YtmdnbajbfnhecaaDoor
open Go.RowKit Go.Shelf
attribute [local go_sem] Oper.semAt_some
/-- What has come when k rounds are over. -/
def upto {α : Type} (f : Nat → α) (k : Nat) : List α := (List.range k).map f
theorem upto_succ {α : Type} (f : Nat → α) (k : Nat) : upto f (k + 1) = upto f k ++ [f k] := by simp [upto, List.range_succ]
theorem upto_length {α : Type} (f : Nat → α) (k : Nat) : (upto f k).length = k := by simp [upto]
/-- The pairs that come: a path and its place. -/
def pairOf (ps : List ByteArray) (j : Nat) : ByteArray × Nat := (ps[j]?.getD ByteArray.empty, j)
set_option maxRecDepth 100000 in
set_option maxHeartbeats 2000000 in
theorem clos1_in (F : Fence) (n : Nat) (h8 : F.fn 62) (hro : F.round = none) (hn : 1 ≤ n) (l Bs n₀ b off len cap : Nat) (ps : List ByteArray) (hreach : len ≤ 1000) (hb : b < n₀) (J Jx : List (ByteArray × Nat) → World → Prop)
    (hY : ∀ pre x W, J pre W → pre.length < len → YieldAt F (n - 1) Tryd.prog l #[.string x.1, .int .i64 (x.2 : Int)] W fun e W' =>
      (e = .returned (.bool true) ∧ J (pre ++ [x]) W' ∧ Below n₀ W W') ∨ (e = .returned (.bool false) ∧ Jx (pre ++ [x]) W'))
    (W : World) (hBs : W.cell? ⟨Bs, 0, none⟩ = some (.slice (some ⟨b, off, none⟩) len cap)) (hc : ∀ j, j < len → W.cell? ⟨b, off + j, none⟩ = some (.string (ps[j]?.getD ByteArray.empty))) (h0 : J [] W) :
    CallsIn F n Tryd.prog 62 #[.func (.yield l) #[] #[], .pointer (some ⟨Bs, 0, none⟩)] W fun e W' => (∃ v, e = .returned v) ∧
      ((∃ ys, ys = upto (pairOf ps) len ∧ J ys W') ∨ (∃ pre, (∃ k, k ≤ len ∧ pre = upto (pairOf ps) k) ∧ Jx pre W')) := by
  refine callsIn_of_wp Tryd.func62 rfl h8 ?_ hro
  simp only [Tryd.ntmps62, List.size_toArray, List.length_cons, List.length_nil, Nat.reduceAdd, Nat.reduceSub, Array.replicate_succ, Array.replicate_zero, List.push_toArray, List.append_toArray, List.nil_append, List.cons_append]
  gi_wp2
  gi_loopw [7] (fun i wr => ∃ k : Nat, k ≤ len ∧ i = .int .i64 k ∧ J (upto (pairOf ps) k) wr ∧ Below n₀ W wr)
    (fun i _ => len - (intOf i).toNat)
  case atStart => exact ⟨0, Nat.zero_le _, rfl, h0, Below.refl _ _⟩
  case round =>
    obtain ⟨k, hk, rfl, hJs, hnx⟩ := hrel
    have hcx : k < len → wr.cell? ⟨b, off + k, none⟩ = some (.string (ps[k]?.getD ByteArray.empty)) := fun h => (hnx.cell (p := ⟨b, off + k, none⟩) hb).trans (hc k h)
    by_cases hlt : k < len
    · obtain ⟨fn, tmps, assign, body, hy, hR⟩ := hY _ (ps[k]?.getD ByteArray.empty, k) wr hJs (by rw [upto_length]; exact hlt)
      dsimp only at hy
      have hcx' := hcx hlt
      gi_wp2
      refine hR.mono ?_
      rintro e W3 (⟨rfl, hJ3, hk3⟩ | ⟨rfl, hJx3⟩)
      · gi_wp2
        go_roundw
        case rel => exact ⟨k + 1, by omega, by simp, by rw [upto_succ]; exact hJ3, hnx.trans hk3⟩
        case measure => simp [intOf]; omega
      · gi_wp2
        refine bodyPost_ret (results_none rfl _ _ _) rfl ?_
        exact ⟨⟨_, rfl⟩, .inr ⟨_, ⟨k + 1, by omega, (upto_succ _ _).symm⟩, hJx3⟩⟩
    · obtain rfl : k = len := by omega
      gi_wp2
      go_end0
      exact ⟨⟨_, rfl⟩, .inl ⟨_, rfl, hJs⟩⟩
set_option maxRecDepth 100000 in
set_option maxHeartbeats 1000000 in
theorem clos1_nil_in (F : Fence) (n : Nat) (h8 : F.fn 62) (hro : F.round = none) (l Bs c : Nat) (A : Option Addr) (J : List (ByteArray × Nat) → World → Prop) (W : World) (hBs : W.cell? ⟨Bs, 0, none⟩ = some (.slice A 0 c)) (h0 : J [] W) :
    CallsIn F n Tryd.prog 62 #[.func (.yield l) #[] #[], .pointer (some ⟨Bs, 0, none⟩)] W fun e W' => (∃ v, e = .returned v) ∧ J [] W' := by
  refine callsIn_of_wp Tryd.func62 rfl h8 ?_ hro
  simp only [Tryd.ntmps62, List.size_toArray, List.length_cons, List.length_nil, Nat.reduceAdd, Nat.reduceSub, Array.replicate_succ, Array.replicate_zero, List.push_toArray, List.append_toArray, List.nil_append, List.cons_append]
  gi_wp2
  gi_loopw [7] (fun i wr => i = .int .i64 0 ∧ J [] wr) (fun _ _ => 0)
  case atStart => exact ⟨rfl, h0⟩
  case round =>
    obtain ⟨rfl, hJs⟩ := hrel
    gi_wp2
    go_end0
    exact ⟨⟨_, rfl⟩, hJs⟩
/-- The function value that Walk hands back: all pairs, or the first k of them. -/
theorem clos_stops (F : Fence) (n : Nat) (h8 : F.fn 62) (hro : F.round = none) (hn : 1 ≤ n) (Bs base n₀ : Nat) (A : Option Addr) (m c : Nat) (ps : List ByteArray) (hreach : ps.length ≤ 1000) (w : World) (hn₀ : n₀ ≤ w.heap.size)
    (hp : PathsAt w Bs base A m c ps) (hlt : ∀ g, (Value.slice A m c).ownBlock = some g → g < n₀) (hBs : Bs < n₀) :
    SeqStopsK F n Tryd.prog 62 #[.pointer (some ⟨Bs, 0, none⟩)] (fun x : ByteArray × Nat => #[Value.string x.1, Value.int .i64 (x.2 : Int)]) (Below n₀) (fun ys => ys = upto (pairOf ps) ps.length)
      (fun pre => ∃ k, k ≤ ps.length ∧ pre = upto (pairOf ps) k) ps.length w := fun l J Jx W hW _ _ hY h0 => by
  have hc0 := hp.box.cell (k := 0) (by simp)
  simp only [List.getElem?_cons_zero] at hc0
  have hc' := (hW.cell (p := ⟨Bs, 0, none⟩) hp.box.lt).trans hc0
  obtain rfl := hp.len
  rcases Nat.eq_zero_or_pos ps.length with h | h
  · rw [h] at hc'
    exact (clos1_nil_in F n h8 hro l Bs c A J W hc' h0).mono fun e W' ⟨he, hj⟩ => ⟨he, .inl ⟨[], by rw [h]; rfl, hj⟩⟩
  · obtain ⟨g, rfl, _, hg⟩ := own_head hp.row h
    refine (clos1_in F n h8 hro hn l Bs n₀ g 0 ps.length c ps hreach (hlt g rfl) J Jx hY W hc' (fun j hj => ?_) h0).mono ?_
    · have := hp.row.cells (g := g) rfl j (.string ps[j]) (by unfold strV; simp [hj])
      rw [addr_add] at this
      rw [hW.cell (p := ⟨g, 0 + j, none⟩) hg, this, List.getElem?_eq_getElem hj]
      rfl
    · rintro e W' ⟨he, ⟨ys, rfl, hj⟩ | ⟨pre, ⟨k, hk, rfl⟩, hj⟩⟩
      · exact ⟨he, .inl ⟨_, rfl, hj⟩⟩
      · exact ⟨he, .inr ⟨_, ⟨k, hk, rfl⟩, hj⟩⟩
end Go.Proofs.YtmdnbajbfnhecaaDoor
