/- ranges.space; the document's value, number, one, cells: the contracts. -/
import Derived.Test.YtndocngkganpdaaRgCnt
set_option linter.unusedVariables false
namespace Go.Proofs.Ytndocngkganpdaa
open Go.RowKit
/-- What space and cells give. -/
def spcF (ps : List Pr) : Nat × Nat × Nat := match cellsF ps with
  | some (a, b) => (a, b, 0)
  | none => (0, 0, 4)
theorem cnt_some {ps : List Pr} {k : ByteArray} {df least n : Nat} (h : oneF ps k df least = some n) : cntF ps k df least = (n, 0) := by unfold cntF; rw [h]
theorem cnt_none {ps : List Pr} {k : ByteArray} {df least : Nat} (h : oneF ps k df least = none) : cntF ps k df least = (0, 4) := by unfold cntF; rw [h]
set_option maxRecDepth 100000 in
set_option maxHeartbeats 16000000 in
theorem space_any (p : Int) (nm : ByteArray) (A : Option Addr) (c n : Nat) (ps : List Pr) (hn : n = ps.length) (hl : n ≤ 4398046511104) (hsh : Short ps) (w : World) (B : Nat) (hB : B ≤ w.heap.size) (hs : Seg w B A (prCells ps)) :
    Calls Try.prog 48 #[.agg #[.int .i64 p, .string nm, .slice A n c]] w fun e w' => e = .returned (.tuple #[.int .i64 ((spcF ps).1 : Nat), .int .i64 ((spcF ps).2.1 : Nat), .int .i64 ((spcF ps).2.2 : Nat)]) ∧ Below w.heap.size w w' := by
  obtain ⟨w0, hw0⟩ : ∃ w0, w0 = w.alloc (.cells #[.int .i64 p, .string nm, .slice A n c] 42) := ⟨_, rfl⟩
  have hb0 : Below w.heap.size w w0 := by rw [hw0]; exact (Below.refl _ w).alloc (Nat.le_refl _) _
  have z0 : w0.heap[w.heap.size]? = some (.cells #[.int .i64 p, .string nm, .slice A n c] 42) := by rw [hw0]; exact heap_alloc_new _ _
  have hlt0 : w.heap.size < w0.heap.size := by rw [hw0]; simp
  have HB0 := Lib.hid hb0
  have Z0 := Lib.hid z0
  have CA : ∀ W, Below w.heap.size w W → Calls Try.prog 61 #[.agg #[.int .i64 p, .string nm, .slice A n c], .string kA, .int .u32 (1 : Nat), .int .u32 (2 : Nat)] W fun e w' => e = .returned (.tuple #[.int .i64 ((cntF ps kA 2 1).1 : Nat), .int .i64 ((cntF ps kA 2 1).2 : Nat)]) ∧ Below W.heap.size W w' := fun W hW => count_any p nm A c n ps hn hl hsh kA 1 2 (by omega) (by omega) W B (Nat.le_trans hB hW.size) (hs.below (hW.mono hB))
  have CS : ∀ W, Below w.heap.size w W → Calls Try.prog 61 #[.agg #[.int .i64 p, .string nm, .slice A n c], .string kS, .int .u32 (0 : Nat), .int .u32 (1 : Nat)] W fun e w' => e = .returned (.tuple #[.int .i64 ((cntF ps kS 1 0).1 : Nat), .int .i64 ((cntF ps kS 1 0).2 : Nat)]) ∧ Below W.heap.size W w' := fun W hW => count_any p nm A c n ps hn hl hsh kS 0 1 (by omega) (by omega) W B (Nat.le_trans hB hW.size) (hs.below (hW.mono hB))
  have HN := Lib.hid hn
  clear hn
  cases h1 : oneF ps kA 2 1 with
  | none =>
    have e : spcF ps = (0, 0, 4) := by unfold spcF cellsF; rw [h1]
    rw [e]
    rw [cnt_none h1] at CA
    have HA := Lib.hid (CA _ hb0)
    have HS := Lib.hid CS
    clear CA CS h1 e hb0 z0 hs hsh
    subst hw0
    go_enter Try.func48, Try.ntmps48
    go_wp2_with (first
      | (go_at_call 61; first
          | (refine (HS.out _ HB1.out).mono ?_; rintro e w2 ⟨rfl, hb2⟩
             have HB2 := Lib.hid (HB1.out.trans (hb2.mono HB1.out.size))
             clear hb2)
          | (refine HA.out.mono ?_; rintro e w1 ⟨rfl, hb1⟩
             have HB1 := Lib.hid (HB0.out.trans (hb1.mono HB0.out.size))
             have z1 : w1.heap[w.heap.size]? = some (.cells #[.int .i64 p, .string nm, .slice A n c] 42) := (hb1.block _ hlt0).trans Z0.out
             have c0 : w1.cell? ⟨w.heap.size, 0, none⟩ = some (.int .i64 p) := (by rw [cell_of_row _ _ _ _ _ _ z1]; rfl)
             have c1 : w1.cell? ⟨w.heap.size, 1, none⟩ = some (.string nm) := (by rw [cell_of_row _ _ _ _ _ _ z1]; rfl)
             have c2 : w1.cell? ⟨w.heap.size, 2, none⟩ = some (.slice A n c) := (by rw [cell_of_row _ _ _ _ _ _ z1]; rfl)
             clear hb1 z1))
      | fail)
    go_ret3
    exact ⟨rfl, HB2.out⟩
  | some a =>
    rw [cnt_some h1] at CA
    have HA := Lib.hid (CA _ hb0)
    cases h2 : oneF ps kS 1 0 with
    | none =>
      have e : spcF ps = (0, 0, 4) := by unfold spcF cellsF; rw [h1, h2]
      rw [e]
      rw [cnt_none h2] at CS
      have HS := Lib.hid CS
      clear CA CS h1 h2 e hb0 z0 hs hsh
      subst hw0
      go_enter Try.func48, Try.ntmps48
      go_wp2_with (first
        | (go_at_call 61; first
            | (refine (HS.out _ HB1.out).mono ?_; rintro e w2 ⟨rfl, hb2⟩
               have HB2 := Lib.hid (HB1.out.trans (hb2.mono HB1.out.size))
               clear hb2)
            | (refine HA.out.mono ?_; rintro e w1 ⟨rfl, hb1⟩
               have HB1 := Lib.hid (HB0.out.trans (hb1.mono HB0.out.size))
               have z1 : w1.heap[w.heap.size]? = some (.cells #[.int .i64 p, .string nm, .slice A n c] 42) := (hb1.block _ hlt0).trans Z0.out
               have c0 : w1.cell? ⟨w.heap.size, 0, none⟩ = some (.int .i64 p) := (by rw [cell_of_row _ _ _ _ _ _ z1]; rfl)
               have c1 : w1.cell? ⟨w.heap.size, 1, none⟩ = some (.string nm) := (by rw [cell_of_row _ _ _ _ _ _ z1]; rfl)
               have c2 : w1.cell? ⟨w.heap.size, 2, none⟩ = some (.slice A n c) := (by rw [cell_of_row _ _ _ _ _ _ z1]; rfl)
               clear hb1 z1))
        | fail)
      go_ret3
      exact ⟨rfl, HB2.out⟩
    | some b =>
      have e : spcF ps = (a, b, 0) := by unfold spcF cellsF; rw [h1, h2]
      rw [e]
      rw [cnt_some h2] at CS
      have HS := Lib.hid CS
      clear CA CS h1 h2 e hb0 z0 hs hsh
      subst hw0
      go_enter Try.func48, Try.ntmps48
      go_wp2_with (first
        | (go_at_call 61; first
            | (refine (HS.out _ HB1.out).mono ?_; rintro e w2 ⟨rfl, hb2⟩
               have HB2 := Lib.hid (HB1.out.trans (hb2.mono HB1.out.size))
               clear hb2)
            | (refine HA.out.mono ?_; rintro e w1 ⟨rfl, hb1⟩
               have HB1 := Lib.hid (HB0.out.trans (hb1.mono HB0.out.size))
               have z1 : w1.heap[w.heap.size]? = some (.cells #[.int .i64 p, .string nm, .slice A n c] 42) := (hb1.block _ hlt0).trans Z0.out
               have c0 : w1.cell? ⟨w.heap.size, 0, none⟩ = some (.int .i64 p) := (by rw [cell_of_row _ _ _ _ _ _ z1]; rfl)
               have c1 : w1.cell? ⟨w.heap.size, 1, none⟩ = some (.string nm) := (by rw [cell_of_row _ _ _ _ _ _ z1]; rfl)
               have c2 : w1.cell? ⟨w.heap.size, 2, none⟩ = some (.slice A n c) := (by rw [cell_of_row _ _ _ _ _ _ z1]; rfl)
               clear hb1 z1))
        | fail)
      go_ret3
      exact ⟨rfl, HB2.out⟩
end Go.Proofs.Ytndocngkganpdaa
