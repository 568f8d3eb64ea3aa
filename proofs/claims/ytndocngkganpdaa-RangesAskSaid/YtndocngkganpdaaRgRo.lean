/- The document's one and cells: the contracts. -/
import Derived.Test.YtndocngkganpdaaRgVr
set_option linter.unusedVariables false
namespace Go.Proofs.Ytndocngkganpdaa
open Go.RowKit
/-- What one gives. -/
def oneI (ps : List Pr) (k : ByteArray) (df least : Nat) : Int := match oneF ps k df least with
  | some n => (n : Int)
  | none => -1
set_option maxRecDepth 100000 in
set_option maxHeartbeats 16000000 in
theorem rone_any (p : Int) (nm : ByteArray) (A : Option Addr) (c n : Nat) (ps : List Pr) (hn : n = ps.length) (hl : n ≤ 4398046511104) (k : ByteArray) (df least : Nat) (hle : least ≤ 2) (hdf : df ≤ 2) (w : World) (B : Nat) (hB : B ≤ w.heap.size) (hs : Seg w B A (prCells ps)) :
    Calls Try.prog 67 #[.agg #[.int .i64 p, .string nm, .slice A n c], .string k, .int .i64 (df : Nat), .int .i64 (least : Nat)] w fun e w' => e = .returned (.int .i64 (oneI ps k df least)) ∧ Below w.heap.size w w' := by
  have hb0 : Below w.heap.size w (w.alloc (.cells #[.int .i64 p, .string nm, .slice A n c] 42)) := (Below.refl _ w).alloc (Nat.le_refl _) _
  have VA := rvalue_any p nm A c n ps hn hl k (w.alloc (.cells #[.int .i64 p, .string nm, .slice A n c] 42)) B (Nat.le_trans hB hb0.size) (hs.below (hb0.mono hB))
  have HB0 := Lib.hid hb0
  have hs0 := hb0.size
  clear hb0 hn hs hB
  cases hv : valF ps k with
  | none =>
    have e1 : valV ps k = (⟨#[]⟩, false) := by unfold valV; rw [hv]
    have e2 : oneI ps k df least = (df : Int) := by unfold oneI oneF; rw [hv]
    rw [e1] at VA
    rw [e2]
    have HV := Lib.hid VA
    clear VA e1 e2 hv
    go_enter Try.func67, Try.ntmps67
    go_wp2_with (first
      | (go_at_call 65; refine HV.out.mono ?_; rintro e w1 ⟨rfl, hb1⟩
         have HB1 := Lib.hid (HB0.out.trans (hb1.mono hs0))
         clear hb1)
      | fail)
    go_ret
    exact ⟨rfl, HB1.out⟩
  | some v =>
    have e1 : valV ps k = (v, true) := by unfold valV; rw [hv]
    rw [e1] at VA
    have HV := Lib.hid VA
    by_cases h4 : v.size = 4
    · have hn4 := num_u32 (nl_lt v) (by rw [nl_len]; omega)
      have NU := fun W => number_any v (by omega) W
      have e2 : oneI ps k df least = if num (nl v) ≤ 2 ∧ least ≤ num (nl v) then (num (nl v) : Int) else -1 := by
        unfold oneI oneF; rw [hv]; simp only [h4, true_and]; split <;> split <;> simp_all
      rw [e2]
      obtain ⟨m, hm⟩ : ∃ m, m = num (nl v) := ⟨_, rfl⟩
      rw [← hm] at hn4 NU ⊢
      have HU := Lib.hid NU
      have h4i : (v.size : Int) = 4 := by omega
      by_cases hhi : m ≤ 2
      · have d1 : ¬ (2 : Int) < (m : Int) := by omega
        by_cases hlo : m < least
        · rw [if_neg (by omega)]
          have d2 : (m : Int) < (least : Int) := by omega
          clear VA e1 e2 hv NU hm
          go_enter Try.func67, Try.ntmps67
          go_wp2_with (first
            | (go_at_call 65; refine HV.out.mono ?_; rintro e w1 ⟨rfl, hb1⟩
               have HB1 := Lib.hid (HB0.out.trans (hb1.mono hs0))
               clear hb1)
            | (go_at_call 66; refine (HU.out _).mono ?_; rintro e w2 ⟨rfl, rfl⟩)
            | fail)
          go_ret
          exact ⟨rfl, HB1.out⟩
        · rw [if_pos (by omega)]
          have d2 : ¬ (m : Int) < (least : Int) := by omega
          clear VA e1 e2 hv NU hm
          go_enter Try.func67, Try.ntmps67
          go_wp2_with (first
            | (go_at_call 65; refine HV.out.mono ?_; rintro e w1 ⟨rfl, hb1⟩
               have HB1 := Lib.hid (HB0.out.trans (hb1.mono hs0))
               clear hb1)
            | (go_at_call 66; refine (HU.out _).mono ?_; rintro e w2 ⟨rfl, rfl⟩)
            | fail)
          go_ret
          exact ⟨rfl, HB1.out⟩
      · rw [if_neg (by omega)]
        have d1 : (2 : Int) < (m : Int) := by omega
        by_cases hlo : m < least
        · have d2 : (m : Int) < (least : Int) := by omega
          clear VA e1 e2 hv NU hm
          go_enter Try.func67, Try.ntmps67
          go_wp2_with (first
            | (go_at_call 65; refine HV.out.mono ?_; rintro e w1 ⟨rfl, hb1⟩
               have HB1 := Lib.hid (HB0.out.trans (hb1.mono hs0))
               clear hb1)
            | (go_at_call 66; refine (HU.out _).mono ?_; rintro e w2 ⟨rfl, rfl⟩)
            | fail)
          go_ret
          exact ⟨rfl, HB1.out⟩
        · have d2 : ¬ (m : Int) < (least : Int) := by omega
          clear VA e1 e2 hv NU hm
          go_enter Try.func67, Try.ntmps67
          go_wp2_with (first
            | (go_at_call 65; refine HV.out.mono ?_; rintro e w1 ⟨rfl, hb1⟩
               have HB1 := Lib.hid (HB0.out.trans (hb1.mono hs0))
               clear hb1)
            | (go_at_call 66; refine (HU.out _).mono ?_; rintro e w2 ⟨rfl, rfl⟩)
            | fail)
          go_ret
          exact ⟨rfl, HB1.out⟩
    · have e2 : oneI ps k df least = -1 := by unfold oneI oneF; rw [hv]; simp only [h4, false_and, if_false]
      rw [e2]
      have h4i : ¬ (v.size : Int) = 4 := by omega
      clear VA e1 e2 hv
      go_enter Try.func67, Try.ntmps67
      go_wp2_with (first
        | (go_at_call 65; refine HV.out.mono ?_; rintro e w1 ⟨rfl, hb1⟩
           have HB1 := Lib.hid (HB0.out.trans (hb1.mono hs0))
           clear hb1)
        | fail)
      go_ret
      exact ⟨rfl, HB1.out⟩

set_option maxRecDepth 100000 in
set_option maxHeartbeats 16000000 in
theorem cells_any (p : Int) (nm : ByteArray) (A : Option Addr) (c n : Nat) (ps : List Pr) (hn : n = ps.length) (hl : n ≤ 4398046511104) (w : World) (B : Nat) (hB : B ≤ w.heap.size) (hs : Seg w B A (prCells ps)) :
    Calls Try.prog 55 #[.agg #[.int .i64 p, .string nm, .slice A n c]] w fun e w' => e = .returned (.tuple #[.int .i64 ((spcF ps).1 : Nat), .int .i64 ((spcF ps).2.1 : Nat), .int .i64 ((spcF ps).2.2 : Nat)]) ∧ Below w.heap.size w w' := by
  obtain ⟨w0, hw0⟩ : ∃ w0, w0 = w.alloc (.cells #[.int .i64 p, .string nm, .slice A n c] 42) := ⟨_, rfl⟩
  have hb0 : Below w.heap.size w w0 := by rw [hw0]; exact (Below.refl _ w).alloc (Nat.le_refl _) _
  have z0 : w0.heap[w.heap.size]? = some (.cells #[.int .i64 p, .string nm, .slice A n c] 42) := by rw [hw0]; exact heap_alloc_new _ _
  have hlt0 : w.heap.size < w0.heap.size := by rw [hw0]; simp
  have HB0 := Lib.hid hb0
  have Z0 := Lib.hid z0
  have CA : ∀ W, Below w.heap.size w W → Calls Try.prog 67 #[.agg #[.int .i64 p, .string nm, .slice A n c], .string kA, .int .i64 (2 : Nat), .int .i64 (1 : Nat)] W fun e w' => e = .returned (.int .i64 (oneI ps kA 2 1)) ∧ Below W.heap.size W w' := fun W hW => rone_any p nm A c n ps hn hl kA 2 1 (by omega) (by omega) W B (Nat.le_trans hB hW.size) (hs.below (hW.mono hB))
  have CS : ∀ W, Below w.heap.size w W → Calls Try.prog 67 #[.agg #[.int .i64 p, .string nm, .slice A n c], .string kS, .int .i64 (1 : Nat), .int .i64 (0 : Nat)] W fun e w' => e = .returned (.int .i64 (oneI ps kS 1 0)) ∧ Below W.heap.size W w' := fun W hW => rone_any p nm A c n ps hn hl kS 1 0 (by omega) (by omega) W B (Nat.le_trans hB hW.size) (hs.below (hW.mono hB))
  obtain ⟨x, hx⟩ : ∃ x, x = oneI ps kA 2 1 := ⟨_, rfl⟩
  obtain ⟨y, hy⟩ : ∃ y, y = oneI ps kS 1 0 := ⟨_, rfl⟩
  rw [← hx] at CA
  rw [← hy] at CS
  have HA := Lib.hid (CA _ hb0)
  have HS := Lib.hid CS
  have hX : (x = -1 ∧ oneF ps kA 2 1 = none) ∨ ∃ a : Nat, x = a ∧ oneF ps kA 2 1 = some a := by
    rw [hx]; unfold oneI; cases oneF ps kA 2 1 <;> simp
  have hY : (y = -1 ∧ oneF ps kS 1 0 = none) ∨ ∃ a : Nat, y = a ∧ oneF ps kS 1 0 = some a := by
    rw [hy]; unfold oneI; cases oneF ps kS 1 0 <;> simp
  clear CA CS hx hy hn hs z0 hb0 hB
  rcases hX with ⟨rfl, h1⟩ | ⟨a, rfl, h1⟩
  · have e : spcF ps = (0, 0, 4) := by unfold spcF cellsF; rw [h1]
    rw [e]
    clear e h1
    have d2 : y < 0 ∨ ¬ y < 0 := by omega
    clear hY
    rcases d2 with d2 | d2
    · subst hw0
      go_enter Try.func55, Try.ntmps55
      go_wp2_with (first
        | (go_at_call 67; first
            | (refine (HS.out _ HB1.out).mono ?_; rintro e w2 ⟨rfl, hb2⟩
               have HB2 := Lib.hid (HB1.out.trans (hb2.mono HB1.out.size))
               clear hb2)
            | (refine HA.out.mono ?_; rintro e w1 ⟨rfl, hb1⟩
               have HB1 := Lib.hid (HB0.out.trans (hb1.mono HB0.out.size))
               have z1 : w1.heap[w.heap.size]? = some (.cells #[.int .i64 p, .string nm, .slice A n c] 42) := (hb1.block _ hlt0).trans Z0.out
               have c0 : w1.cell? ⟨w.heap.size, 0, none⟩ = some (.int .i64 p) := (by rw [cell_of_row _ _ _ _ _ _ z1]; rfl)
               have c1 : w1.cell? ⟨w.heap.size, 1, none⟩ = some (.string nm) := (by rw [cell_of_row _ _ _ _ _ _ z1]; rfl)
               have c2 : w1.cell? ⟨w.heap.size, 2, none⟩ = some (.slice A n c) := (by rw [cell_of_row _ _ _ _ _ _ z1]; rfl)
               clear hb1 z1))
        | fail)
      go_ret3
      exact ⟨rfl, HB2.out⟩
    · subst hw0
      go_enter Try.func55, Try.ntmps55
      go_wp2_with (first
        | (go_at_call 67; first
            | (refine (HS.out _ HB1.out).mono ?_; rintro e w2 ⟨rfl, hb2⟩
               have HB2 := Lib.hid (HB1.out.trans (hb2.mono HB1.out.size))
               clear hb2)
            | (refine HA.out.mono ?_; rintro e w1 ⟨rfl, hb1⟩
               have HB1 := Lib.hid (HB0.out.trans (hb1.mono HB0.out.size))
               have z1 : w1.heap[w.heap.size]? = some (.cells #[.int .i64 p, .string nm, .slice A n c] 42) := (hb1.block _ hlt0).trans Z0.out
               have c0 : w1.cell? ⟨w.heap.size, 0, none⟩ = some (.int .i64 p) := (by rw [cell_of_row _ _ _ _ _ _ z1]; rfl)
               have c1 : w1.cell? ⟨w.heap.size, 1, none⟩ = some (.string nm) := (by rw [cell_of_row _ _ _ _ _ _ z1]; rfl)
               have c2 : w1.cell? ⟨w.heap.size, 2, none⟩ = some (.slice A n c) := (by rw [cell_of_row _ _ _ _ _ _ z1]; rfl)
               clear hb1 z1))
        | fail)
      go_ret3
      exact ⟨rfl, HB2.out⟩
  · rcases hY with ⟨rfl, h2⟩ | ⟨b, rfl, h2⟩
    · have e : spcF ps = (0, 0, 4) := by unfold spcF cellsF; rw [h1, h2]
      rw [e]
      clear e h1 h2
      have d1 : ¬ (a : Int) < 0 := by omega
      subst hw0
      go_enter Try.func55, Try.ntmps55
      go_wp2_with (first
        | (go_at_call 67; first
            | (refine (HS.out _ HB1.out).mono ?_; rintro e w2 ⟨rfl, hb2⟩
               have HB2 := Lib.hid (HB1.out.trans (hb2.mono HB1.out.size))
               clear hb2)
            | (refine HA.out.mono ?_; rintro e w1 ⟨rfl, hb1⟩
               have HB1 := Lib.hid (HB0.out.trans (hb1.mono HB0.out.size))
               have z1 : w1.heap[w.heap.size]? = some (.cells #[.int .i64 p, .string nm, .slice A n c] 42) := (hb1.block _ hlt0).trans Z0.out
               have c0 : w1.cell? ⟨w.heap.size, 0, none⟩ = some (.int .i64 p) := (by rw [cell_of_row _ _ _ _ _ _ z1]; rfl)
               have c1 : w1.cell? ⟨w.heap.size, 1, none⟩ = some (.string nm) := (by rw [cell_of_row _ _ _ _ _ _ z1]; rfl)
               have c2 : w1.cell? ⟨w.heap.size, 2, none⟩ = some (.slice A n c) := (by rw [cell_of_row _ _ _ _ _ _ z1]; rfl)
               clear hb1 z1))
        | fail)
      go_ret3
      exact ⟨rfl, HB2.out⟩
    · have e : spcF ps = (a, b, 0) := by unfold spcF cellsF; rw [h1, h2]
      rw [e]
      clear e h1 h2
      have d1 : ¬ (a : Int) < 0 := by omega
      have d2 : ¬ (b : Int) < 0 := by omega
      subst hw0
      go_enter Try.func55, Try.ntmps55
      go_wp2_with (first
        | (go_at_call 67; first
            | (refine (HS.out _ HB1.out).mono ?_; rintro e w2 ⟨rfl, hb2⟩
               have HB2 := Lib.hid (HB1.out.trans (hb2.mono HB1.out.size))
               clear hb2)
            | (refine HA.out.mono ?_; rintro e w1 ⟨rfl, hb1⟩
               have HB1 := Lib.hid (HB0.out.trans (hb1.mono HB0.out.size))
               have z1 : w1.heap[w.heap.size]? = some (.cells #[.int .i64 p, .string nm, .slice A n c] 42) := (hb1.block _ hlt0).trans Z0.out
               have c0 : w1.cell? ⟨w.heap.size, 0, none⟩ = some (.int .i64 p) := (by rw [cell_of_row _ _ _ _ _ _ z1]; rfl)
               have c1 : w1.cell? ⟨w.heap.size, 1, none⟩ = some (.string nm) := (by rw [cell_of_row _ _ _ _ _ _ z1]; rfl)
               have c2 : w1.cell? ⟨w.heap.size, 2, none⟩ = some (.slice A n c) := (by rw [cell_of_row _ _ _ _ _ _ z1]; rfl)
               clear hb1 z1))
        | fail)
      go_ret3
      exact ⟨rfl, HB2.out⟩
end Go.Proofs.Ytndocngkganpdaa
