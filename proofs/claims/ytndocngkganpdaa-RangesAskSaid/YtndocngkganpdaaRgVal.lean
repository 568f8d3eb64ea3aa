/- ranges.value: the contract. -/
import Derived.Test.YtndocngkganpdaaRgCell
set_option linter.unusedVariables false
namespace Go.Proofs.Ytndocngkganpdaa
open Go.RowKit
theorem str_eq (a b : ByteArray) : (a.toList == b.toList) = decide (a = b) := by
  rw [Bool.eq_iff_iff, beq_iff_eq, decide_eq_true_iff]
  constructor
  · intro h
    rw [ByteArray.toList_eq, ByteArray.toList_eq] at h
    cases a; cases b
    simp only [ByteArray.mk.injEq]
    exact Array.toList_inj.1 h
  · rintro rfl; rfl
set_option maxRecDepth 100000 in
set_option maxHeartbeats 16000000 in
theorem clos_any (n v k : ByteArray) (w : World) (b : Nat) (hb : b < w.heap.size) (hc : w.cell? ⟨b, 0, none⟩ = some (.string k)) :
    Calls Try.prog 71 #[.agg #[.string n, .string v], .pointer (some ⟨b, 0, none⟩)] w fun e w' => e = .returned (.bool (decide (n = k))) ∧ Below w.heap.size w w' := by
  rw [← str_eq]
  have hc1 : (w.alloc (.cells #[.string n, .string v] 54)).cell? ⟨b, 0, none⟩ = some (.string k) := (World.cell?_alloc_lt _ _ _ (by exact hb)).trans hc
  go_enter Try.func71, Try.ntmps71
  go_wp2_with fail
  go_ret
  exact ⟨rfl, (Below.refl _ w).alloc (Nat.le_refl _) _⟩
/-- At which place a prop is; -1: there is none. -/
def ixF (ps : List Pr) (k : ByteArray) : Int := match ps.findIdx? fun y => decide (y.n = k) with
  | some i => (i : Int)
  | none => -1
theorem ix_hit {ps : List Pr} {k : ByteArray} {i : Nat} (hi : i < ps.length) (h : ps[i].n = k) (hno : ∀ j (hj : j < ps.length), j < i → ps[j].n ≠ k) : ixF ps k = (i : Int) ∧ valF ps k = some ps[i].v := by
  have h1 : ps.findIdx? (fun y => decide (y.n = k)) = some i := by
    rw [List.findIdx?_eq_some_iff_getElem]
    exact ⟨hi, by simpa using h, fun j hj => by simpa using hno j (by omega) hj⟩
  refine ⟨by unfold ixF; rw [h1], ?_⟩
  unfold valF
  have h2 : ps.find? (fun y => decide (y.n = k)) = some ps[i] := by
    rw [List.find?_eq_some_iff_getElem]
    exact ⟨by simpa using h, i, hi, rfl, fun j hj => by simpa using hno j (by omega) hj⟩
  rw [h2]
  rfl
theorem ix_miss {ps : List Pr} {k : ByteArray} (hno : ∀ j (hj : j < ps.length), ps[j].n ≠ k) : ixF ps k = -1 ∧ valF ps k = none := by
  have h1 : ps.findIdx? (fun y => decide (y.n = k)) = none := by
    rw [List.findIdx?_eq_none_iff]
    intro x hx
    obtain ⟨j, hj, rfl⟩ := List.mem_iff_getElem.1 hx
    simpa using hno j hj
  refine ⟨by unfold ixF; rw [h1], ?_⟩
  unfold valF
  rw [Option.map_eq_none_iff, List.find?_eq_none]
  intro x hx
  obtain ⟨j, hj, rfl⟩ := List.mem_iff_getElem.1 hx
  simpa using hno j hj
set_option maxRecDepth 100000 in
set_option maxHeartbeats 16000000 in
theorem index_any (A : Option Addr) (c n : Nat) (ps : List Pr) (hn : n = ps.length) (hl : n ≤ 4398046511104) (b : Nat) (k : ByteArray) (w : World) (B : Nat) (hB : B ≤ w.heap.size) (hs : Seg w B A (prCells ps)) (hb : b < w.heap.size) (hc : w.cell? ⟨b, 0, none⟩ = some (.string k)) :
    Calls Try.prog 70 #[.slice A n c, .func (.func 71) #[] #[.pointer (some ⟨b, 0, none⟩)]] w fun e w' => e = .returned (.int .i64 (ixF ps k)) ∧ Below w.heap.size w w' := by
  have HN := Lib.hid hn
  clear hn
  go_enter Try.func70, Try.ntmps70
  go_wp2_with fail
  go_loopw [8] (fun iv wx => ∃ i : Nat, iv = .int .i64 i ∧ i ≤ n ∧ (∀ j (hj : j < ps.length), j < i → ps[j].n ≠ k) ∧ Below w.heap.size w wx) (fun iv _ => n - (intOf iv).toNat)
  case atStart => exact ⟨0, rfl, by omega, by omega, Below.refl _ _⟩
  case round =>
    obtain ⟨i, rfl, hi, hno, hb2⟩ := hrel
    have HNO := Lib.hid hno
    have HB := Lib.hid hb2
    have hsz := hb2.size
    clear hno
    by_cases hlt : i < n
    · have hki : (i : Int) < (n : Int) := by omega
      have hip : i < ps.length := by rw [← HN.out]; exact hlt
      obtain ⟨b', off, hA, _, x0, x1⟩ := (hs.below (hb2.mono hB)).pr hip
      subst hA
      have CL := fun n v => clos_any n v k wr b (by omega) ((hb2.cell (p := ⟨b, 0, none⟩) hb).trans hc)
      obtain ⟨P, hP⟩ : ∃ P, P = ps[i] := ⟨_, rfl⟩
      rw [← hP] at x0 x1
      have HP := Lib.hid hP
      obtain ⟨pn, pv⟩ := P
      simp only at x0 x1
      have CL2 := CL pn pv
      by_cases hk : pn = k
      · rw [decide_eq_true hk] at CL2
        have HC := Lib.hid CL2
        have HX := Lib.hid (ix_hit hip (by rw [← hP]; exact hk) HNO.out)
        clear CL CL2 hP hk hb2
        go_wp2_with (first
          | (go_at_call 71; refine HC.out.mono ?_; rintro e w1 ⟨rfl, hb1⟩; have HB1 := Lib.hid (HB.out.trans (hb1.mono hsz)); clear hb1)
          | fail)
        go_ret
        exact ⟨ret_int HX.out.1.symm, HB1.out⟩
      · rw [decide_eq_false hk] at CL2
        have HC := Lib.hid CL2
        have HK := Lib.hid hk
        clear CL CL2 hP hk hb2
        go_wp2_with (first
          | (go_at_call 71; refine HC.out.mono ?_; rintro e w1 ⟨rfl, hb1⟩; have HB1 := Lib.hid (HB.out.trans (hb1.mono hsz)); clear hb1)
          | fail)
        refine ⟨⟨i + 1, by go_num, hlt, fun j hj hji => ?_, HB1.out⟩, by simp [intOf]; omega⟩
        rcases Nat.lt_or_ge j i with h | h
        · exact HNO.out j hj h
        · obtain rfl : j = i := by omega
          rw [← HP.out]
          exact HK.out
    · have hki : ¬ (i : Int) < (n : Int) := by omega
      have HX := Lib.hid (ix_miss (k := k) (ps := ps) fun j hj => HNO.out j hj (by have := HN.out; omega))
      clear hb2
      go_wp2_with fail
      go_ret
      exact ⟨ret_int HX.out.1.symm, HB.out⟩
/-- What value gives: the text, is there one. -/
def valV (ps : List Pr) (k : ByteArray) : ByteArray × Bool := match valF ps k with
  | some v => (v, true)
  | none => (⟨#[]⟩, false)
set_option maxRecDepth 100000 in
set_option maxHeartbeats 16000000 in
theorem value_any (p : Int) (nm : ByteArray) (A : Option Addr) (c n : Nat) (ps : List Pr) (hn : n = ps.length) (hl : n ≤ 4398046511104) (k : ByteArray) (w : World) (B : Nat) (hB : B ≤ w.heap.size) (hs : Seg w B A (prCells ps)) :
    Calls Try.prog 62 #[.agg #[.int .i64 p, .string nm, .slice A n c], .string k] w fun e w' => e = .returned (.tuple #[.string (valV ps k).1, .bool (valV ps k).2]) ∧ Below w.heap.size w w' := by
  have hb0 : Below w.heap.size w ((w.alloc (.cells #[.int .i64 p, .string nm, .slice A n c] 42)).alloc (.cells #[.string k] 9)) := ((Below.refl _ w).alloc (Nat.le_refl _) _).alloc (by simp) _
  have IX := index_any A c n ps hn hl (w.heap.size + 1) k ((w.alloc (.cells #[.int .i64 p, .string nm, .slice A n c] 42)).alloc (.cells #[.string k] 9)) B (Nat.le_trans hB hb0.size) (hs.below (hb0.mono hB)) (by simp) (by
    have h := heap_alloc_new (w.alloc (.cells #[.int .i64 p, .string nm, .slice A n c] 42)) (.cells #[.string k] 9)
    rw [World.size_alloc] at h
    rw [cell_of_row _ _ _ _ _ _ h]
    rfl)
  have z0 : ((w.alloc (.cells #[.int .i64 p, .string nm, .slice A n c] 42)).alloc (.cells #[.string k] 9)).heap[w.heap.size]? = some (.cells #[.int .i64 p, .string nm, .slice A n c] 42) := by
    rw [Below.heap_alloc _ _ _ (by simp), heap_alloc_new]
  have Z0 := Lib.hid z0
  have HB0 := Lib.hid hb0
  have hs0 := hb0.size
  have hlt0 : w.heap.size < ((w.alloc (.cells #[.int .i64 p, .string nm, .slice A n c] 42)).alloc (.cells #[.string k] 9)).heap.size := by simp; omega
  have HN := Lib.hid hn
  clear hn z0 hb0
  by_cases hm : ∃ (i : Nat) (hi : i < ps.length), ps[i].n = k ∧ ∀ j (hj : j < ps.length), j < i → ps[j].n ≠ k
  · obtain ⟨i, hi, h1, h2⟩ := hm
    obtain ⟨x1, x2⟩ := ix_hit hi h1 h2
    have hv : valV ps k = (ps[i].v, true) := by unfold valV; rw [x2]
    rw [hv]
    rw [x1] at IX
    have HI := Lib.hid IX
    have hin : (i : Int) < (n : Int) := by have := HN.out; omega
    have hi0 : ¬ (i : Int) < 0 := by omega
    have hsg := Lib.hid hs
    clear IX x1 x2 h1 h2 hv hs
    go_enter Try.func62, Try.ntmps62
    go_wp2_with (first
      | (go_at_call 70; refine HI.out.mono ?_; rintro e w1 ⟨rfl, hb1⟩
         have HB1 := Lib.hid (HB0.out.trans (hb1.mono hs0))
         have c2 : w1.cell? ⟨w.heap.size, 2, none⟩ = some (.slice A n c) := (by rw [cell_of_row _ _ _ _ _ _ ((hb1.block _ hlt0).trans Z0.out)]; rfl)
         obtain ⟨b', off, hA, _, x0, x1⟩ := (hsg.out.below (HB1.out.mono hB)).pr hi
         subst hA
         clear hb1)
      | fail)
    go_ret2
    exact ⟨rfl, HB1.out⟩
  · have hno : ∀ j (hj : j < ps.length), ps[j].n ≠ k := by
      intro j
      induction j using Nat.strongRecOn with
      | ind j ih => exact fun hj h => hm ⟨j, hj, h, fun i hi hij => ih i hij hi⟩
    obtain ⟨x1, x2⟩ := ix_miss hno
    have hv : valV ps k = (⟨#[]⟩, false) := by unfold valV; rw [x2]
    rw [hv]
    rw [x1] at IX
    have HI := Lib.hid IX
    clear IX x1 x2 hno hv hm
    go_enter Try.func62, Try.ntmps62
    go_wp2_with (first
      | (go_at_call 70; refine HI.out.mono ?_; rintro e w1 ⟨rfl, hb1⟩
         have HB1 := Lib.hid (HB0.out.trans (hb1.mono hs0))
         clear hb1)
      | fail)
    go_ret2
    exact ⟨rfl, HB1.out⟩
end Go.Proofs.Ytndocngkganpdaa
