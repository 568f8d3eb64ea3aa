/- A prop's value: the contracts of both sides. -/
import Derived.Test.YtmdnbajbfnhecaaDoorMem
import Derived.Test.YtmdnbajbfnhecaaDoorRefB
set_option linter.unusedVariables false
namespace Go.Proofs.YtmdnbajbfnhecaaDoor
open Go.RowKit
/-- A prop's value. -/
def valF (ps : List Pr) (k : ByteArray) : Option ByteArray := (ps.find? fun y => decide (y.n = k)).map Pr.v
def valS (ps : List Pr) (k : ByteArray) : ByteArray := (valF ps k).getD ByteArray.empty
def valB (ps : List Pr) (k : ByteArray) : Bool := (valF ps k).isSome
theorem val_none {ps : List Pr} {k : ByteArray} (h : ∀ i (hi : i < ps.length), ps[i].n ≠ k) : valS ps k = ByteArray.empty ∧ valB ps k = false := by
  have : ps.find? (fun y => decide (y.n = k)) = none := by
    rw [List.find?_eq_none]
    intro y hy
    obtain ⟨i, hi, rfl⟩ := List.mem_iff_getElem.1 hy
    simpa using h i hi
  unfold valS valB valF
  rw [this]
  exact ⟨rfl, rfl⟩
theorem val_some {ps : List Pr} {k : ByteArray} {i : Nat} (hi : i < ps.length) (h : ∀ j (hj : j < ps.length), j < i → ps[j].n ≠ k) (he : ps[i].n = k) : valS ps k = ps[i].v ∧ valB ps k = true := by
  have : ps.find? (fun y => decide (y.n = k)) = some ps[i] := by
    rw [List.find?_eq_some_iff_getElem]
    refine ⟨by simpa using he, i, hi, rfl, fun j hj => ?_⟩
    simpa using h j (by omega) hj
  unfold valS valB valF
  rw [this]
  exact ⟨rfl, rfl⟩
theorem val_le {ps : List Pr} {k : ByteArray} {N : Nat} (h : ∀ y ∈ ps, y.v.size ≤ N) : (valS ps k).size ≤ N := by
  unfold valS valF
  cases hf : ps.find? (fun y => decide (y.n = k)) with
  | none => simp [ByteArray.size]
  | some y => exact h y (List.mem_of_find?_eq_some hf)
set_option maxRecDepth 100000 in
set_option maxHeartbeats 2000000 in
theorem value_any (p : Int) (s : ByteArray) (A : Option Addr) (c m : Nat) (ps : List Pr) (hm : m = ps.length) (hz : m * 32 ≤ 140737488355328) (k : ByteArray) (w : World) (B : Nat) (hB : B ≤ w.heap.size) (hs : Seg w B A (prCells ps)) :
    Calls Tryd.prog 36 #[.agg #[.int .i64 p, .string s, .slice A m c], .string k] w fun e w' => e = .returned (.tuple #[.string (valS ps k), .bool (valB ps k)]) ∧ Below w.heap.size w w' := by
  have HM := Lib.hid hm
  have HS := Lib.hid hs
  clear hm hs
  go_enter Tryd.func36, Tryd.ntmps36
  go_wp2_with fail
  go_loopw [11] (fun iv wx => ∃ i : Nat, i ≤ m ∧ iv = .int .i64 i ∧ (∀ j (hj : j < ps.length), j < i → ps[j].n ≠ k) ∧ Below w.heap.size w wx) (fun iv _ => m - (intOf iv).toNat)
  case atStart => exact ⟨0, by omega, rfl, fun j _ h => absurd h (Nat.not_lt_zero j), (Below.refl _ w).alloc (Nat.le_refl _) _⟩
  case round =>
    obtain ⟨i, hi, rfl, hno, hb⟩ := hrel
    have HB := Lib.hid hb
    have HNO := Lib.hid hno
    have hbs := hb.size
    by_cases hlt : i < m
    · have hil : i < ps.length := by rw [← HM.out]; exact hlt
      have hii : (i : Int) < (m : Int) := by omega
      obtain ⟨b, off, eA, _, x0, x1⟩ := (HS.out.below (hb.mono hB)).pr hil
      subst eA
      obtain ⟨x, hx⟩ : ∃ x, x = ps[i] := ⟨_, rfl⟩
      rw [← hx] at x0 x1
      have hb2 : Below w.heap.size w (wr.alloc (.cells #[.string x.n, .string x.v] 62)) := HB.out.alloc hbs _
      have HX := Lib.hid hx
      have HB2 := Lib.hid hb2
      clear hb hno hx hb2
      obtain ⟨xn, xv⟩ := x
      simp only at x0 x1
      by_cases he : xn = k
      · subst he
        have hv := val_some hil HNO.out (by rw [← HX.out])
        rw [← HX.out] at hv
        have HV := Lib.hid hv
        clear hv
        go_wp2_with fail
        go_ret2
        exact ⟨by rw [HV.out.1, HV.out.2]; rfl, HB2.out⟩
      · have he1 := str_ne he
        have HE := Lib.hid he
        clear he
        go_wp2_with fail
        refine ⟨⟨i + 1, by omega, by go_num, fun j hj hji => ?_, HB2.out⟩, by simp [intOf]; omega⟩
        by_cases e : j = i
        · subst e
          rw [← HX.out]
          exact HE.out
        · exact HNO.out j hj (by omega)
    · obtain rfl : i = m := by omega
      have hf0 : ¬ (i : Int) < (i : Int) := by omega
      have hv := val_none (ps := ps) (k := k) fun j hj => HNO.out j hj (by rw [HM.out]; exact hj)
      have HV := Lib.hid hv
      clear hb hno hv
      go_wp2_with fail
      go_ret2
      exact ⟨by rw [HV.out.1, HV.out.2]; rfl, HB.out⟩
set_option maxRecDepth 100000 in
set_option maxHeartbeats 2000000 in
theorem rvalue_any (p : Int) (s : ByteArray) (A : Option Addr) (c m : Nat) (ps : List Pr) (hm : m = ps.length) (hz : m * 32 ≤ 140737488355328) (k : ByteArray) (w : World) (B : Nat) (hB : B ≤ w.heap.size) (hs : Seg w B A (prCells ps)) :
    Calls Tryd.prog 38 #[.agg #[.int .i64 p, .string s, .slice A m c], .string k] w fun e w' => e = .returned (.tuple #[.string (valS ps k), .bool (valB ps k)]) ∧ Below w.heap.size w w' := by
  have HM := Lib.hid hm
  have hb0 : Below w.heap.size w (w.alloc (.cells #[.int .i64 p, .string s, .slice A m c] 43)) := (Below.refl _ w).alloc (Nat.le_refl _) _
  have hs1 := hs.below (hb0.mono hB)
  have x2 : (w.alloc (.cells #[.int .i64 p, .string s, .slice A m c] 43)).cell? ⟨w.heap.size, 2, none⟩ = some (.slice A m c) := by
    rw [cell_of_row _ _ _ _ _ (0, 0) (heap_alloc_new w _)]; rfl
  have HS := Lib.hid hs1
  have HB := Lib.hid hb0
  clear hm hs hs1 hb0
  go_enter Tryd.func38, Tryd.ntmps38
  go_wp2_with fail
  go_loop [6] (fun iv => ∃ i : Nat, i ≤ m ∧ iv = .int .i64 i ∧ (∀ j (hj : j < ps.length), j < i → ps[j].n ≠ k)) (fun iv => m - (intOf iv).toNat)
  case atStart => exact ⟨0, by omega, rfl, fun j _ h => absurd h (Nat.not_lt_zero j)⟩
  case round =>
    obtain ⟨i, hi, rfl, hno⟩ := hrel
    have HNO := Lib.hid hno
    by_cases hlt : i < m
    · have hil : i < ps.length := by rw [← HM.out]; exact hlt
      have hii : (i : Int) < (m : Int) := by omega
      obtain ⟨b, off, eA, _, x0, x1⟩ := HS.out.pr hil
      subst eA
      obtain ⟨x, hx⟩ : ∃ x, x = ps[i] := ⟨_, rfl⟩
      rw [← hx] at x0 x1
      have HX := Lib.hid hx
      clear hno hx
      obtain ⟨xn, xv⟩ := x
      simp only at x0 x1
      by_cases he : xn = k
      · subst he
        have hv := val_some hil HNO.out (by rw [← HX.out])
        rw [← HX.out] at hv
        have HV := Lib.hid hv
        clear hv
        go_wp2_with fail
        go_ret2
        exact ⟨by rw [HV.out.1, HV.out.2]; rfl, HB.out⟩
      · have he1 := str_ne he
        have HE := Lib.hid he
        clear he
        go_wp2_with fail
        go_round
        case rel =>
          refine ⟨i + 1, by omega, by go_num, fun j hj hji => ?_⟩
          by_cases e : j = i
          · subst e
            rw [← HX.out]
            exact HE.out
          · exact HNO.out j hj (by omega)
        case measure => simp [intOf]; omega
    · obtain rfl : i = m := by omega
      have hf0 : ¬ (i : Int) < (i : Int) := by omega
      have hv := val_none (ps := ps) (k := k) fun j hj => HNO.out j hj (by rw [HM.out]; exact hj)
      have HV := Lib.hid hv
      clear hno hv
      go_wp2_with fail
      go_ret2
      exact ⟨by rw [HV.out.1, HV.out.2]; rfl, HB.out⟩
end Go.Proofs.YtmdnbajbfnhecaaDoor
