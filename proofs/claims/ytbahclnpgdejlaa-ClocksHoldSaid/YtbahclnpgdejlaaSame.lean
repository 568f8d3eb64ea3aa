/- The statement's own comparisons: the contracts. -/
import Derived.Test.YtbahclnpgdejlaaPMove
import Derived.Test.YtbahclnpgdejlaaOpenClk
set_option linter.unusedVariables false
namespace Go.Proofs.Ytbahclnpgdejlaa
open Go.RowKit
theorem Seg.turn {w : World} {B : Nat} {a : Option Addr} {t : List (Int × Bool)} (h : Seg w B a (turnCells t)) {k : Nat} (hk : k < t.length) :
    ∃ b off, a = some ⟨b, off, none⟩ ∧ b < B ∧ w.cell? ⟨b, off + k * 2, none⟩ = some (.int .i64 t[k].1) ∧ w.cell? ⟨b, off + k * 2 + 1, none⟩ = some (.bool t[k].2) := by
  obtain ⟨b, off, e, hb, hc⟩ := Seg.thing (f := fun x : Int × Bool => [Value.int .i64 x.1, .bool x.2]) (m := 2) (fun _ => rfl) (by omega) h hk
  exact ⟨b, off, e, hb, hc 0 _ rfl, hc 1 _ rfl⟩
theorem Seg.chg {w : World} {B : Nat} {a : Option Addr} {t : List (Nat × Int × Int)} (h : Seg w B a (chgCells t)) {k : Nat} (hk : k < t.length) :
    ∃ b off, a = some ⟨b, off, none⟩ ∧ b < B ∧ w.cell? ⟨b, off + k * 3, none⟩ = some (.int .i64 (t[k].1 : Int)) ∧ w.cell? ⟨b, off + k * 3 + 1, none⟩ = some (.int .i64 t[k].2.1) ∧ w.cell? ⟨b, off + k * 3 + 2, none⟩ = some (.int .i64 t[k].2.2) := by
  obtain ⟨b, off, e, hb, hc⟩ := Seg.thing (f := fun x : Nat × Int × Int => [Value.int .i64 (x.1 : Int), .int .i64 x.2.1, .int .i64 x.2.2]) (m := 3) (fun _ => rfl) (by omega) h hk
  exact ⟨b, off, e, hb, hc 0 _ rfl, hc 1 _ rfl, hc 2 _ rfl⟩
set_option maxRecDepth 100000 in
set_option maxHeartbeats 4000000 in
theorem turns_any (t : List (Int × Bool)) (A1 A2 : Option Addr) (c1 c2 n : Nat) (hn : n = t.length) (hl : n ≤ 100000) (w : World) (B : Nat) (hB : B ≤ w.heap.size) (s1 : Seg w B A1 (turnCells t)) (s2 : Seg w B A2 (turnCells t)) :
    Calls Try.prog 35 #[.slice A1 n c1, .slice A2 n c2] w fun e w' => e = .returned (.bool true) ∧ Below w.heap.size w w' := by
  have HN := Lib.hid hn
  have S1 := Lib.hid s1
  have S2 := Lib.hid s2
  clear hn s1 s2
  go_enter Try.func35, Try.ntmps35
  go_wp2
  go_loopw [5] (fun i wr => ∃ k : Nat, k ≤ n ∧ i = .int .i64 k ∧ Below w.heap.size w wr) (fun i _ => n - (intOf i).toNat)
  case atStart => exact ⟨0, by omega, rfl, Below.refl _ _⟩
  case round =>
    obtain ⟨k, hk, rfl, hb⟩ := hrel
    have HB := Lib.hid hb
    clear hb
    by_cases hlt : k < n
    · have hkt : k < t.length := by rw [← HN.out]; exact hlt
      obtain ⟨b1, o1, rfl, _, x1, x2⟩ := (S1.out.below (HB.out.mono hB)).turn hkt
      obtain ⟨b2, o2, rfl, _, y1, y2⟩ := (S2.out.below (HB.out.mono hB)).turn hkt
      generalize t[k].1 = a at *
      generalize t[k].2 = b at *
      have hki : (k : Int) < (n : Int) := by omega
      have f1 : (a != a) = false := by simp
      have f2 : (b != b) = false := by simp
      go_wp2_with fail
      go_quiet (fail)
      go_wp2
      go_roundw
      case rel => exact ⟨k + 1, by omega, by go_num, below_drewN HB.out _⟩
      case measure => simp [intOf]; omega
    · go_wp2
      go_ret
      exact ⟨rfl, HB.out⟩
set_option maxRecDepth 100000 in
set_option maxHeartbeats 4000000 in
theorem changes_any (t : List (Nat × Int × Int)) (A1 A2 : Option Addr) (c1 c2 n : Nat) (hn : n = t.length) (hl : n ≤ 100000) (w : World) (B : Nat) (hB : B ≤ w.heap.size) (s1 : Seg w B A1 (chgCells t)) (s2 : Seg w B A2 (chgCells t)) :
    Calls Try.prog 38 #[.slice A1 n c1, .slice A2 n c2] w fun e w' => e = .returned (.bool true) ∧ Below w.heap.size w w' := by
  have HN := Lib.hid hn
  have S1 := Lib.hid s1
  have S2 := Lib.hid s2
  clear hn s1 s2
  go_enter Try.func38, Try.ntmps38
  go_wp2
  go_loopw [5] (fun i wr => ∃ k : Nat, k ≤ n ∧ i = .int .i64 k ∧ Below w.heap.size w wr) (fun i _ => n - (intOf i).toNat)
  case atStart => exact ⟨0, by omega, rfl, Below.refl _ _⟩
  case round =>
    obtain ⟨k, hk, rfl, hb⟩ := hrel
    have HB := Lib.hid hb
    clear hb
    by_cases hlt : k < n
    · have hkt : k < t.length := by rw [← HN.out]; exact hlt
      obtain ⟨b1, o1, rfl, _, x1, x2, x3⟩ := (S1.out.below (HB.out.mono hB)).chg hkt
      obtain ⟨b2, o2, rfl, _, y1, y2, y3⟩ := (S2.out.below (HB.out.mono hB)).chg hkt
      generalize (t[k].1 : Int) = a at *
      generalize t[k].2.1 = b at *
      generalize t[k].2.2 = c at *
      have hki : (k : Int) < (n : Int) := by omega
      have f1 : (a != a) = false := by simp
      have f2 : (b != b) = false := by simp
      have f3 : (c != c) = false := by simp
      go_wp2_with fail
      go_quiet (fail)
      go_wp2
      go_roundw
      case rel => exact ⟨k + 1, by omega, by go_num, below_drewN HB.out _⟩
      case measure => simp [intOf]; omega
    · go_wp2
      go_ret
      exact ⟨rfl, HB.out⟩
set_option maxRecDepth 100000 in
set_option maxHeartbeats 4000000 in
theorem same_any (l : List Clk) (A1 A2 : Option Addr) (c1 c2 n : Nat) (hn : n = l.length) (hl : n ≤ 2513169434843) (w : World) (B : Nat) (hB : B ≤ w.heap.size) (s1 : Seg w B A1 (clkCells l)) (s2 : Seg w B A2 (clkCells l)) :
    Calls Try.prog 17 #[.slice A1 n c1, .slice A2 n c2] w fun e w' => e = .returned (.bool true) ∧ Below w.heap.size w w' := by
  have HN := Lib.hid hn
  have S1 := Lib.hid s1
  have S2 := Lib.hid s2
  clear hn s1 s2
  go_enter Try.func17, Try.ntmps17
  go_wp2
  go_loopw [5] (fun i wr => ∃ k : Nat, k ≤ n ∧ i = .int .i64 k ∧ Below w.heap.size w wr) (fun i _ => n - (intOf i).toNat)
  case atStart => exact ⟨0, by omega, rfl, Below.refl _ _⟩
  case round =>
    obtain ⟨k, hk, rfl, hb⟩ := hrel
    have HB := Lib.hid hb
    have hsz := hb.size
    clear hb
    by_cases hlt : k < n
    · have hkt : k < l.length := by rw [← HN.out]; exact hlt
      obtain ⟨b1, o1, rfl, q1, x1, x2, x3, x4, x5, x6, x7⟩ := (S1.out.below (HB.out.mono hB)).clk hkt
      obtain ⟨b2, o2, rfl, q2, y1, y2, y3, y4, y5, y6, y7⟩ := (S2.out.below (HB.out.mono hB)).clk hkt
      obtain ⟨⟨F, R, M, D, L, H, st⟩, hc⟩ : ∃ c : Clk, c = l[k] := ⟨_, rfl⟩
      rw [← hc] at x1 x2 x3 x4 x5 x6 x7 y1 y2 y3 y4 y5 y6 y7
      simp only at x1 x2 x3 x4 x5 x6 x7 y1 y2 y3 y4 y5 y6 y7
      clear hc
      have hki : (k : Int) < (n : Int) := by omega
      have f1 : (F != F) = false := by simp
      have f2 : (R != R) = false := by simp
      have f3 : (M != M) = false := by simp
      have f4 : (D != D) = false := by simp
      have f5 : (L != L) = false := by simp
      have f6 : (H != H) = false := by simp
      have f7 : (st != st) = false := by simp
      have z1 : b1 < wr.heap.size := by omega
      have z2 : b2 < wr.heap.size := by omega
      go_wp2
      go_roundw
      case rel => exact ⟨k + 1, by omega, by go_num, (HB.out.alloc HB.out.size _).alloc (by simp; omega) _⟩
      case measure => simp [intOf]; omega
    · go_wp2
      go_ret
      exact ⟨rfl, HB.out⟩
end Go.Proofs.Ytbahclnpgdejlaa
