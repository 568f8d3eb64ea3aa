/- The document's Same and SameAll of the same cards: contracts. -/
import Derived.Test.YtiheibcookcbdaaDoorOwnC
set_option linter.unusedVariables false
namespace Go.Proofs.YtiheibcookcbdaaDoor
open Go.RowKit
/-! Same and SameAll, of cards with the same data. -/
set_option maxRecDepth 100000 in
set_option maxHeartbeats 4000000 in
theorem same_yes (nm fam qk : ByteArray) (lv : Nat) (sc en : Int) (A : Option Addr) (n c : Nat) (A' : Option Addr) (c' : Nat) (ts : List ByteArray) (hn : n = ts.length) (hl : n ≤ 8796093022208) (w : World) (B : Nat) (hB : B ≤ w.heap.size) (hs : Seg w B A (strs ts)) (hs' : Seg w B A' (strs ts)) :
    Calls Tryd.prog 8 #[.agg #[.string nm, .string fam, .int .u8 (lv : Int), .slice A n c, .int .i8 sc, .string qk, .int .i16 en], .agg #[.string nm, .string fam, .int .u8 (lv : Int), .slice A' n c', .int .i8 sc, .string qk, .int .i16 en]] w fun e w' => e = .returned (.bool true) ∧ Below w.heap.size w w' := by
  have hb0 : Below w.heap.size w ((w.alloc (.cells #[.string nm, .string fam, .int .u8 (lv : Int), .slice A n c, .int .i8 sc, .string qk, .int .i16 en] 26)).alloc (.cells #[.string nm, .string fam, .int .u8 (lv : Int), .slice A' n c', .int .i8 sc, .string qk, .int .i16 en] 26)) := ((Below.refl _ _).alloc (Nat.le_refl _) _).alloc (by simp) _
  have hr1 : RowAt ((w.alloc (.cells #[.string nm, .string fam, .int .u8 (lv : Int), .slice A n c, .int .i8 sc, .string qk, .int .i16 en] 26)).alloc (.cells #[.string nm, .string fam, .int .u8 (lv : Int), .slice A' n c', .int .i8 sc, .string qk, .int .i16 en] 26)) w.heap.size 26 [.string nm, .string fam, .int .u8 (lv : Int), .slice A n c, .int .i8 sc, .string qk, .int .i16 en] := (row_new w _ 26 _ rfl).alloc _
  have hr2 : RowAt ((w.alloc (.cells #[.string nm, .string fam, .int .u8 (lv : Int), .slice A n c, .int .i8 sc, .string qk, .int .i16 en] 26)).alloc (.cells #[.string nm, .string fam, .int .u8 (lv : Int), .slice A' n c', .int .i8 sc, .string qk, .int .i16 en] 26)) (w.heap.size + 1) 26 [.string nm, .string fam, .int .u8 (lv : Int), .slice A' n c', .int .i8 sc, .string qk, .int .i16 en] := row_new _ _ 26 _ (by simp)
  have HN := Lib.hid hn
  have HS := Lib.hid hs
  have HS' := Lib.hid hs'
  have HB0 := Lib.hid hb0
  have c3 := hr1.seven.2.2.2.1
  have c3' := hr2.seven.2.2.2.1
  have C3 := Lib.hid c3
  have C3' := Lib.hid c3'
  clear hn hs hs' hb0 hr1 hr2 c3 c3'
  go_enter Tryd.func8, Tryd.ntmps8
  go_wp2_with fail
  go_loopw [5] (fun iv wr => ∃ k : Nat, k ≤ n ∧ iv = .int .i64 k ∧ Below w.heap.size w wr ∧ wr.cell? ⟨w.heap.size, 3, none⟩ = some (.slice A n c) ∧ wr.cell? ⟨w.heap.size + 1, 3, none⟩ = some (.slice A' n c')) (fun iv _ => n - (intOf iv).toNat)
  case atStart => exact ⟨0, by omega, rfl, HB0.out, C3.out, C3'.out⟩
  case round =>
    obtain ⟨k, hk, rfl, hb, x3, y3⟩ := hrel
    have HB := Lib.hid hb
    clear hb
    by_cases hlt : k < n
    · have hkl : k < ts.length := by rw [← HN.out]; exact hlt
      have hki : (k : Int) < (n : Int) := by omega
      obtain ⟨b, off, rfl, _, z0⟩ := (HS.out.below (HB.out.mono hB)).strs hkl
      obtain ⟨b', off', rfl, _, z1⟩ := (HS'.out.below (HB.out.mono hB)).strs hkl
      obtain ⟨t, ht⟩ : ∃ t, t = ts[k] := ⟨_, rfl⟩
      rw [← ht] at z0 z1
      clear ht
      have e3 : (t == t) = true := beq_of.2 rfl
      have e4 : (t.toList == t.toList) = true := by simp
      go_wp2_with fail
      go_quiet (fail)
      go_wp2_with fail
      exact ⟨⟨k + 1, by omega, by go_num, below_drewN HB.out _, x3, y3⟩, by simp [intOf]; omega⟩
    · obtain rfl : k = n := by omega
      go_wp2_with fail
      go_ret
      exact ⟨rfl, HB.out⟩
end Go.Proofs.YtiheibcookcbdaaDoor
