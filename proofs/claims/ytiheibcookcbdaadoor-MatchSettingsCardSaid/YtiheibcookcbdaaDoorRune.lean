/- strings.IndexRune beyond ASCII, over an ASCII text: the contract. -/
import Derived.Test.YtiheibcookcbdaaDoorRunes
import Derived.Test.YtiheibcookcbdaaDoorShelf
import Derived.Lib.IndexBytes
import Derived.Deep.DeepCutAuto
import Derived.Deep.CutRange
set_option linter.unusedVariables false
namespace Go.Proofs.YtiheibcookcbdaaDoor
open Go.RowKit
def marks : ByteArray := ⟨#[44, 46, 95, 43, 45, 64, 35, 63]⟩
theorem enc_two {r : Nat} (h0 : 128 ≤ r) (h1 : r < 2048) : Utf8.encode (r : Int) = ⟨#[UInt8.ofNat (192 + r / 64), UInt8.ofNat (128 + r % 64)]⟩ := by
  have hv : Utf8.valid (r : Int) = true := by simp [Utf8.valid]; omega
  unfold Utf8.encode
  simp only [hv, if_true, Int.toNat_natCast]
  rw [if_neg (by omega), if_pos (by omega)]
theorem enc_three {r : Nat} (h0 : 2048 ≤ r) (h1 : r < 65536) (hv : Utf8.valid (r : Int) = true) : Utf8.encode (r : Int) = ⟨#[UInt8.ofNat (224 + r / 4096), UInt8.ofNat (128 + r / 64 % 64), UInt8.ofNat (128 + r % 64)]⟩ := by
  unfold Utf8.encode
  simp only [hv, if_true, Int.toNat_natCast]
  rw [if_neg (by omega), if_neg (by omega), if_pos (by omega)]
theorem enc_four {r : Nat} (h0 : 65536 ≤ r) (hv : Utf8.valid (r : Int) = true) : Utf8.encode (r : Int) = ⟨#[UInt8.ofNat (240 + r / 262144), UInt8.ofNat (128 + r / 4096 % 64), UInt8.ofNat (128 + r / 64 % 64), UInt8.ofNat (128 + r % 64)]⟩ := by
  unfold Utf8.encode
  simp only [hv, if_true, Int.toNat_natCast]
  rw [if_neg (by omega), if_neg (by omega), if_neg (by omega)]
set_option maxRecDepth 100000 in
set_option maxHeartbeats 4000000 in
theorem irune_bad (m : ByteArray) (r : Nat) (h0 : 128 ≤ r) (h1 : r ≠ 65533) (hv : Lib.validRune (r : Int) = false) (w : World) : Calls Tryd.prog 45 #[.string m, .int .i32 (r : Int)] w fun e w' => e = .returned (.int .i64 (-1)) ∧ Below w.heap.size w w' := by
  have e1 : ((r : Int) == 65533) = false := by rw [beq_eq_false_iff_ne]; omega
  have e2 : ¬ (r : Int) < 128 := by omega
  have hvr : Calls Tryd.prog 47 #[.int .i32 (r : Int)] w fun e w' => e = .returned (.bool false) ∧ w' = w := by have := Tryd.utf8_ValidRune (r : Int) w; rw [hv] at this; exact this
  have HV := Lib.hid hvr
  clear hv hvr h1
  go_enter Tryd.func45, Tryd.ntmps45
  go_wp2_with (go_at_call 47; refine HV.out.mono ?_; rintro e w' ⟨rfl, rfl⟩)
  go_ret
  exact ⟨by rfl, Below.refl _ _⟩
theorem enc_great {r : Nat} (h0 : 128 ≤ r) (hv : Lib.validRune (r : Int) = true) : ∃ (rs : ByteArray) (k : Nat), Utf8.encode (r : Int) = rs ∧ rs.size = k + 1 ∧ 1 ≤ k ∧ k ≤ 3 ∧ ∀ h : k < rs.size, 128 ≤ (rs[k]'h).toNat := by
  have hv2 : Utf8.valid (r : Int) = true := by
    simp [Lib.validRune] at hv
    simp [Utf8.valid]
    omega
  by_cases h1 : r < 2048
  · refine ⟨_, 1, enc_two h0 h1, rfl, by omega, by omega, fun h => ?_⟩
    show 128 ≤ (UInt8.ofNat (128 + r % 64)).toNat
    rw [UInt8.toNat_ofNat']; omega
  · by_cases h2 : r < 65536
    · refine ⟨_, 2, enc_three (by omega) h2 hv2, rfl, by omega, by omega, fun h => ?_⟩
      show 128 ≤ (UInt8.ofNat (128 + r % 64)).toNat
      rw [UInt8.toNat_ofNat']; omega
    · refine ⟨_, 3, enc_four (by omega) hv2, rfl, by omega, by omega, fun h => ?_⟩
      show 128 ≤ (UInt8.ofNat (128 + r % 64)).toNat
      rw [UInt8.toNat_ofNat']; omega
theorem ix_none : ∀ (l : List UInt8) (c : UInt8), (∀ x ∈ l, x ≠ c) → Lib.indexByte l c = -1
  | [], _, _ => rfl
  | b :: l, c, h => by
    unfold Lib.indexByte
    rw [if_neg (by simpa using h b (List.mem_cons_self ..)), ix_none l c (fun x hx => h x (List.mem_cons_of_mem _ hx))]
    rfl
set_option maxRecDepth 100000 in
set_option maxHeartbeats 4000000 in
theorem irune_gen (m : ByteArray) (hm : m.size = 8) (hall : ∀ i (h : i < m.size), (m[i]'h).toNat < 128) (r : Nat) (h0 : 128 ≤ r) (h1 : r ≠ 65533) (hv : Lib.validRune (r : Int) = true) (w : World) : Calls Tryd.prog 45 #[.string m, .int .i32 (r : Int)] w fun e w' => e = .returned (.int .i64 (-1)) ∧ Below w.heap.size w w' := by
  have e1 : ((r : Int) == 65533) = false := by rw [beq_eq_false_iff_ne]; omega
  have e2 : ¬ (r : Int) < 128 := by omega
  have hvr : Calls Tryd.prog 47 #[.int .i32 (r : Int)] w fun e w' => e = .returned (.bool true) ∧ w' = w := by have := Tryd.utf8_ValidRune (r : Int) w; rw [hv] at this; exact this
  have HV := Lib.hid hvr
  obtain ⟨rs, k, henc, hsz, hk1, hk3, hlast⟩ := enc_great h0 hv
  have hkr : k < rs.size := by omega
  have hkm : k < m.size := by omega
  have hb1 := hlast hkr
  have hb2 := hall k hkm
  have hne : ((m[k].toNat : Int) == (rs[k].toNat : Int)) = false := by rw [beq_eq_false_iff_ne]; omega
  have hne2 : ((m[k].toNat : Int) != (rs[k].toNat : Int)) = true := by rw [bne, hne]; rfl
  have hki : (k : Int) < (m.size : Int) := by omega
  have hki2 : (k : Int) < (rs.size : Int) := by omega
  have hszi : (rs.size : Int) - 1 = (k : Int) := by omega
  have HSZ := Lib.hid hsz
  have HM := Lib.hid hm
  have HALL := Lib.hid hall
  have HLAST := Lib.hid hlast
  have hix : ∀ W : World, Calls Tryd.prog 37 #[.string (m.extract (k + 1) m.size), .int .u8 (rs[k].toNat : Int)] W fun e w' => e = .returned (.int .i64 (-1)) ∧ w' = W := fun W => by
    have := Tryd.strings_IndexByte (m.extract (k + 1) m.size) (rs[k].toNat : Int) W
    rw [ix_none] at this
    · exact this
    · intro x hx
      rw [Int.toNat_natCast, show (rs[k].toNat).toUInt8 = rs[k] from UInt8.ofNat_toNat]
      rw [Lib.extract_to_end] at hx
      obtain ⟨i, hi, rfl⟩ := List.mem_iff_getElem.1 (List.mem_of_mem_drop hx)
      have := hall i (by simpa using hi)
      intro e
      have e2 : (m[i]'(by simpa using hi)).toNat = rs[k].toNat := congrArg UInt8.toNat e
      omega
  clear hv hvr h1 hsz hm hall hlast hb1 hb2
  go_enter Tryd.func45, Tryd.ntmps45
  go_wp2_with (first | (go_at_call 47; refine HV.out.mono ?_; rintro e w' ⟨rfl, rfl⟩) | fail)
  go_step3
  go_wp2_with fail
  refine wp_loop_rounds 1 ?_
  rw [rounds_succ]
  go_wp2_with fail
  go_step3
  go_wp2_with fail
  go_quiet (fail)
  have hbw : Below w'.heap.size w' (w'.drewN nq) := below_drewN (Below.refl _ _) nq
  generalize w'.drewN nq = w2 at *
  have HBW := Lib.hid hbw
  have HIX := Lib.hid hix
  clear hbw hix hne hne2
  have s1 : IntKind.i64.wrap ((k : Int) + 1) = (k : Int) + 1 := IntWalk.i64_in _ (by omega)
  have s2 : ((k : Int) + 1).toNat = k + 1 := by omega
  have s3 : (0 : Int) ≤ (k : Int) + 1 := by omega
  have s4 : (k : Int) + 1 ≤ (m.size : Int) := by omega
  go_wp2_with fail
  go_quiet ((go_at_call 37; exact Calls.quiet_of_same (HIX.out _)))
  clear s1 s2 s3 s4
  go_wp2_with fail
  rw [Exit.noGoto_ret]
  simp only [Exit.inBlock, Exit.then, Exit.noGoto_ret]
  go_ret
  exact ⟨by rfl, below_drewN HBW.out _⟩
end Go.Proofs.YtiheibcookcbdaaDoor
