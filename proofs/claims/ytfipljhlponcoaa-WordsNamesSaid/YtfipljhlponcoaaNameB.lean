/- Contracts of both Unit functions and of words.Name; the walk of the statement WordsNames. -/
import Derived.Test.YtfipljhlponcoaaNameA
set_option linter.unusedVariables false
namespace Go.Proofs.Ytfipljhlponcoaa
open Go.RowKit
def chars : List UInt8 := [97, 98, 99, 100, 101, 102, 103, 104, 105, 106, 107, 108, 109, 110, 111, 112, 113, 114, 115, 116, 117, 118, 119, 120, 121, 122, 48, 49, 50, 51, 52, 53, 54, 55, 56, 57, 44, 46, 95, 43, 45, 64, 35, 63]
def ixB (n : Int) : Int := Lib.indexByte chars n.toNat.toUInt8
theorem ixB_all : ∀ n < 256, (decide (ixB (n : Nat) < 0) == !chB (n : Nat)) = true := by decide +kernel
def nameE (l : List UInt8) : Int := if nameB l then 0 else 10
theorem nameE_yes {l : List UInt8} (h : nameB l = true) : nameE l = 0 := by simp [nameE, h]
theorem nameE_no {l : List UInt8} (h : nameB l = false) : nameE l = 10 := by simp [nameE, h]
theorem ix_any (c : Int) (w : World) : Calls Try.prog 30 #[.string ⟨chars.toArray⟩, .int .u8 c] w fun e w' => e = .returned (.int .i64 (ixB c)) ∧ w = w' :=
  (Try.strings_IndexByte ⟨chars.toArray⟩ c w).mono fun _ _ h => ⟨h.1, h.2.symm⟩
theorem pname_any (s : ByteArray) (w : World) (hs : s.size ≤ maxLen) : Calls Try.prog 20 #[.string s] w fun e w' => e = .returned (.int .i64 (nameE s.data.toList)) ∧ Below w.heap.size w w' := by
  unfold maxLen at hs
  by_cases h1 : s.size < 1
  · have he : s.toList = [] := by
      rw [ByteArray.toList_eq]; exact List.eq_nil_of_length_eq_zero (by rw [size_data]; omega)
    have he' : s.toList.isEmpty = true := by rw [he]; rfl
    go_enter Try.func20, Try.ntmps20
    go_wp2
    all_goals go_ret
    all_goals exact ⟨ret_int (nameE_no (by unfold nameB; rw [size_data]; simp; omega)).symm, Below.refl _ _⟩
  · have he : ¬ s.toList = [] := by
      intro h
      rw [ByteArray.toList_eq] at h
      have : s.data.toList.length = 0 := by rw [h]; rfl
      rw [size_data] at this; omega
    have he' : s.toList.isEmpty = false := by simpa using he
    by_cases h2 : 31 < s.size
    · go_enter Try.func20, Try.ntmps20
      go_wp2
      all_goals go_ret
      all_goals exact ⟨ret_int (nameE_no (by unfold nameB; rw [size_data]; simp; omega)).symm, Below.refl _ _⟩
    · obtain ⟨cap, W, hrun, hb, hW, hcell⟩ := bytes_conv (P := Try.prog) w 9 44 5 s Try.underlying9 Try.underlying44 Try.underlying5
      have Hc := Lib.hid hcell
      have Hb := Lib.hid hb
      clear hcell hb
      go_enter Try.func20, Try.ntmps20
      go_wp2_with fail
      go_loop [15] (fun i => ∃ k : Nat, k ≤ s.size ∧ i = .int .i64 k ∧ (s.data.toList.take k).all (fun c => chB c.toNat) = true) (fun i => s.size - (intOf i).toNat)
      case atStart => exact ⟨0, by omega, rfl, rfl⟩
      case round =>
        obtain ⟨k, hk, rfl, hall⟩ := hrel
        have H := Lib.hid hall
        clear hall hrun
        by_cases hlt : k < s.size
        · have hc := Hc.out k hlt
          have hix := ixB_all s[k].toNat s[k].toNat_lt
          rw [beq_iff_eq] at hix
          obtain ⟨c, hcc⟩ : ∃ c : Int, c = (s[k].toNat : Int) := ⟨_, rfl⟩
          rw [← hcc] at hc hix
          have HC := Lib.hid hcc
          clear hcc
          rcases hch : chB c
          · have HF : Hid (chB (s[k].toNat : Int) = false) := by rw [← HC.out]; exact hch
            rw [hch] at hix
            simp only [Bool.not_false, decide_eq_true_eq] at hix
            clear hch
            go_wp2_with (go_at_call 30; refine (ix_any c _).mono ?_; rintro e w' ⟨rfl, rfl⟩)
            go_ret
            exact ⟨ret_int (nameE_no (by unfold nameB; rw [not_all s k hlt _ HF.out]; simp)).symm, Hb.out⟩
          · have HF : Hid (chB (s[k].toNat : Int) = true) := by rw [← HC.out]; exact hch
            rw [hch] at hix
            simp only [Bool.not_true, decide_eq_false_iff_not] at hix
            clear hch
            go_wp2_with (go_at_call 30; refine (ix_any c _).mono ?_; rintro e w' ⟨rfl, rfl⟩)
            go_round
            case rel => exact ⟨k + 1, by omega, by go_num, take_all s k hlt _ H.out HF.out⟩
            case measure => simp [intOf]; omega
        · go_wp2
          go_ret
          obtain rfl : k = s.size := by omega
          have h3 := H.out
          rw [List.take_of_length_le (by rw [size_data]; omega)] at h3
          exact ⟨ret_int (nameE_yes (by unfold nameB; rw [h3, size_data]; simp; omega)).symm, Hb.out⟩

theorem last_any (s : ByteArray) (w : World) (hs : s.size < 4611686018427387904) : Calls Try.prog 29 #[.string s, .int .u8 64] w fun e w' => e = .returned (.int .i64 (Lib.lastIndexByte s 64)) ∧ w = w' :=
  (Try.strings_LastIndexByte s 64 hs w).mono fun _ _ h => ⟨h.1, h.2.symm⟩
def unitV (s : ByteArray) : Value :=
  if nameB s.data.toList = false then .tuple #[.string ⟨#[]⟩, .string ⟨#[]⟩, .int .i64 10]
  else if Lib.lastIndexByte s 64 < 0 then .tuple #[.string s, .string ⟨#[]⟩, .int .i64 0]
  else .tuple #[.string (s.extract 0 (Lib.lastIndexByte s 64).toNat), .string (s.extract ((Lib.lastIndexByte s 64).toNat + 1) s.size), .int .i64 0]
theorem punit_any (s : ByteArray) (w : World) (hs : s.size ≤ 140737488351232) : Calls Try.prog 18 #[.string s] w fun e w' => e = .returned (unitV s) ∧ Below w.heap.size w w' := by
  rcases hn : nameB s.data.toList
  · have hv : unitV s = .tuple #[.string ⟨#[]⟩, .string ⟨#[]⟩, .int .i64 10] := by simp [unitV, hn]
    have HV := Lib.hid hv
    have he := nameE_no hn
    clear hv hn
    go_enter Try.func18, Try.ntmps18
    go_wp2_with (go_at_call 20; refine (pname_any s _ (by unfold maxLen; omega)).mono ?_; rintro e w' ⟨rfl, hb⟩)
    go_ret3
    exact ⟨by rw [HV.out]; simp, by assumption⟩
  · rcases Lib.lastIdx_spec s 64 s.size with ⟨h1, _⟩ | ⟨i, h1, h2, _, _⟩
    · have hv : unitV s = .tuple #[.string s, .string ⟨#[]⟩, .int .i64 0] := by simp [unitV, hn, Lib.lastIndexByte, h1]
      have hl : Lib.lastIndexByte s 64 = -1 := h1
      have HV := Lib.hid hv
      have he := nameE_yes hn
      clear hv hn h1
      go_enter Try.func18, Try.ntmps18
      go_wp2_with (first
        | (go_at_call 20; refine (pname_any s _ (by unfold maxLen; omega)).mono ?_; rintro e w' ⟨rfl, hb⟩)
        | (go_at_call 29; refine (last_any s _ (by omega)).mono ?_; rintro e w' ⟨rfl, rfl⟩))
      go_ret3
      exact ⟨by rw [HV.out]; rfl, by assumption⟩
    · have hv : unitV s = .tuple #[.string (s.extract 0 i), .string (s.extract (i + 1) s.size), .int .i64 0] := by
        have : ¬ ((i : Int) < 0) := by omega
        simp [unitV, hn, Lib.lastIndexByte, h2, this]
      have hl : Lib.lastIndexByte s 64 = i := h2
      have HV := Lib.hid hv
      have he := nameE_yes hn
      have hi : (i : Int) < (s.size : Int) := by omega
      clear hv hn h2
      go_enter Try.func18, Try.ntmps18
      go_wp2_with (first
        | (go_at_call 20; refine (pname_any s _ (by unfold maxLen; omega)).mono ?_; rintro e w' ⟨rfl, hb⟩)
        | (go_at_call 29; refine (last_any s _ (by omega)).mono ?_; rintro e w' ⟨rfl, rfl⟩))
      go_quiet (fail)
      go_wp2
      go_ret3
      exact ⟨by rw [HV.out]; rfl, below_drewN hb _⟩

theorem runit_any (s : ByteArray) (w : World) (hs : s.size ≤ 140737488351232) : Calls Try.prog 19 #[.string s] w fun e w' => e = .returned (unitV s) ∧ Below w.heap.size w w' := by
  rcases hn : nameB s.data.toList
  · have hv : unitV s = .tuple #[.string ⟨#[]⟩, .string ⟨#[]⟩, .int .i64 10] := by simp [unitV, hn]
    have HV := Lib.hid hv
    clear hv
    go_enter Try.func19, Try.ntmps19
    go_wp2_with (go_at_call 21; refine (rname_any s _ (by unfold maxLen; omega)).mono ?_; rintro e w' ⟨rfl, rfl⟩)
    go_ret3
    exact ⟨by rw [HV.out]; rfl, Below.refl _ _⟩
  · have HN := Lib.hid hn
    go_enter Try.func19, Try.ntmps19
    go_wp2_with (go_at_call 21; refine (rname_any s _ (by unfold maxLen; omega)).mono ?_; rintro e w' ⟨rfl, rfl⟩)
    go_loop [5] (fun u => ∃ i : Int, -1 ≤ i ∧ i < s.size ∧ u = .int .i64 i ∧ Lib.lastIdx s 64 (i + 1).toNat = Lib.lastIndexByte s 64) (fun u => (intOf u + 1).toNat)
    case atStart => exact ⟨_, by omega, by omega, rfl, by unfold Lib.lastIndexByte; congr 1; omega⟩
    case round =>
      obtain ⟨i, hi1, hi2, rfl, hl⟩ := hrel
      have HL := Lib.hid hl
      clear hl hn
      by_cases h0 : 0 ≤ i
      · obtain ⟨k, rfl⟩ := Int.eq_ofNat_of_zero_le h0
        have hk : k < s.size := by omega
        have hg : s.data[k]! = s[k] := by rw [getElem!_pos s.data k hk]; rfl
        have hstep : Lib.lastIdx s 64 (k + 1) = if (s[k].toNat : Int) = 64 then (k : Int) else Lib.lastIdx s 64 k := by rw [Lib.lastIdx, hg]
        have HS := Lib.hid hstep
        clear hstep hg
        by_cases hc : (s[k].toNat : Int) = 64
        · have hv : unitV s = .tuple #[.string (s.extract 0 k), .string (s.extract (k + 1) s.size), .int .i64 0] := by
            have h1 : Lib.lastIndexByte s 64 = k := by rw [← HL.out, show ((k : Int) + 1).toNat = k + 1 from by omega, HS.out, if_pos hc]
            have : ¬ ((k : Int) < 0) := by omega
            simp [unitV, HN.out, h1, this]
          have HV := Lib.hid hv
          clear hv
          go_wp2
          go_quiet (fail)
          go_wp2
          go_ret3
          exact ⟨by rw [HV.out]; rfl, below_drewN (Below.refl _ _) _⟩
        · have HC := Lib.hid hc
          have hc' : ((s[k].toNat : Int) == 64) = false := by simpa using hc
          clear hc
          go_wp2
          go_round
          case rel => exact ⟨(k : Int) - 1, by omega, by omega, rfl, by rw [← HL.out, show ((k : Int) + 1).toNat = k + 1 from by omega, HS.out, if_neg HC.out, show ((k : Int) - 1 + 1).toNat = k from by omega]⟩
          case measure => simp [intOf]
      · obtain rfl : i = -1 := by omega
        have h1 : Lib.lastIndexByte s 64 = -1 := by rw [← HL.out]; rfl
        have hv : unitV s = .tuple #[.string s, .string ⟨#[]⟩, .int .i64 0] := by simp [unitV, HN.out, h1]
        clear h1
        have HV := Lib.hid hv
        clear hv
        go_wp2
        go_ret3
        exact ⟨by rw [HV.out]; rfl, Below.refl _ _⟩
theorem unitV_shape (s : ByteArray) : ∃ b a n, unitV s = .tuple #[.string b, .string a, .int .i64 n] := by
  unfold unitV
  split
  · exact ⟨_, _, _, rfl⟩
  · split
    · exact ⟨_, _, _, rfl⟩
    · exact ⟨_, _, _, rfl⟩

set_option maxRecDepth 100000 in
theorem names_walk (s : ByteArray) (w : World) (hs : s.size ≤ 140737488351232) : Calls Try.prog 4 #[.string s] w fun e w' => e = .returned (.bool true) ∧ Below w.heap.size w w' := by
  obtain ⟨b, a, n, hu⟩ := unitV_shape s
  have hpu : ∀ w : World, Calls Try.prog 18 #[.string s] w fun e w' => e = .returned (.tuple #[.string b, .string a, .int .i64 n]) ∧ Below w.heap.size w w' := fun w => by rw [← hu]; exact punit_any s w hs
  have hru : ∀ w : World, Calls Try.prog 19 #[.string s] w fun e w' => e = .returned (.tuple #[.string b, .string a, .int .i64 n]) ∧ Below w.heap.size w w' := fun w => by rw [← hu]; exact runit_any s w hs
  have HP := Lib.hid hpu
  have HR := Lib.hid hru
  clear hpu hru hu
  have hbw := Below.refl w.heap.size w
  have hok : s.size ≤ maxLen := by unfold maxLen; omega
  rcases hn : nameB s.data.toList
  · have he := nameE_no hn
    go_enter Try.func4, Try.ntmps4
    go_wp2_with (first
      | (go_at_call 18; refine (accum (HP.out _) (by assumption)).mono ?_; rintro e w1 ⟨rfl, hb1⟩)
      | (go_at_call 19; refine (accum (HR.out _) (by assumption)).mono ?_; rintro e w2 ⟨rfl, hb2⟩)
      | (go_at_call 20; refine (accum (pname_any s _ hok) (by assumption)).mono ?_; rintro e w3 ⟨rfl, hb3⟩)
      | (go_at_call 21; refine (rname_any s _ hok).mono ?_; rintro e w4 ⟨rfl, rfl⟩))
    go_ret
    exact ⟨rfl, by assumption⟩
  · have he := nameE_yes hn
    go_enter Try.func4, Try.ntmps4
    go_wp2_with (first
      | (go_at_call 18; refine (accum (HP.out _) (by assumption)).mono ?_; rintro e w1 ⟨rfl, hb1⟩)
      | (go_at_call 19; refine (accum (HR.out _) (by assumption)).mono ?_; rintro e w2 ⟨rfl, hb2⟩)
      | (go_at_call 20; refine (accum (pname_any s _ hok) (by assumption)).mono ?_; rintro e w3 ⟨rfl, hb3⟩)
      | (go_at_call 21; refine (rname_any s _ hok).mono ?_; rintro e w4 ⟨rfl, rfl⟩))
    go_ret
    exact ⟨rfl, by assumption⟩
end Go.Proofs.Ytfipljhlponcoaa
