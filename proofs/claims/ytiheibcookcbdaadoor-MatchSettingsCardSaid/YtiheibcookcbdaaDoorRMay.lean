/- The document's May: the contract. -/
import Derived.Test.YtiheibcookcbdaaDoorRTx
set_option linter.unusedVariables false
namespace Go.Proofs.YtiheibcookcbdaaDoor
open Go.RowKit
theorem empty_facts {s : ByteArray} (h : s.size = 0) : s.toList = [] ∧ s.toList.isEmpty = true := by
  have he : s.toList = [] := by
    rw [ByteArray.toList_eq]; exact List.eq_nil_of_length_eq_zero (by rw [size_data]; omega)
  exact ⟨he, by rw [he]; rfl⟩
theorem full_facts {s : ByteArray} (h : ¬ s.size = 0) : ¬ s.toList = [] ∧ s.toList.isEmpty = false := by
  have he : ¬ s.toList = [] := by
    intro h2
    rw [ByteArray.toList_eq] at h2
    have : s.data.toList.length = 0 := by rw [h2]; rfl
    rw [size_data] at this; omega
  exact ⟨he, by simpa using he⟩
set_option maxRecDepth 100000 in
set_option maxHeartbeats 8000000 in
theorem rmay_any (nm fam qk : ByteArray) (lv : Nat) (sc en : Int) (A : Option Addr) (n c : Nat) (ts : List ByteArray) (hn : n = ts.length) (hz : Cc.fits ⟨nm, fam, lv, ts, sc, qk, en⟩) (w : World) (B : Nat) (hB : B ≤ w.heap.size) (hs : Seg w B A (strs ts)) :
    Calls Tryd.prog 31 #[.agg #[.string nm, .string fam, .int .u8 (lv : Int), .slice A n c, .int .i8 sc, .string qk, .int .i16 en]] w fun e w' => e = .returned (.bool (mayB ⟨nm, fam, lv, ts, sc, qk, en⟩)) ∧ Below w.heap.size w w' := by
  have hnm := fun w => rname_any nm w hz.nm
  have hfam := fun w => rname_any fam w hz.fam
  have hqk := fun w => rname_any qk w hz.qk
  have htx := rtexts_any A c ts n hn hz.ts (w.alloc (.cells #[.string nm, .string fam, .int .u8 (lv : Int), .slice A n c, .int .i8 sc, .string qk, .int .i16 en] 26)) B (by simp; omega) (hs.alloc hB _)
  have hlv := hz.lv
  unfold mayB
  simp only
  generalize nameB nm.data.toList = bn at *
  generalize nameB fam.data.toList = bf at *
  generalize nameB qk.data.toList = bq at *
  generalize textsB ts = bt at *
  obtain ⟨r, hr⟩ : ∃ r, r = (bn && bf && (decide (qk.size = 0) || bq) && decide (lv ≤ 4) && decide (-100 ≤ sc) && decide (sc ≤ 100) && decide (-1 ≤ en) && decide (en ≤ 47) && bt) := ⟨_, rfl⟩
  rw [← hr]
  have HR := Lib.hid hr
  have HNM := Lib.hid hnm
  have HFAM := Lib.hid hfam
  have HQK := Lib.hid hqk
  have HTX := Lib.hid htx
  clear hr hnm hfam hqk htx hn hz hs
  rcases bn with _ | _
  · obtain rfl : r = false := by rw [HR.out]; simp
    go_enter Tryd.func31, Tryd.ntmps31
    go_wp2_with (first
      | (go_at_call 35; refine HTX.out.mono ?_; rintro e w1 ⟨rfl, hb1⟩; have HB1 := Lib.hid hb1; clear hb1)
      | (go_at_call 34; ((with_reducible refine (HNM.out _).mono ?_); rintro e w1 ⟨rfl, rfl⟩))
      | (go_at_call 34; ((with_reducible refine (HFAM.out _).mono ?_); rintro e w1 ⟨rfl, rfl⟩))
      | (go_at_call 34; ((with_reducible refine (HQK.out _).mono ?_); rintro e w1 ⟨rfl, rfl⟩)))
    go_ret
    exact ⟨rfl, (Below.refl _ _).alloc (Nat.le_refl _) _⟩
  rcases bf with _ | _
  · obtain rfl : r = false := by rw [HR.out]; simp
    go_enter Tryd.func31, Tryd.ntmps31
    go_wp2_with (first
      | (go_at_call 35; refine HTX.out.mono ?_; rintro e w1 ⟨rfl, hb1⟩; have HB1 := Lib.hid hb1; clear hb1)
      | (go_at_call 34; ((with_reducible refine (HNM.out _).mono ?_); rintro e w1 ⟨rfl, rfl⟩))
      | (go_at_call 34; ((with_reducible refine (HFAM.out _).mono ?_); rintro e w1 ⟨rfl, rfl⟩))
      | (go_at_call 34; ((with_reducible refine (HQK.out _).mono ?_); rintro e w1 ⟨rfl, rfl⟩)))
    go_ret
    exact ⟨rfl, (Below.refl _ _).alloc (Nat.le_refl _) _⟩
  by_cases c1 : lv ≤ 4
  case neg =>
    obtain rfl : r = false := by rw [HR.out, decide_eq_false c1]; simp
    have ec1 : decide ((lv : Int) ≤ 4) = false := by simp; omega
    go_enter Tryd.func31, Tryd.ntmps31
    go_wp2_with (first
      | (go_at_call 35; refine HTX.out.mono ?_; rintro e w1 ⟨rfl, hb1⟩; have HB1 := Lib.hid hb1; clear hb1)
      | (go_at_call 34; ((with_reducible refine (HNM.out _).mono ?_); rintro e w1 ⟨rfl, rfl⟩))
      | (go_at_call 34; ((with_reducible refine (HFAM.out _).mono ?_); rintro e w1 ⟨rfl, rfl⟩))
      | (go_at_call 34; ((with_reducible refine (HQK.out _).mono ?_); rintro e w1 ⟨rfl, rfl⟩)))
    go_ret
    exact ⟨rfl, (Below.refl _ _).alloc (Nat.le_refl _) _⟩
  have ec1 : decide ((lv : Int) ≤ 4) = true := by simp; omega
  by_cases c2 : -100 ≤ sc
  case neg =>
    obtain rfl : r = false := by rw [HR.out, decide_eq_false c2]; simp
    have ec2 : decide (-100 ≤ sc) = false := by simp; omega
    go_enter Tryd.func31, Tryd.ntmps31
    go_wp2_with (first
      | (go_at_call 35; refine HTX.out.mono ?_; rintro e w1 ⟨rfl, hb1⟩; have HB1 := Lib.hid hb1; clear hb1)
      | (go_at_call 34; ((with_reducible refine (HNM.out _).mono ?_); rintro e w1 ⟨rfl, rfl⟩))
      | (go_at_call 34; ((with_reducible refine (HFAM.out _).mono ?_); rintro e w1 ⟨rfl, rfl⟩))
      | (go_at_call 34; ((with_reducible refine (HQK.out _).mono ?_); rintro e w1 ⟨rfl, rfl⟩)))
    go_ret
    exact ⟨rfl, (Below.refl _ _).alloc (Nat.le_refl _) _⟩
  have ec2 : decide (-100 ≤ sc) = true := by simp; omega
  by_cases c3 : sc ≤ 100
  case neg =>
    obtain rfl : r = false := by rw [HR.out, decide_eq_false c3]; simp
    have ec3 : decide (sc ≤ 100) = false := by simp; omega
    go_enter Tryd.func31, Tryd.ntmps31
    go_wp2_with (first
      | (go_at_call 35; refine HTX.out.mono ?_; rintro e w1 ⟨rfl, hb1⟩; have HB1 := Lib.hid hb1; clear hb1)
      | (go_at_call 34; ((with_reducible refine (HNM.out _).mono ?_); rintro e w1 ⟨rfl, rfl⟩))
      | (go_at_call 34; ((with_reducible refine (HFAM.out _).mono ?_); rintro e w1 ⟨rfl, rfl⟩))
      | (go_at_call 34; ((with_reducible refine (HQK.out _).mono ?_); rintro e w1 ⟨rfl, rfl⟩)))
    go_ret
    exact ⟨rfl, (Below.refl _ _).alloc (Nat.le_refl _) _⟩
  have ec3 : decide (sc ≤ 100) = true := by simp; omega
  by_cases hq : qk.size ≠ 0 ∧ bq = false
  · obtain ⟨hq0, rfl⟩ := hq
    obtain rfl : r = false := by rw [HR.out, decide_eq_false hq0]; simp
    obtain ⟨q1, q2⟩ := full_facts hq0
    go_enter Tryd.func31, Tryd.ntmps31
    go_wp2_with (first
      | (go_at_call 35; refine HTX.out.mono ?_; rintro e w1 ⟨rfl, hb1⟩; have HB1 := Lib.hid hb1; clear hb1)
      | (go_at_call 34; ((with_reducible refine (HNM.out _).mono ?_); rintro e w1 ⟨rfl, rfl⟩))
      | (go_at_call 34; ((with_reducible refine (HFAM.out _).mono ?_); rintro e w1 ⟨rfl, rfl⟩))
      | (go_at_call 34; ((with_reducible refine (HQK.out _).mono ?_); rintro e w1 ⟨rfl, rfl⟩)))
    go_ret
    exact ⟨rfl, (Below.refl _ _).alloc (Nat.le_refl _) _⟩
  by_cases hqq : qk.size = 0
  · obtain ⟨q1, q2⟩ := empty_facts hqq
    by_cases c4 : -1 ≤ en
    case neg =>
      obtain rfl : r = false := by rw [HR.out, decide_eq_false c4]; simp
      have ec4 : decide (-1 ≤ en) = false := by simp; omega
      go_enter Tryd.func31, Tryd.ntmps31
      go_wp2_with (first
        | (go_at_call 35; refine HTX.out.mono ?_; rintro e w1 ⟨rfl, hb1⟩; have HB1 := Lib.hid hb1; clear hb1)
        | (go_at_call 34; ((with_reducible refine (HNM.out _).mono ?_); rintro e w1 ⟨rfl, rfl⟩))
        | (go_at_call 34; ((with_reducible refine (HFAM.out _).mono ?_); rintro e w1 ⟨rfl, rfl⟩))
        | (go_at_call 34; ((with_reducible refine (HQK.out _).mono ?_); rintro e w1 ⟨rfl, rfl⟩)))
      go_ret
      exact ⟨rfl, (Below.refl _ _).alloc (Nat.le_refl _) _⟩
    have ec4 : decide (-1 ≤ en) = true := by simp; omega
    by_cases c5 : en ≤ 47
    case neg =>
      obtain rfl : r = false := by rw [HR.out, decide_eq_false c5]; simp
      have ec5 : decide (en ≤ 47) = false := by simp; omega
      go_enter Tryd.func31, Tryd.ntmps31
      go_wp2_with (first
        | (go_at_call 35; refine HTX.out.mono ?_; rintro e w1 ⟨rfl, hb1⟩; have HB1 := Lib.hid hb1; clear hb1)
        | (go_at_call 34; ((with_reducible refine (HNM.out _).mono ?_); rintro e w1 ⟨rfl, rfl⟩))
        | (go_at_call 34; ((with_reducible refine (HFAM.out _).mono ?_); rintro e w1 ⟨rfl, rfl⟩))
        | (go_at_call 34; ((with_reducible refine (HQK.out _).mono ?_); rintro e w1 ⟨rfl, rfl⟩)))
      go_ret
      exact ⟨rfl, (Below.refl _ _).alloc (Nat.le_refl _) _⟩
    have ec5 : decide (en ≤ 47) = true := by simp; omega
    obtain rfl : r = bt := by rw [HR.out, decide_eq_true c1, decide_eq_true c2, decide_eq_true c3, decide_eq_true c4, decide_eq_true c5]; simp [hqq]
    go_enter Tryd.func31, Tryd.ntmps31
    go_wp2_with (first
      | (go_at_call 35; refine HTX.out.mono ?_; rintro e w1 ⟨rfl, hb1⟩; have HB1 := Lib.hid hb1; clear hb1)
      | (go_at_call 34; ((with_reducible refine (HNM.out _).mono ?_); rintro e w1 ⟨rfl, rfl⟩))
      | (go_at_call 34; ((with_reducible refine (HFAM.out _).mono ?_); rintro e w1 ⟨rfl, rfl⟩))
      | (go_at_call 34; ((with_reducible refine (HQK.out _).mono ?_); rintro e w1 ⟨rfl, rfl⟩)))
    go_ret
    exact ⟨rfl, ((Below.refl _ _).alloc (Nat.le_refl _) _).trans (HB1.out.mono (by simp))⟩
  obtain rfl : bq = true := by
    rcases bq with _ | _
    · exact absurd ⟨hqq, rfl⟩ hq
    · rfl
  clear hq
  obtain ⟨q1, q2⟩ := full_facts hqq
  by_cases c4 : -1 ≤ en
  case neg =>
    obtain rfl : r = false := by rw [HR.out, decide_eq_false c4]; simp
    have ec4 : decide (-1 ≤ en) = false := by simp; omega
    go_enter Tryd.func31, Tryd.ntmps31
    go_wp2_with (first
      | (go_at_call 35; refine HTX.out.mono ?_; rintro e w1 ⟨rfl, hb1⟩; have HB1 := Lib.hid hb1; clear hb1)
      | (go_at_call 34; ((with_reducible refine (HNM.out _).mono ?_); rintro e w1 ⟨rfl, rfl⟩))
      | (go_at_call 34; ((with_reducible refine (HFAM.out _).mono ?_); rintro e w1 ⟨rfl, rfl⟩))
      | (go_at_call 34; ((with_reducible refine (HQK.out _).mono ?_); rintro e w1 ⟨rfl, rfl⟩)))
    go_ret
    exact ⟨rfl, (Below.refl _ _).alloc (Nat.le_refl _) _⟩
  have ec4 : decide (-1 ≤ en) = true := by simp; omega
  by_cases c5 : en ≤ 47
  case neg =>
    obtain rfl : r = false := by rw [HR.out, decide_eq_false c5]; simp
    have ec5 : decide (en ≤ 47) = false := by simp; omega
    go_enter Tryd.func31, Tryd.ntmps31
    go_wp2_with (first
      | (go_at_call 35; refine HTX.out.mono ?_; rintro e w1 ⟨rfl, hb1⟩; have HB1 := Lib.hid hb1; clear hb1)
      | (go_at_call 34; ((with_reducible refine (HNM.out _).mono ?_); rintro e w1 ⟨rfl, rfl⟩))
      | (go_at_call 34; ((with_reducible refine (HFAM.out _).mono ?_); rintro e w1 ⟨rfl, rfl⟩))
      | (go_at_call 34; ((with_reducible refine (HQK.out _).mono ?_); rintro e w1 ⟨rfl, rfl⟩)))
    go_ret
    exact ⟨rfl, (Below.refl _ _).alloc (Nat.le_refl _) _⟩
  have ec5 : decide (en ≤ 47) = true := by simp; omega
  obtain rfl : r = bt := by rw [HR.out, decide_eq_true c1, decide_eq_true c2, decide_eq_true c3, decide_eq_true c4, decide_eq_true c5]; simp [hqq]
  go_enter Tryd.func31, Tryd.ntmps31
  go_wp2_with (first
    | (go_at_call 35; refine HTX.out.mono ?_; rintro e w1 ⟨rfl, hb1⟩; have HB1 := Lib.hid hb1; clear hb1)
    | (go_at_call 34; ((with_reducible refine (HNM.out _).mono ?_); rintro e w1 ⟨rfl, rfl⟩))
    | (go_at_call 34; ((with_reducible refine (HFAM.out _).mono ?_); rintro e w1 ⟨rfl, rfl⟩))
    | (go_at_call 34; ((with_reducible refine (HQK.out _).mono ?_); rintro e w1 ⟨rfl, rfl⟩)))
  go_ret
  exact ⟨rfl, ((Below.refl _ _).alloc (Nat.le_refl _) _).trans (HB1.out.mono (by simp))⟩
end Go.Proofs.YtiheibcookcbdaaDoor
