/- Hex -/
import Derived.Test.YtfipljhlponcoaaDoorHexU
import Derived.Test.YtfipljhlponcoaaDoorHexF
set_option linter.unusedVariables false
namespace Go.Proofs.YtfipljhlponcoaaDoor
open Go.RowKit
theorem hexGo_le {mx : Nat} (l : List Nat) : ∀ n, n ≤ mx → (hexGo mx n l).1 ≤ mx := by
  induction l with
  | nil => intro n h; exact h
  | cons c t ih =>
    intro n h
    unfold hexGo
    split
    · exact Nat.zero_le _
    · split
      · exact Nat.le_refl _
      · rename_i hh; exact ih _ (by omega)
theorem hexPU_le (mx : Nat) (l : List Nat) : (hexPU mx l).1 ≤ mx := by
  unfold hexPU
  split
  · exact Nat.zero_le _
  · exact hexGo_le _ _ (Nat.zero_le _)
theorem hexGo_val {mx : Nat} (l : List Nat) : ∀ n, ((hexGo mx n l).2 = 2 → (hexGo mx n l).1 = 0) ∧ ((hexGo mx n l).2 = 1 → (hexGo mx n l).1 = mx) := by
  induction l with
  | nil => intro n; exact ⟨fun h => (by cases h), fun h => (by cases h)⟩
  | cons c t ih =>
    intro n
    unfold hexGo
    split
    · exact ⟨fun _ => rfl, fun h => (by cases h)⟩
    · split
      · exact ⟨fun h => (by cases h), fun _ => rfl⟩
      · exact ih _
theorem hexPU_val (mx : Nat) (l : List Nat) : ((hexPU mx l).2 = 2 → (hexPU mx l).1 = 0) ∧ ((hexPU mx l).2 = 1 → (hexPU mx l).1 = mx) := by
  unfold hexPU
  split
  · exact ⟨fun _ => rfl, fun h => (by cases h)⟩
  · exact hexGo_val _ _
theorem nl_dig (u : Nat) : nl (digT u) = 48 :: 120 :: (hexS u).map (·.toNat) := by simp [nl, digT]
theorem hexS_max : hexS 18446744073709551615 = List.replicate 16 102 := by simp [hexS, hx]
/-- Where ParseUint finds a fault the digits are not the text. -/
theorem hex_err {s : ByteArray} (h : (hexPU (mxOf 64) ((nl s).drop 2)).2 ≠ 0) : digT (hexPU (mxOf 64) ((nl s).drop 2)).1 ≠ s := by
  intro e
  have e2 : (nl s).drop 2 = (hexS (hexPU (mxOf 64) ((nl s).drop 2)).1).map (·.toNat) := by
    have := congrArg nl e
    rw [nl_dig] at this
    exact (congrArg (List.drop 2) this).symm
  obtain ⟨v2, v1⟩ := hexPU_val (mxOf 64) ((nl s).drop 2)
  rcases hexPU_err (mxOf 64) ((nl s).drop 2) with g | g | g
  · exact h g
  · rw [v1 g, show mxOf 64 = 18446744073709551615 from rfl, hexS_max] at e2
    rw [e2] at h
    exact h (by decide +kernel)
  · rw [v2 g, hexS_lo (by decide)] at e2
    rw [e2] at h
    exact h (by decide +kernel)
/-- What Hex answers. -/
def hexRes (s : ByteArray) : Nat × Nat := if 3 ≤ s.size ∧ digT (hexPU (mxOf 64) ((nl s).drop 2)).1 = s then ((hexPU (mxOf 64) ((nl s).drop 2)).1, 0) else (0, 11)
theorem hexRes_no {s : ByteArray} (h : ¬ (3 ≤ s.size ∧ digT (hexPU (mxOf 64) ((nl s).drop 2)).1 = s)) : hexRes s = (0, 11) := if_neg h
theorem dig_pre {u : Nat} {s : ByteArray} (h : digT u = s) : Lib.hasPrefix s.data.toList [48, 120] = true := by
  rw [← h]
  rfl
theorem dig_len {u : Nat} {s : ByteArray} (h : digT u = s) : 3 ≤ s.size := by
  rw [← h]
  show 3 ≤ (hexS u).length + 1 + 1
  have : 1 ≤ (hexS u).length := by
    by_cases g : u < 16
    · rw [hexS_lo g]; simp
    · rw [hexS_hi g]; simp
  omega
theorem pre_size {s : ByteArray} (h : Lib.hasPrefix s.data.toList [48, 120] = true) : 2 ≤ s.size := by
  have h2 := List.isPrefixOf_iff_prefix.1 h
  have := h2.length_le
  simpa using this
theorem trim_yes {s : ByteArray} (h : Lib.hasPrefix s.data.toList [48, 120] = true) : nl ⟨(Lib.trimPrefix s.data.toList [48, 120]).toArray⟩ = (nl s).drop 2 ∧ (⟨(Lib.trimPrefix s.data.toList [48, 120]).toArray⟩ : ByteArray).size ≤ s.size := by
  unfold Lib.trimPrefix
  rw [if_pos h]
  constructor
  · simp [nl]
  · show (s.data.toList.drop 2).length ≤ s.data.toList.length
    simp
theorem trim_no {s : ByteArray} (h : ¬ Lib.hasPrefix s.data.toList [48, 120] = true) : (⟨(Lib.trimPrefix s.data.toList [48, 120]).toArray⟩ : ByteArray) = s := by
  unfold Lib.trimPrefix
  rw [if_neg h]
set_option maxRecDepth 100000 in
theorem phex_any (s : ByteArray) (hz : s.size ≤ 281474976710656) (w : World) (h1 : ErrCell w 1) (h2 : ErrCell w 2) (hw5 : 5 < w.heap.size) (h5 : w.cell? ⟨5, 15, none⟩ = some (.int .u8 4)) :
    Calls Tryd.prog 12 #[.string s] w fun e w' => e = .returned (.tuple #[.int .u64 (hexRes s).1, .int .i64 (hexRes s).2]) ∧ Below w.heap.size w w' := by
  have HW := Lib.hid hw5
  have H5 := Lib.hid h5
  have HZ := Lib.hid hz
  obtain ⟨R, hR⟩ : ∃ R, hexRes s = R := ⟨_, rfl⟩
  rw [hR]
  have HCP := Lib.hid (fun W => Tryd.strings_CutPrefix s ⟨#[48, 120]⟩ W)
  by_cases hp : Lib.hasPrefix s.data.toList [48, 120] = true
  · obtain ⟨t1, t2⟩ := trim_yes hp
    have HPR := Lib.hid (show Lib.hasPrefix s.data.toList (⟨#[48, 120]⟩ : ByteArray).data.toList = true from hp)
    obtain ⟨T, hT⟩ : ∃ T, (⟨(Lib.trimPrefix s.data.toList [48, 120]).toArray⟩ : ByteArray) = T := ⟨_, rfl⟩
    have HT := Lib.hid (show (⟨(Lib.trimPrefix s.data.toList (⟨#[48, 120]⟩ : ByteArray).data.toList).toArray⟩ : ByteArray) = T from hT)
    rw [hT] at t1 t2
    have hH := hexs_any T 64 (.inr rfl) (by omega) w h1 h2 (by omega)
    unfold hexRes at hR
    have herr := @hex_err s
    have hle := hexPU_le (mxOf 64) ((nl s).drop 2)
    rw [t1] at hH
    obtain ⟨Q, hQ⟩ : ∃ Q, hexPU (mxOf 64) ((nl s).drop 2) = Q := ⟨_, rfl⟩
    rw [hQ] at hH hR herr hle
    obtain ⟨v, k⟩ := Q
    simp only at hH hR herr hle
    have hv : v < 18446744073709551616 := by
      have : mxOf 64 = 18446744073709551615 := rfl
      omega
    have HH := Lib.hid hH
    have HDG := Lib.hid (fun W h6 h7 => dig_any 14 (.inl rfl) v hv W h6 h7)
    obtain ⟨D, hD⟩ : ∃ D, digT v = D := ⟨_, rfl⟩
    have HDD := Lib.hid hD
    have hlen := @dig_len v s
    rw [hD] at herr hR hlen
    clear hH hQ hT t1 t2 h1 h2 hp hD hw5 h5 hz
    by_cases hk : k = 0
    · subst hk
      by_cases he : D = s
      · rw [if_pos ⟨hlen he, he⟩] at hR
        subst hR he
        clear hlen herr hle
        go_enter Tryd.func12, Tryd.ntmps12
        go_wp2_with (first
          | (go_at_call 40; refine (HCP.out _).mono ?_; rintro e w' ⟨rfl, hw⟩; obtain rfl : w = w' := hw.symm; rw [HT.out, HPR.out])
          | (go_at_call 41; refine HH.out.mono ?_; rintro e w' ⟨⟨ev, rfl, rfl⟩, hb⟩; have HB := Lib.hid hb; clear hb)
          | (go_at_call 14; refine (HDG.out _ (Nat.lt_of_lt_of_le HW.out HB.out.size) (by rw [HB.out.cell HW.out]; exact H5.out)).mono ?_; rintro e w'' ⟨rfl, hb2⟩; rw [HDD.out]; have HB2 := Lib.hid (below_next HB.out hb2); clear hb2)
          | (fail))
        go_ret2
        exact ⟨rfl, HB2.out⟩
      · rw [if_neg (fun h => he h.2)] at hR
        subst hR
        have hE : (D.toList == s.toList) = false := by rw [beq_eq_false_iff_ne]; exact fun e => he (str_inj e)
        clear he hlen herr hle
        go_enter Tryd.func12, Tryd.ntmps12
        go_wp2_with (first
          | (go_at_call 40; refine (HCP.out _).mono ?_; rintro e w' ⟨rfl, hw⟩; obtain rfl : w = w' := hw.symm; rw [HT.out, HPR.out])
          | (go_at_call 41; refine HH.out.mono ?_; rintro e w' ⟨⟨ev, rfl, rfl⟩, hb⟩; have HB := Lib.hid hb; clear hb)
          | (go_at_call 14; refine (HDG.out _ (Nat.lt_of_lt_of_le HW.out HB.out.size) (by rw [HB.out.cell HW.out]; exact H5.out)).mono ?_; rintro e w'' ⟨rfl, hb2⟩; rw [HDD.out]; have HB2 := Lib.hid (below_next HB.out hb2); clear hb2)
          | (fail))
        go_ret2
        exact ⟨rfl, HB2.out⟩
    · have he := herr hk
      rw [if_neg (fun h => he h.2)] at hR
      subst hR
      have hE : (D.toList == s.toList) = false := by rw [beq_eq_false_iff_ne]; exact fun e => he (str_inj e)
      clear he hlen herr hle
      go_enter Tryd.func12, Tryd.ntmps12
      go_wp2_with (first
        | (go_at_call 40; refine (HCP.out _).mono ?_; rintro e w' ⟨rfl, hw⟩; obtain rfl : w = w' := hw.symm; rw [HT.out, HPR.out])
        | (go_at_call 41; refine HH.out.mono ?_; rintro e w' ⟨⟨ev, rfl, hev⟩, hb⟩; rw [PErr, if_neg hk] at hev; obtain ⟨N, rfl⟩ := hev; have HB := Lib.hid hb; clear hb)
        | (go_at_call 14; refine (HDG.out _ (Nat.lt_of_lt_of_le HW.out HB.out.size) (by rw [HB.out.cell HW.out]; exact H5.out)).mono ?_; rintro e w'' ⟨rfl, hb2⟩; rw [HDD.out]; have HB2 := Lib.hid (below_next HB.out hb2); clear hb2)
        | (fail))
      go_ret2
      exact ⟨rfl, HB.out⟩
  · have HT := Lib.hid (show (⟨(Lib.trimPrefix s.data.toList (⟨#[48, 120]⟩ : ByteArray).data.toList).toArray⟩ : ByteArray) = s from trim_no hp)
    have HPR := Lib.hid (show Lib.hasPrefix s.data.toList (⟨#[48, 120]⟩ : ByteArray).data.toList = false from by simpa using hp)
    have hH := hexs_any s 64 (.inr rfl) hz w h1 h2 (by omega)
    rw [hexRes_no (fun h => hp (dig_pre h.2))] at hR
    subst hR
    obtain ⟨Q, hQ⟩ : ∃ Q, hexPU (mxOf 64) (nl s) = Q := ⟨_, rfl⟩
    rw [hQ] at hH
    obtain ⟨v, k⟩ := Q
    simp only at hH
    have HH := Lib.hid hH
    clear hH hQ h1 h2 hp hw5 h5 hz
    go_enter Tryd.func12, Tryd.ntmps12
    go_wp2_with (first
      | (go_at_call 40; refine (HCP.out _).mono ?_; rintro e w' ⟨rfl, hw⟩; obtain rfl : w = w' := hw.symm; rw [HT.out, HPR.out])
      | (go_at_call 41; refine HH.out.mono ?_; rintro e w' ⟨⟨ev, rfl, hev⟩, hb⟩; clear hev; have HB := Lib.hid hb; clear hb)
      | (fail))
    go_ret2
    exact ⟨rfl, HB.out⟩
set_option maxRecDepth 100000 in
theorem rhex_any (s : ByteArray) (hz : s.size ≤ 281474976710656) (w : World) (h1 : ErrCell w 1) (h2 : ErrCell w 2) (hw5 : 5 < w.heap.size) (h5 : w.cell? ⟨5, 15, none⟩ = some (.int .u8 4)) :
    Calls Tryd.prog 13 #[.string s] w fun e w' => e = .returned (.tuple #[.int .u64 (hexRes s).1, .int .i64 (hexRes s).2]) ∧ Below w.heap.size w w' := by
  by_cases h3 : 3 ≤ s.size
  · have HW := Lib.hid hw5
    have H5 := Lib.hid h5
    obtain ⟨R, hR⟩ : ∃ R, hexRes s = R := ⟨_, rfl⟩
    rw [hR]
    unfold hexRes at hR
    obtain ⟨T, hT⟩ : ∃ T, s.extract 2 s.size = T := ⟨_, rfl⟩
    have HT := Lib.hid hT
    have t1 : nl T = (nl s).drop 2 := by
      rw [← hT, nl_extract, List.take_of_length_le (by rw [List.length_drop, nl_len]; exact Nat.le_refl _)]
    have t2 : T.size ≤ 281474976710656 := by rw [← hT, ByteArray.size_extract]; omega
    have hH := hexs_any T 64 (.inr rfl) t2 w h1 h2 (by omega)
    have herr := @hex_err s
    have hle := hexPU_le (mxOf 64) ((nl s).drop 2)
    rw [t1] at hH
    obtain ⟨Q, hQ⟩ : ∃ Q, hexPU (mxOf 64) ((nl s).drop 2) = Q := ⟨_, rfl⟩
    rw [hQ] at hH hR herr hle
    obtain ⟨v, k⟩ := Q
    simp only at hH hR herr hle
    have hv : v < 18446744073709551616 := by
      have : mxOf 64 = 18446744073709551615 := rfl
      omega
    have HH := Lib.hid hH
    have HDG := Lib.hid (fun W h6 h7 => dig_any 15 (.inr rfl) v hv W h6 h7)
    obtain ⟨D, hD⟩ : ∃ D, digT v = D := ⟨_, rfl⟩
    have HDD := Lib.hid hD
    rw [hD] at herr hR
    have hi3 : ¬ (s.size : Int) < 3 := by omega
    have hzi : (s.size : Int) ≤ 281474976710656 := by omega
    clear hH hQ hT t1 t2 h1 h2 hD hw5 h5 hz hle
    by_cases he : D = s
    · rw [if_pos ⟨h3, he⟩] at hR
      subst hR
      have hE : (D.toList == s.toList) = true := by rw [he]; simp
      clear he herr
      go_enter Tryd.func13, Tryd.ntmps13
      go_wp2_with (first
        | (go_at_call 41; rw [HT.out]; refine HH.out.mono ?_; rintro e w' ⟨⟨ev, rfl, hev⟩, hb⟩; clear hev; have HB := Lib.hid hb; clear hb)
        | (go_at_call 15; refine (HDG.out _ (Nat.lt_of_lt_of_le HW.out HB.out.size) (by rw [HB.out.cell HW.out]; exact H5.out)).mono ?_; rintro e w'' ⟨rfl, hb2⟩; rw [HDD.out]; have HB2 := Lib.hid (below_next HB.out hb2); clear hb2)
        | (fail))
      go_ret2
      exact ⟨rfl, HB2.out⟩
    · rw [if_neg (fun h => he h.2)] at hR
      subst hR
      have hE : (D.toList == s.toList) = false := by rw [beq_eq_false_iff_ne]; exact fun e => he (str_inj e)
      clear he herr
      go_enter Tryd.func13, Tryd.ntmps13
      go_wp2_with (first
        | (go_at_call 41; rw [HT.out]; refine HH.out.mono ?_; rintro e w' ⟨⟨ev, rfl, hev⟩, hb⟩; clear hev; have HB := Lib.hid hb; clear hb)
        | (go_at_call 15; refine (HDG.out _ (Nat.lt_of_lt_of_le HW.out HB.out.size) (by rw [HB.out.cell HW.out]; exact H5.out)).mono ?_; rintro e w'' ⟨rfl, hb2⟩; rw [HDD.out]; have HB2 := Lib.hid (below_next HB.out hb2); clear hb2)
        | (fail))
      go_ret2
      exact ⟨rfl, HB2.out⟩
  · rw [hexRes_no (fun h => h3 h.1)]
    have hi3 : (s.size : Int) < 3 := by omega
    clear h1 h2 h5 hw5 h3
    go_enter Tryd.func13, Tryd.ntmps13
    go_wp2_with (fail)
    go_ret2
    exact ⟨rfl, Below.refl _ _⟩
end Go.Proofs.YtfipljhlponcoaaDoor
