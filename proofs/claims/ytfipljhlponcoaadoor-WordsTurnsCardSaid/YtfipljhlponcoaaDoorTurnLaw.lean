/- A number's digits are read as it: plain law. -/
import Derived.Test.YtfipljhlponcoaaDoorSmal
import Derived.Test.YtfipljhlponcoaaDoorNumW
set_option linter.unusedVariables false
namespace Go.Proofs.YtfipljhlponcoaaDoor
open Go.RowKit
theorem dec_head (u : Nat) : ∃ c r, Lib.decDigits u = c :: r ∧ 48 ≤ c.toNat ∧ c.toNat ≤ 57 := by
  induction u using Nat.strongRecOn with
  | ind u ih =>
    rw [Lib.decDigits]
    split
    · exact ⟨_, [], rfl, by rw [UInt8.toNat_ofNat_of_lt' (by show _ < 256; omega)]; omega, by rw [UInt8.toNat_ofNat_of_lt' (by show _ < 256; omega)]; omega⟩
    · obtain ⟨c, r, h1, h2⟩ := ih (u / 10) (by omega)
      exact ⟨c, r ++ [UInt8.ofNat (48 + u % 10)], by rw [h1]; rfl, h2⟩
theorem parse_dec (M : Nat) (hM : M ≤ 18446744073709551615) : ∀ (u : Nat), u ≤ M → ∀ r, Lib.parseUintM M 0 (Lib.decDigits u ++ r) = Lib.parseUintM M u r := by
  intro u
  induction u using Nat.strongRecOn with
  | ind u ih =>
    intro hu r
    rw [Lib.decDigits]
    split
    · rename_i h
      have hc : (UInt8.ofNat (48 + u)).toNat = 48 + u := UInt8.toNat_ofNat_of_lt' (by show _ < 256; omega)
      rw [List.cons_append, List.nil_append, Lib.parseUintM, hc, if_pos (by omega), if_neg (by omega), if_neg (by omega)]
      congr 1
      omega
    · rename_i h
      have hc : (UInt8.ofNat (48 + u % 10)).toNat = 48 + u % 10 := UInt8.toNat_ofNat_of_lt' (by show _ < 256; omega)
      rw [List.append_assoc, ih (u / 10) (by omega) (by omega)]
      rw [List.cons_append, List.nil_append, Lib.parseUintM, hc, if_pos (by omega), if_neg (by omega), if_neg (by omega)]
      congr 1
      omega
theorem parseU_dec (u : Nat) (hu : u ≤ 18446744073709551615) : Lib.parseUintB 64 (Lib.decDigits u) = .ok u := by
  obtain ⟨c, r, h, _⟩ := dec_head u
  have := parse_dec (2 ^ 64 - 1) (by decide) u (by simpa using hu) []
  rw [List.append_nil] at this
  unfold Lib.parseUintB
  rw [if_neg (by rw [h]; simp), this]
  rfl
theorem parse_itoa (n : Int) (h1 : -9223372036854775808 ≤ n) (h2 : n ≤ 9223372036854775807) : Lib.parseIntB 64 (Lib.itoa n) = .ok n := by
  unfold Lib.itoa
  by_cases hn : n < 0
  · rw [if_pos hn]
    have hp := parseU_dec n.natAbs (by omega)
    unfold Lib.parseIntB
    simp only [show (45 : UInt8).toNat = 45 from rfl, or_true, if_true, hp]
    rw [if_neg (by simp), if_neg (by simp; omega)]
    simp
    omega
  · rw [if_neg hn]
    have hp := parseU_dec n.toNat (by omega)
    obtain ⟨c, r, h, hc1, hc2⟩ := dec_head n.toNat
    rw [h] at hp ⊢
    unfold Lib.parseIntB
    simp only
    rw [if_neg (by omega), hp]
    simp only
    rw [if_neg (by simp; omega), if_neg (by omega), if_neg (by omega)]
    congr 1
    omega
theorem num_itoa (n : Int) (h1 : -9223372036854775808 ≤ n) (h2 : n ≤ 9223372036854775807) : numRes ⟨(Lib.itoa n).toArray⟩ = (n, 0) := by
  have e : intRes ⟨(Lib.itoa n).toArray⟩ = (n, 0) := by
    unfold intRes
    rw [show ((⟨(Lib.itoa n).toArray⟩ : ByteArray).data.toList) = Lib.itoa n from rfl, parse_itoa n h1 h2]
  unfold numRes
  rw [e, if_pos rfl]
theorem hx_hexV {d : Nat} (h : d < 16) : hexV (hx d).toNat = some d := by
  have : ∀ d : Fin 16, hexV (hx d.1).toNat = some d.1 := by decide +kernel
  exact this ⟨d, h⟩
theorem hexGo_hexS : ∀ (u : Nat), u ≤ 18446744073709551615 → ∀ r, hexGo 18446744073709551615 0 ((hexS u).map (·.toNat) ++ r) = hexGo 18446744073709551615 u r := by
  intro u
  induction u using Nat.strongRecOn with
  | ind u ih =>
    intro hu r
    by_cases h : u < 16
    · rw [hexS_lo h, List.map_cons, List.map_nil, List.cons_append, List.nil_append, hexGo, hx_hexV h]
      simp only
      rw [if_neg (by omega)]
      congr 1
      omega
    · rw [hexS_hi h, List.map_append, List.append_assoc, ih (u / 16) (by omega) (by omega), List.map_cons, List.map_nil, List.cons_append, List.nil_append, hexGo, hx_hexV (by omega)]
      simp only
      rw [if_neg (by omega)]
      congr 1
      omega
theorem hexS_ne (u : Nat) : hexS u ≠ [] := by
  by_cases h : u < 16
  · rw [hexS_lo h]; simp
  · rw [hexS_hi h]; simp
theorem hex_dig (u : Nat) (hu : u < 18446744073709551616) : hexRes (digT u) = (u, 0) := by
  have hd : (nl (digT u)).drop 2 = (hexS u).map (·.toNat) := by rw [nl_dig]; rfl
  have hg := hexGo_hexS u (by omega) []
  rw [List.append_nil] at hg
  have hp : hexPU (mxOf 64) ((hexS u).map (·.toNat)) = (u, 0) := by
    unfold hexPU
    rw [if_neg (by simpa using hexS_ne u), show mxOf 64 = 18446744073709551615 from by decide, hg]
    rfl
  have hs : 3 ≤ (digT u).size := by
    have : 0 < (hexS u).length := List.length_pos_iff.2 (hexS_ne u)
    show 3 ≤ ((48 :: 120 :: hexS u).toArray).size
    simp
    omega
  unfold hexRes
  rw [hd, hp, if_pos ⟨hs, rfl⟩]
theorem wrap8_bd (n : Int) : -128 ≤ IntKind.i8.wrap n ∧ IntKind.i8.wrap n ≤ 127 ∧ ∃ q, n = IntKind.i8.wrap n + 256 * q := by
  simp [IntKind.wrap, IntKind.bits, IntKind.signed]
  refine ⟨by omega, by omega, (n + 128) / 256, by omega⟩
theorem wrap16_bd (n : Int) : -32768 ≤ IntKind.i16.wrap n ∧ IntKind.i16.wrap n ≤ 32767 ∧ ∃ q, n = IntKind.i16.wrap n + 65536 * q := by
  simp [IntKind.wrap, IntKind.bits, IntKind.signed]
  refine ⟨by omega, by omega, (n + 32768) / 65536, by omega⟩
theorem wrap64_mod (x q : Int) (h : x = 256 * q) : (wrap64 x).tmod 256 = 0 := by
  have h1 : ∃ p, wrap64 x = 256 * p := by
    unfold wrap64
    exact ⟨(q + 36028797018963968) % 72057594037927936 - 36028797018963968, by omega⟩
  obtain ⟨p, hp⟩ := h1
  rw [hp]
  exact Int.mul_tmod_right 256 p
theorem wrap64_mod16 (x q : Int) (h : x = 65536 * q) : (wrap64 x).tmod 65536 = 0 := by
  have h1 : ∃ p, wrap64 x = 65536 * p := by
    unfold wrap64
    exact ⟨(q + 140737488355328) % 281474976710656 - 140737488355328, by omega⟩
  obtain ⟨p, hp⟩ := h1
  rw [hp]
  exact Int.mul_tmod_right 65536 p
theorem mean_in {zs : List Int} {lo hi : Int} (hne : zs ≠ []) (h : ∀ z ∈ zs, lo ≤ z ∧ z ≤ hi) : lo ≤ meanI zs ∧ meanI zs ≤ hi := by
  have hs : ∀ zs : List Int, (∀ z ∈ zs, lo ≤ z ∧ z ≤ hi) → lo * zs.length ≤ sumI zs ∧ sumI zs ≤ hi * zs.length := by
    intro zs
    unfold sumI
    induction zs with
    | nil => simp
    | cons z t ih =>
      intro h
      have h1 := h z (by simp)
      have h2 := ih fun y hy => h y (by simp [hy])
      simp only [List.sum_cons, List.length_cons]
      push_cast
      rw [Int.mul_add, Int.mul_add]
      omega
  have hp : 0 < (zs.length : Int) := by have := List.length_pos_iff.2 hne; omega
  obtain ⟨a, b⟩ := hs zs h
  unfold meanI
  rw [if_neg hne]
  exact ⟨Int.le_ediv_of_mul_le hp a, Int.ediv_le_of_le_mul hp b⟩
end Go.Proofs.YtfipljhlponcoaaDoor
