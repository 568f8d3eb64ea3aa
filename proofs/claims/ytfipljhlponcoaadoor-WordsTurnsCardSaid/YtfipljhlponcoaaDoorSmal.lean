/- The small functions of words: contracts. -/
import Derived.Test.YtfipljhlponcoaaDoorBase
import Derived.Test.YtfipljhlponcoaaDoorProg
import Derived.LoopTactic
set_option linter.unusedVariables false
namespace Go.Proofs.YtfipljhlponcoaaDoor
open Go.RowKit
def sat8 (n : Int) : Int := max (-128) (min 127 n)
def sat16 (n : Int) : Int := max (-32768) (min 32767 n)
theorem psat8_any (n : Int) (w : World) (h1 : -9223372036854775808 ≤ n) (h2 : n ≤ 9223372036854775807) : Calls Tryd.prog 35 #[.int .i64 n] w fun e w' => e = .returned (.int .i8 (sat8 n)) ∧ w = w' := by
  go_enter Tryd.func35, Tryd.ntmps35
  go_wp2
  all_goals (go_ret; exact ⟨ret_int (by unfold sat8; grind), rfl⟩)
theorem psat16_any (n : Int) (w : World) (h1 : -9223372036854775808 ≤ n) (h2 : n ≤ 9223372036854775807) : Calls Tryd.prog 37 #[.int .i64 n] w fun e w' => e = .returned (.int .i16 (sat16 n)) ∧ w = w' := by
  go_enter Tryd.func37, Tryd.ntmps37
  go_wp2
  all_goals (go_ret; exact ⟨ret_int (by unfold sat16; grind), rfl⟩)
theorem pwrap8_any (n : Int) (w : World) : Calls Tryd.prog 34 #[.int .i64 n] w fun e w' => e = .returned (.int .i8 (IntKind.i8.wrap n)) ∧ w = w' := by
  go_enter Tryd.func34, Tryd.ntmps34
  go_wp2
  go_ret
  exact ⟨rfl, rfl⟩
theorem pwrap16_any (n : Int) (w : World) : Calls Tryd.prog 36 #[.int .i64 n] w fun e w' => e = .returned (.int .i16 (IntKind.i16.wrap n)) ∧ w = w' := by
  go_enter Tryd.func36, Tryd.ntmps36
  go_wp2
  go_ret
  exact ⟨rfl, rfl⟩
theorem sat16_bd (n : Int) : -32768 ≤ sat16 n ∧ sat16 n ≤ 32767 ∧ (sat16 n = n ↔ -32768 ≤ n ∧ n ≤ 32767) := by unfold sat16; grind
def fits16 (n : Int) : Bool := decide (-32768 ≤ n ∧ n ≤ 32767)
theorem pstep_any (a b : Int) (w : World) (h1 : -32768 ≤ a) (h2 : a ≤ 32767) (h3 : -32768 ≤ b) (h4 : b ≤ 32767) :
    Calls Tryd.prog 32 #[.int .i16 a, .int .i16 b] w fun e w' => e = .returned (.tuple #[.int .i16 (sat16 (a + b)), .bool (fits16 (a + b))]) ∧ w = w' := by
  obtain ⟨s1, s2, s3⟩ := sat16_bd (a + b)
  have hf : (sat16 (a + b) == a + b) = fits16 (a + b) := by unfold fits16; rw [Bool.eq_iff_iff]; simp; exact s3
  have H := Lib.hid hf
  clear hf s3
  go_enter Tryd.func32, Tryd.ntmps32
  go_wp2_with (go_at_call 37; refine (psat16_any _ _ (by omega) (by omega)).mono ?_; rintro e w' ⟨rfl, rfl⟩)
  go_ret2
  exact ⟨by rw [← H.out]; rfl, rfl⟩
def i8s (zs : List Int) : List Value := zs.map (.int .i8)
def In8 (zs : List Int) : Prop := ∀ z ∈ zs, -128 ≤ z ∧ z ≤ 127
theorem Seg.i8 {w : World} {B : Nat} {a : Option Addr} {zs : List Int} (h : Seg w B a (i8s zs)) {k : Nat} (hk : k < zs.length) :
   ∃ b off, a = some ⟨b, off, none⟩ ∧ b < B ∧ w.cell? ⟨b, off + k, none⟩ = some (.int .i8 (zs[k]?.getD 0)) := by
  obtain ⟨b, off, rfl, hb, hc⟩ := h (by unfold i8s; intro e; simp at e; subst e; simp at hk)
  exact ⟨b, off, rfl, hb, hc k _ (by unfold i8s; simp [hk])⟩
def sumI (zs : List Int) : Int := zs.sum
theorem sumI_snoc (zs : List Int) (k : Nat) (hk : k < zs.length) : sumI (zs.take (k + 1)) = sumI (zs.take k) + zs[k]?.getD 0 := by
  unfold sumI
  rw [List.take_succ_eq_append_getElem hk, List.sum_append_int]; simp [hk]
theorem sumI_bd (zs : List Int) (h : In8 zs) : -128 * zs.length ≤ sumI zs ∧ sumI zs ≤ 127 * zs.length := by
  unfold sumI In8 at *
  induction zs with
  | nil => simp
  | cons z zs ih =>
    have h1 := h z (by simp)
    have h2 := ih (fun y hy => h y (by simp [hy]))
    simp only [List.sum_cons, List.length_cons]
    omega
theorem i8s_one (zs : List Int) : ∀ u ∈ i8s zs, u.oneCell' = true := by
  intro u hu
  unfold i8s at hu
  obtain ⟨z, _, rfl⟩ := List.mem_map.1 hu
  rfl
theorem i8s_get (zs : List Int) (k : Nat) (hk : k < zs.length) : (i8s zs)[k]? = some (.int .i8 (zs[k]?.getD 0)) := by
  unfold i8s; simp [hk]
theorem i8s_length (zs : List Int) : (i8s zs).length = zs.length := by simp [i8s]
theorem In8.take {zs : List Int} (h : In8 zs) (k : Nat) : In8 (zs.take k) := fun z hz => h z (List.mem_of_mem_take hz)
theorem In8.get {zs : List Int} (h : In8 zs) (k : Nat) : -128 ≤ zs[k]?.getD 0 ∧ zs[k]?.getD 0 ≤ 127 := by
  by_cases hk : k < zs.length
  · simp [hk]; exact h _ (List.getElem_mem hk)
  · simp [hk]
def meanI (zs : List Int) : Int := if zs = [] then 0 else sumI zs / zs.length
def meanE (zs : List Int) : Int := if zs = [] then 1 else 0
theorem mean_facts (s : Int) (n : Nat) (hn : 0 < n) (h1 : -128 * (n : Int) ≤ s) (h2 : s ≤ 127 * (n : Int)) :
    -128 ≤ s.tdiv n ∧ s.tdiv n ≤ 127 ∧ ((s.tmod n < 0 → s / n = s.tdiv n - 1 ∧ -128 < s.tdiv n) ∧ (0 ≤ s.tmod n → s / n = s.tdiv n)) := by
  have e1 : s.tdiv n = if 0 ≤ s ∨ (n : Int) ∣ s then s / n else s / n + 1 := by
    rw [Int.tdiv_eq_ediv]; simp [Int.sign_eq_one_of_pos (show (0 : Int) < n by omega)]; split <;> simp
  have e2 : s.tmod n = if 0 ≤ s ∨ (n : Int) ∣ s then s % n else s % n - n := by
    rw [Int.tmod_eq_emod]; simp; split <;> simp
  have e3 := Int.mul_ediv_add_emod s n
  have e4 := Int.emod_nonneg s (show (n : Int) ≠ 0 by omega)
  have e5 := Int.emod_lt_of_pos s (show (0 : Int) < n by omega)
  have e6 : -128 ≤ s / n := Int.le_ediv_of_mul_le (by omega) (by omega)
  have e7 : s / n < 128 := Int.ediv_lt_of_lt_mul (by omega) (by omega)
  have e8 : (n : Int) ∣ s ↔ s % n = 0 := Int.dvd_iff_emod_eq_zero
  rw [e1, e2]
  split
  · omega
  · rename_i hh
    have e9 : s / n < 0 := Int.ediv_neg_of_neg_of_pos (by omega) (by omega)
    omega
theorem pmean_any (a : Option Addr) (cap : Nat) (zs : List Int) (n : Nat) (hn : n = zs.length) (B : Nat) (w : World) (hs : Seg w B a (i8s zs)) (h8 : In8 zs) (hl : n ≤ 140737488351232) :
    Calls Tryd.prog 33 #[.slice a n cap] w fun e w' => e = .returned (.tuple #[.int .i8 (meanI zs), .int .i64 (meanE zs)]) ∧ w = w' := by
  have hn0 : n = 0 ↔ zs = [] := by rw [hn]; simp
  by_cases h0 : n = 0
  · obtain rfl := hn0.1 h0
    subst h0
    clear hn hn0
    go_enter Tryd.func33, Tryd.ntmps33
    go_wp2
    go_ret2
    exact ⟨rfl, rfl⟩
  · have hz : ((n : Int) == 0) = false := by simp; omega
    have Hn := Lib.hid hn
    have Hn0 := Lib.hid hn0
    clear hn hn0
    have hb := sumI_bd zs h8
    rw [← Hn.out] at hb
    obtain ⟨hb1, hb2⟩ := hb
    go_enter Tryd.func33, Tryd.ntmps33
    go_wp2
    go_loop [4, 13] (fun s i => ∃ k : Nat, k ≤ n ∧ i = .int .i64 k ∧ s = .int .i64 (sumI (zs.take k))) (fun _ i => n - (intOf i).toNat)
    case atStart => exact ⟨0, by omega, rfl, rfl⟩
    case round =>
      obtain ⟨k, hk, rfl, rfl⟩ := hrel
      by_cases hlt : k < n
      · obtain ⟨b, off, rfl, hB, hc⟩ := hs.i8 (k := k) (by rw [← Hn.out]; exact hlt)
        obtain ⟨c1, c2⟩ := h8.get k
        obtain ⟨d1, d2⟩ := sumI_bd _ (h8.take k)
        have hlen : (zs.take k).length ≤ k := List.length_take_le _ _
        go_wp2
        go_round
        case rel => exact ⟨k + 1, by omega, by go_num, by rw [sumI_snoc zs k (by rw [← Hn.out]; exact hlt)]⟩
        case measure => simp [intOf]; omega
      · obtain rfl : k = n := by omega
        rw [List.take_of_length_le (by rw [← Hn.out]; omega)]
        obtain ⟨q1, q2, Q⟩ := mean_facts (sumI zs) k (by omega) hb1 hb2
        have HQ := Lib.hid Q; clear Q

        go_wp2
        · go_ret2
          obtain ⟨Q1, _⟩ := HQ.out
          have hz : zs ≠ [] := fun e => h0 (Hn0.out.2 e)
          obtain ⟨Q2, Q3⟩ := Q1 (by assumption)
          refine ⟨ret_int2 ?_ ?_, rfl⟩
          · rw [IntWalk.i8_in _ (by omega)]; unfold meanI; rw [if_neg hz, ← Hn.out]; omega
          · unfold meanE; rw [if_neg hz]
        · go_ret2
          obtain ⟨_, Q1⟩ := HQ.out
          have hz : zs ≠ [] := fun e => h0 (Hn0.out.2 e)
          have Q2 := Q1 (by assumption)
          refine ⟨ret_int2 ?_ ?_, rfl⟩
          · unfold meanI; rw [if_neg hz, ← Hn.out]; omega
          · unfold meanE; rw [if_neg hz]
end Go.Proofs.YtfipljhlponcoaaDoor
