/- Contracts of the small functions of words and of their references: Sat8, Sat16, Wrap8, Wrap16, Step, Mean. -/
import Derived.Test.YtfipljhlponcoaaRows
import Derived.Test.YtfipljhlponcoaaBase
set_option linter.unusedVariables false
namespace Go.Proofs.Ytfipljhlponcoaa
open Go.RowKit

def sat8 (n : Int) : Int := max (-128) (min 127 n)
def sat16 (n : Int) : Int := max (-32768) (min 32767 n)


theorem psat8_any (n : Int) (w : World) (h1 : -9223372036854775808 ≤ n) (h2 : n ≤ 9223372036854775807) : Calls Try.prog 12 #[.int .i64 n] w fun e w' => e = .returned (.int .i8 (sat8 n)) ∧ w = w' := by
  go_enter Try.func12, Try.ntmps12
  go_wp2
  all_goals (go_ret; exact ⟨ret_int (by unfold sat8; grind), rfl⟩)
theorem rsat8_any (n : Int) (w : World) (h1 : -9223372036854775808 ≤ n) (h2 : n ≤ 9223372036854775807) : Calls Try.prog 13 #[.int .i64 n] w fun e w' => e = .returned (.int .i8 (sat8 n)) ∧ w = w' := by
  go_enter Try.func13, Try.ntmps13
  go_wp2
  all_goals (go_ret; exact ⟨ret_int (by unfold sat8; grind), rfl⟩)
theorem psat16_any (n : Int) (w : World) (h1 : -9223372036854775808 ≤ n) (h2 : n ≤ 9223372036854775807) : Calls Try.prog 16 #[.int .i64 n] w fun e w' => e = .returned (.int .i16 (sat16 n)) ∧ w = w' := by
  go_enter Try.func16, Try.ntmps16
  go_wp2
  all_goals (go_ret; exact ⟨ret_int (by unfold sat16; grind), rfl⟩)
theorem rsat16_any (n : Int) (w : World) (h1 : -9223372036854775808 ≤ n) (h2 : n ≤ 9223372036854775807) : Calls Try.prog 17 #[.int .i64 n] w fun e w' => e = .returned (.int .i16 (sat16 n)) ∧ w = w' := by
  go_enter Try.func17, Try.ntmps17
  go_wp2
  all_goals (go_ret; exact ⟨ret_int (by unfold sat16; grind), rfl⟩)

theorem pwrap8_any (n : Int) (w : World) : Calls Try.prog 10 #[.int .i64 n] w fun e w' => e = .returned (.int .i8 (IntKind.i8.wrap n)) ∧ w = w' := by
  go_enter Try.func10, Try.ntmps10
  go_wp2
  go_ret
  exact ⟨rfl, rfl⟩
theorem pwrap16_any (n : Int) (w : World) : Calls Try.prog 14 #[.int .i64 n] w fun e w' => e = .returned (.int .i16 (IntKind.i16.wrap n)) ∧ w = w' := by
  go_enter Try.func14, Try.ntmps14
  go_wp2
  go_ret
  exact ⟨rfl, rfl⟩

def wrapd (n half : Int) : Int := (n + half) % (2 * half) - half
theorem tm (n m : Int) (hm : 0 < m) : -m < n.tmod m ∧ n.tmod m < m ∧ ∃ q, n = m * q + n.tmod m :=
  ⟨by have := Int.lt_tmod_of_pos n hm; omega, Int.tmod_lt_of_pos n hm, n.tdiv m, by have := Int.mul_tdiv_add_tmod n m; omega⟩
theorem wrapped8 (n : Int) (w : World) (h1 : -9223372036854775808 ≤ n) (h2 : n ≤ 9223372036854775807) : Calls Try.prog 28 #[.int .i64 n, .int .i64 128] w fun e w' => e = .returned (.int .i64 (wrapd n 128)) ∧ w = w' := by
  obtain ⟨b1, b2, b3⟩ := tm n 256 (by omega)
  have H := Lib.hid b3; clear b3
  go_enter Try.func28, Try.ntmps28
  go_wp2
  all_goals go_ret
  all_goals exact ⟨ret_int (by unfold wrapd; obtain ⟨q, hq⟩ := H.out; omega), rfl⟩
theorem wrapped16 (n : Int) (w : World) (h1 : -9223372036854775808 ≤ n) (h2 : n ≤ 9223372036854775807) : Calls Try.prog 28 #[.int .i64 n, .int .i64 32768] w fun e w' => e = .returned (.int .i64 (wrapd n 32768)) ∧ w = w' := by
  obtain ⟨b1, b2, b3⟩ := tm n 65536 (by omega)
  have H := Lib.hid b3; clear b3
  go_enter Try.func28, Try.ntmps28
  go_wp2
  all_goals go_ret
  all_goals exact ⟨ret_int (by unfold wrapd; obtain ⟨q, hq⟩ := H.out; omega), rfl⟩
theorem wrapd8 (n : Int) : wrapd n 128 = IntKind.i8.wrap n := by
  unfold wrapd; simp [IntKind.wrap, IntKind.bits, IntKind.signed]; omega
theorem rwrap8_any (n : Int) (w : World) (h1 : -9223372036854775808 ≤ n) (h2 : n ≤ 9223372036854775807) : Calls Try.prog 11 #[.int .i64 n] w fun e w' => e = .returned (.int .i8 (IntKind.i8.wrap n)) ∧ w = w' := by
  have hb : -128 ≤ wrapd n 128 ∧ wrapd n 128 ≤ 127 := by unfold wrapd; omega
  obtain ⟨hb1, hb2⟩ := hb
  go_enter Try.func11, Try.ntmps11
  go_wp2_with (go_at_call 28; refine (wrapped8 _ _ h1 h2).mono ?_; rintro e w' ⟨rfl, rfl⟩)
  go_ret
  exact ⟨ret_int (wrapd8 n), rfl⟩
theorem wrapd16 (n : Int) : wrapd n 32768 = IntKind.i16.wrap n := by
  unfold wrapd; simp [IntKind.wrap, IntKind.bits, IntKind.signed]; omega
theorem rwrap16_any (n : Int) (w : World) (h1 : -9223372036854775808 ≤ n) (h2 : n ≤ 9223372036854775807) : Calls Try.prog 15 #[.int .i64 n] w fun e w' => e = .returned (.int .i16 (IntKind.i16.wrap n)) ∧ w = w' := by
  have hb : -32768 ≤ wrapd n 32768 ∧ wrapd n 32768 ≤ 32767 := by unfold wrapd; omega
  obtain ⟨hb1, hb2⟩ := hb
  go_enter Try.func15, Try.ntmps15
  go_wp2_with (go_at_call 28; refine (wrapped16 _ _ h1 h2).mono ?_; rintro e w' ⟨rfl, rfl⟩)
  go_ret
  exact ⟨ret_int (wrapd16 n), rfl⟩

theorem sat16_bd (n : Int) : -32768 ≤ sat16 n ∧ sat16 n ≤ 32767 ∧ (sat16 n = n ↔ -32768 ≤ n ∧ n ≤ 32767) := by unfold sat16; grind
def fits16 (n : Int) : Bool := decide (-32768 ≤ n ∧ n ≤ 32767)
theorem pstep_any (a b : Int) (w : World) (h1 : -32768 ≤ a) (h2 : a ≤ 32767) (h3 : -32768 ≤ b) (h4 : b ≤ 32767) :
    Calls Try.prog 8 #[.int .i16 a, .int .i16 b] w fun e w' => e = .returned (.tuple #[.int .i16 (sat16 (a + b)), .bool (fits16 (a + b))]) ∧ w = w' := by
  obtain ⟨s1, s2, s3⟩ := sat16_bd (a + b)
  have hf : (sat16 (a + b) == a + b) = fits16 (a + b) := by unfold fits16; rw [Bool.eq_iff_iff]; simp; exact s3
  have H := Lib.hid hf
  clear hf s3
  go_enter Try.func8, Try.ntmps8
  go_wp2_with (go_at_call 16; refine (psat16_any _ _ (by omega) (by omega)).mono ?_; rintro e w' ⟨rfl, rfl⟩)
  go_ret2
  exact ⟨by rw [← H.out]; rfl, rfl⟩
theorem ret_ib {k : IntKind} {a b : Int} {p q : Bool} (h : a = b) (h' : p = q) : Ending.returned (.tuple #[.int k a, .bool p]) = .returned (.tuple #[.int k b, .bool q]) := by rw [h, h']
theorem rstep_any (a b : Int) (w : World) (h1 : -32768 ≤ a) (h2 : a ≤ 32767) (h3 : -32768 ≤ b) (h4 : b ≤ 32767) :
    Calls Try.prog 9 #[.int .i16 a, .int .i16 b] w fun e w' => e = .returned (.tuple #[.int .i16 (sat16 (a + b)), .bool (fits16 (a + b))]) ∧ w = w' := by
  go_enter Try.func9, Try.ntmps9
  go_wp2_with (go_at_call 17; refine (rsat16_any _ _ (by omega) (by omega)).mono ?_; rintro e w' ⟨rfl, rfl⟩)
  all_goals go_ret2
  all_goals exact ⟨ret_ib rfl (by unfold fits16; simp; omega), rfl⟩

def i8s (zs : List Int) : List Value := zs.map (.int .i8)
def In8 (zs : List Int) : Prop := ∀ z ∈ zs, -128 ≤ z ∧ z ≤ 127
theorem Seg.i8 {w : World} {B : Nat} {a : Option Addr} {zs : List Int} (h : Seg w B a (i8s zs)) {k : Nat} (hk : k < zs.length) :
   ∃ b off, a = some ⟨b, off, none⟩ ∧ b < B ∧ w.cell? ⟨b, off + k, none⟩ = some (.int .i8 (zs[k]?.getD 0)) := by
  obtain ⟨b, off, rfl, hb, hc⟩ := h (by unfold i8s; intro e; simp at e; subst e; simp at hk)
  exact ⟨b, off, rfl, hb, hc k _ (by unfold i8s; simp [hk])⟩
def sumI (zs : List Int) : Int := zs.sum
theorem sumI_snoc (zs : List Int) (k : Nat) (hk : k < zs.length) : sumI (zs.take (k + 1)) = sumI (zs.take k) + zs[k]?.getD 0 := by
  unfold sumI
  rw [List.take_succ_eq_append_getElem hk, List.sum_append_int]; simp [hk]
theorem sumI_bd (zs : List Int) (h : In8 zs) : -128 * zs.length ≤ sumI zs ∧ sumI zs ≤ 127 * zs.length := by
  unfold sumI In8 at *
  induction zs with
  | nil => simp
  | cons z zs ih =>
    have h1 := h z (by simp)
    have h2 := ih (fun y hy => h y (by simp [hy]))
    simp only [List.sum_cons, List.length_cons]
    omega
theorem i8s_one (zs : List Int) : ∀ u ∈ i8s zs, u.oneCell' = true := by
  intro u hu
  unfold i8s at hu
  obtain ⟨z, _, rfl⟩ := List.mem_map.1 hu
  rfl
theorem i8s_get (zs : List Int) (k : Nat) (hk : k < zs.length) : (i8s zs)[k]? = some (.int .i8 (zs[k]?.getD 0)) := by
  unfold i8s; simp [hk]
theorem i8s_length (zs : List Int) : (i8s zs).length = zs.length := by simp [i8s]
theorem In8.take {zs : List Int} (h : In8 zs) (k : Nat) : In8 (zs.take k) := fun z hz => h z (List.mem_of_mem_take hz)
theorem In8.get {zs : List Int} (h : In8 zs) (k : Nat) : -128 ≤ zs[k]?.getD 0 ∧ zs[k]?.getD 0 ≤ 127 := by
  by_cases hk : k < zs.length
  · simp [hk]; exact h _ (List.getElem_mem hk)
  · simp [hk]
def meanI (zs : List Int) : Int := if zs = [] then 0 else sumI zs / zs.length
def meanE (zs : List Int) : Int := if zs = [] then 1 else 0
theorem mean_facts (s : Int) (n : Nat) (hn : 0 < n) (h1 : -128 * (n : Int) ≤ s) (h2 : s ≤ 127 * (n : Int)) :
    -128 ≤ s.tdiv n ∧ s.tdiv n ≤ 127 ∧ ((s.tmod n < 0 → s / n = s.tdiv n - 1 ∧ -128 < s.tdiv n) ∧ (0 ≤ s.tmod n → s / n = s.tdiv n)) := by
  have e1 : s.tdiv n = if 0 ≤ s ∨ (n : Int) ∣ s then s / n else s / n + 1 := by
    rw [Int.tdiv_eq_ediv]; simp [Int.sign_eq_one_of_pos (show (0 : Int) < n by omega)]; split <;> simp
  have e2 : s.tmod n = if 0 ≤ s ∨ (n : Int) ∣ s then s % n else s % n - n := by
    rw [Int.tmod_eq_emod]; simp; split <;> simp
  have e3 := Int.mul_ediv_add_emod s n
  have e4 := Int.emod_nonneg s (show (n : Int) ≠ 0 by omega)
  have e5 := Int.emod_lt_of_pos s (show (0 : Int) < n by omega)
  have e6 : -128 ≤ s / n := Int.le_ediv_of_mul_le (by omega) (by omega)
  have e7 : s / n < 128 := Int.ediv_lt_of_lt_mul (by omega) (by omega)
  have e8 : (n : Int) ∣ s ↔ s % n = 0 := Int.dvd_iff_emod_eq_zero
  rw [e1, e2]
  split
  · omega
  · rename_i hh
    have e9 : s / n < 0 := Int.ediv_neg_of_neg_of_pos (by omega) (by omega)
    omega
theorem pmean_any (a : Option Addr) (cap : Nat) (zs : List Int) (n : Nat) (hn : n = zs.length) (B : Nat) (w : World) (hs : Seg w B a (i8s zs)) (h8 : In8 zs) (hl : n ≤ 140737488351232) :
    Calls Try.prog 6 #[.slice a n cap] w fun e w' => e = .returned (.tuple #[.int .i8 (meanI zs), .int .i64 (meanE zs)]) ∧ w = w' := by
  have hn0 : n = 0 ↔ zs = [] := by rw [hn]; simp
  by_cases h0 : n = 0
  · obtain rfl := hn0.1 h0
    subst h0
    clear hn hn0
    go_enter Try.func6, Try.ntmps6
    go_wp2
    go_ret2
    exact ⟨rfl, rfl⟩
  · have hz : ((n : Int) == 0) = false := by simp; omega
    have Hn := Lib.hid hn
    have Hn0 := Lib.hid hn0
    clear hn hn0
    have hb := sumI_bd zs h8
    rw [← Hn.out] at hb
    obtain ⟨hb1, hb2⟩ := hb
    go_enter Try.func6, Try.ntmps6
    go_wp2
    go_loop [4, 13] (fun s i => ∃ k : Nat, k ≤ n ∧ i = .int .i64 k ∧ s = .int .i64 (sumI (zs.take k))) (fun _ i => n - (intOf i).toNat)
    case atStart => exact ⟨0, by omega, rfl, rfl⟩
    case round =>
      obtain ⟨k, hk, rfl, rfl⟩ := hrel
      by_cases hlt : k < n
      · obtain ⟨b, off, rfl, hB, hc⟩ := hs.i8 (k := k) (by rw [← Hn.out]; exact hlt)
        obtain ⟨c1, c2⟩ := h8.get k
        obtain ⟨d1, d2⟩ := sumI_bd _ (h8.take k)
        have hlen : (zs.take k).length ≤ k := List.length_take_le _ _
        go_wp2
        go_round
        case rel => exact ⟨k + 1, by omega, by go_num, by rw [sumI_snoc zs k (by rw [← Hn.out]; exact hlt)]⟩
        case measure => simp [intOf]; omega
      · obtain rfl : k = n := by omega
        rw [List.take_of_length_le (by rw [← Hn.out]; omega)]
        obtain ⟨q1, q2, Q⟩ := mean_facts (sumI zs) k (by omega) hb1 hb2
        have HQ := Lib.hid Q; clear Q

        go_wp2
        · go_ret2
          obtain ⟨Q1, _⟩ := HQ.out
          have hz : zs ≠ [] := fun e => h0 (Hn0.out.2 e)
          obtain ⟨Q2, Q3⟩ := Q1 (by assumption)
          refine ⟨ret_int2 ?_ ?_, rfl⟩
          · rw [IntWalk.i8_in _ (by omega)]; unfold meanI; rw [if_neg hz, ← Hn.out]; omega
          · unfold meanE; rw [if_neg hz]
        · go_ret2
          obtain ⟨_, Q1⟩ := HQ.out
          have hz : zs ≠ [] := fun e => h0 (Hn0.out.2 e)
          have Q2 := Q1 (by assumption)
          refine ⟨ret_int2 ?_ ?_, rfl⟩
          · unfold meanI; rw [if_neg hz, ← Hn.out]; omega
          · unfold meanE; rw [if_neg hz]
theorem rmean_any (a : Option Addr) (cap : Nat) (zs : List Int) (n : Nat) (hn : n = zs.length) (B : Nat) (w : World) (hs : Seg w B a (i8s zs)) (h8 : In8 zs) (hl : n ≤ 140737488351232) :
    Calls Try.prog 7 #[.slice a n cap] w fun e w' => e = .returned (.tuple #[.int .i8 (meanI zs), .int .i64 (meanE zs)]) ∧ w = w' := by
  have hn0 : n = 0 ↔ zs = [] := by rw [hn]; simp
  by_cases h0 : n = 0
  · obtain rfl := hn0.1 h0
    subst h0
    clear hn hn0
    go_enter Try.func7, Try.ntmps7
    go_wp2
    go_ret2
    exact ⟨rfl, rfl⟩
  · have hz : ((n : Int) == 0) = false := by simp; omega
    have Hn := Lib.hid hn
    have Hn0 := Lib.hid hn0
    clear hn hn0
    have hb := sumI_bd zs h8
    rw [← Hn.out] at hb
    obtain ⟨hb1, hb2⟩ := hb
    go_enter Try.func7, Try.ntmps7
    go_wp2
    go_loop [4, 5] (fun s i => ∃ k : Nat, k ≤ n ∧ i = .int .i64 k ∧ s = .int .i64 (sumI (zs.take k))) (fun _ i => n - (intOf i).toNat)
    case atStart => exact ⟨0, by omega, rfl, rfl⟩
    case round =>
      obtain ⟨k, hk, rfl, rfl⟩ := hrel
      by_cases hlt : k < n
      · obtain ⟨b, off, rfl, hB, hc⟩ := hs.i8 (k := k) (by rw [← Hn.out]; exact hlt)
        obtain ⟨c1, c2⟩ := h8.get k
        obtain ⟨d1, d2⟩ := sumI_bd _ (h8.take k)
        have hlen : (zs.take k).length ≤ k := List.length_take_le _ _
        go_wp2
        go_round
        case rel => exact ⟨k + 1, by omega, by go_num, by rw [sumI_snoc zs k (by rw [← Hn.out]; exact hlt)]⟩
        case measure => simp [intOf]; omega
      · obtain rfl : k = n := by omega
        rw [List.take_of_length_le (by rw [← Hn.out]; omega)]
        go_wp2
        go_loop [6] (fun u => ∃ m : Int, -128 ≤ m ∧ m ≤ 127 ∧ u = .int .i64 m ∧ m * k ≤ sumI zs) (fun u => (127 - intOf u).toNat)
        case atStart => exact ⟨-128, by omega, by omega, rfl, by omega⟩
        case round =>
          obtain ⟨m, hm1, hm2, rfl, hm⟩ := hrel
          have e1 : (m + 1) * (k : Int) = m * k + k := by rw [Int.add_mul]; omega
          have e2 : m * (k : Int) ≤ 127 * k := Int.mul_le_mul_of_nonneg_right hm2 (by omega)
          have e3 : -128 * (k : Int) ≤ m * k := Int.mul_le_mul_of_nonneg_right hm1 (by omega)
          have e4 : -9223372036854775808 ≤ (m + 1) * (k : Int) := by rw [e1]; omega
          have e5 : (m + 1) * (k : Int) ≤ 9223372036854775807 := by rw [e1]; omega
          have E1 := Lib.hid e1
          clear e1
          by_cases ht : (m + 1) * (k : Int) ≤ sumI zs
          · have e6 : m < 127 := by
              by_cases h : m < 127
              · exact h
              · have : m = 127 := by omega
                subst this
                omega
            go_wp2
            go_round
            case rel => exact ⟨m + 1, by omega, by omega, rfl, ht⟩
            case measure => simp [intOf]; omega
          · go_wp2
            go_ret2
            have hz : zs ≠ [] := fun e => h0 (Hn0.out.2 e)
            refine ⟨ret_int2 ?_ ?_, rfl⟩
            · unfold meanI; rw [if_neg hz, ← Hn.out]
              have f1 : m ≤ sumI zs / k := Int.le_ediv_of_mul_le (by omega) hm
              have f2 : sumI zs / k < m + 1 := Int.ediv_lt_of_lt_mul (by omega) (by omega)
              omega
            · unfold meanE; rw [if_neg hz]
/-- What the statement makes of a number while it goes through its own copy. -/
def half (x : Int) : Int := IntKind.i8.wrap (IntKind.i8.wrap (x.tdiv 2) - 1)
def turned (zs : List Int) (k : Nat) : List Int := (zs.take k).map half ++ zs.drop k
theorem turned_zero (zs : List Int) : turned zs 0 = zs := by simp [turned]
theorem turned_all (zs : List Int) (k : Nat) (h : zs.length ≤ k) : turned zs k = zs.map half := by simp [turned, List.take_of_length_le h, List.drop_of_length_le h]
theorem turned_length (zs : List Int) (k : Nat) : (turned zs k).length = zs.length := by simp [turned]; omega
theorem turned_get (zs : List Int) (k : Nat) (h : k < zs.length) : (turned zs k)[k]?.getD 0 = zs[k]?.getD 0 := by
  unfold turned
  rw [List.getElem?_append_right (by simp; omega)]
  simp [List.length_take, Nat.min_eq_left (Nat.le_of_lt h)]
theorem turned_succ (zs : List Int) (k : Nat) (h : k < zs.length) : (i8s (turned zs k)).set k (.int .i8 (half (zs[k]?.getD 0))) = i8s (turned zs (k + 1)) := by
  unfold i8s turned
  apply List.ext_getElem?
  intro j
  rw [List.getElem?_set]
  simp only [List.length_map, List.length_append, List.length_take, List.length_drop]
  by_cases hj : k = j
  · subst hj
    rw [if_pos rfl, if_pos (by omega), List.getElem?_map, List.getElem?_append_left (by simp; omega), List.getElem?_map, List.getElem?_take_of_lt (by omega)]
    simp [h]
  · rw [if_neg hj]
    simp only [List.getElem?_map]
    congr 1
    by_cases hlt : j < k
    · rw [List.getElem?_append_left (by simp; omega), List.getElem?_append_left (by simp; omega)]
      simp only [List.getElem?_map]
      rw [List.getElem?_take_of_lt hlt, List.getElem?_take_of_lt (by omega)]
    · rw [List.getElem?_append_right (by simp; omega), List.getElem?_append_right (by simp; omega)]
      simp only [List.getElem?_drop, List.length_map, List.length_take]
      congr 1
      omega
theorem half_bd (x : Int) : -128 ≤ half x ∧ half x ≤ 127 := by
  unfold half; simp [IntKind.wrap, IntKind.bits, IntKind.signed]; omega
theorem In8_half (zs : List Int) : In8 (zs.map half) := by
  intro z hz
  obtain ⟨y, _, rfl⟩ := List.mem_map.1 hz
  exact half_bd y
end Go.Proofs.Ytfipljhlponcoaa
