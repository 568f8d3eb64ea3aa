/- strconv.FormatUint at base 16, Digits -/
import Derived.Test.YtfipljhlponcoaaDoorRFit
import Derived.Lib.ItoaWalk
import Derived.Lib.ItoaMem
import Derived.Laws.BitsLemmas
import Derived.Laws.Bits64
import Derived.Test.YtfipljhlponcoaaDoorShelf2
set_option linter.unusedVariables false
namespace Go.Proofs.YtfipljhlponcoaaDoor
open Go.RowKit Go.Sort
theorem pow2_any (w : World) : Calls Tryd.prog 107 #[.int .i64 16] w fun e w' => e = .returned (.bool true) ∧ w = w' := by
  have hb : bits BinOp.and IntKind.i64 16 15 = 0 := by decide
  go_enter Tryd.func107, Tryd.ntmps107
  go_wp2_with (fail)
  go_ret
  exact ⟨rfl, rfl⟩
theorem tz64_any (w : World) (h5 : w.cell? ⟨5, 15, none⟩ = some (.int .u8 4)) : Calls Tryd.prog 118 #[.int .u64 16] w fun e w' => e = .returned (.int .i64 4) ∧ w = w' := by
  have hb : bits BinOp.and IntKind.u64 16 (IntKind.u64.wrap (-16)) = 16 := by decide
  go_enter Tryd.func118, Tryd.ntmps118
  go_wp2_with (fail)

  go_ret
  exact ⟨rfl, rfl⟩
theorem tz_any (w : World) (h5 : w.cell? ⟨5, 15, none⟩ = some (.int .u8 4)) : Calls Tryd.prog 108 #[.int .u64 16] w fun e w' => e = .returned (.int .i64 4) ∧ w = w' := by
  go_enter Tryd.func108, Tryd.ntmps108
  go_wp2_with (first
    | (go_at_call 118; refine (tz64_any _ h5).mono ?_; rintro e w' ⟨rfl, rfl⟩)
    | (fail))

  go_ret
  exact ⟨rfl, rfl⟩

/-- A digit to the base 16. -/
def hx (d : Nat) : UInt8 := if d < 10 then UInt8.ofNat (48 + d) else UInt8.ofNat (87 + d)
def DIG : ByteArray := ⟨#[48, 49, 50, 51, 52, 53, 54, 55, 56, 57, 97, 98, 99, 100, 101, 102, 103, 104, 105, 106, 107, 108, 109, 110, 111, 112, 113, 114, 115, 116, 117, 118, 119, 120, 121, 122]⟩
def zeros65 : Array Value := Array.replicate 65 (Value.int .u8 0)
/-- A number to the base 16. -/
def hexS (u : Nat) : List UInt8 := if h : u < 16 then [hx u] else hexS (u / 16) ++ [hx (u % 16)]
termination_by u
decreasing_by omega
theorem hexS_lo {u : Nat} (h : u < 16) : hexS u = [hx u] := by rw [hexS, dif_pos h]
theorem hexS_hi {u : Nat} (h : ¬ u < 16) : hexS u = hexS (u / 16) ++ [hx (u % 16)] := by rw [hexS, dif_neg h]
theorem and15 (v : Nat) (hv : v < 18446744073709551616) : bits BinOp.and IntKind.u64 (v : Int) 15 = ((v % 16 : Nat) : Int) := by
  have h := bits_mask .u64 64 (by decide) (fun n h0 h1 => by rw [IntKind.wrap_u64]; omega) 4 (by decide) (v : Int) (by omega) (by omega)
  have e : ((2 : Int) ^ 4 - 1) = 15 := by decide
  have e2 : ((2 : Int) ^ 4) = 16 := by decide
  rw [e, e2] at h
  rw [h]
  omega
theorem dig_at : ∀ j : Fin 36, DIG.data.toList.getD j.1 0 = hx j.1 := by decide +kernel
theorem idx_dig (k : IntKind) (i : Nat) (hi : i < 16) (w : World) : (Instr.index 9 (.string ⟨#[48, 49, 50, 51, 52, 53, 54, 55, 56, 57, 97, 98, 99, 100, 101, 102, 103, 104, 105, 106, 107, 108, 109, 110, 111, 112, 113, 114, 115, 116, 117, 118, 119, 120, 121, 122]⟩) (.int k (i : Int))).run Tryd.prog w = .ok (.int .u8 ((hx i).toNat : Int)) w := by
  have hs : DIG.size = 36 := by decide +kernel
  show (Instr.index 9 (.string DIG) (.int k (i : Int))).run Tryd.prog w = _
  rw [run_index_string w 9 DIG k _ Tryd.underlying9, dif_pos ⟨by omega, by rw [hs]; omega⟩]
  have e : ((i : Int)).toNat = i := by omega
  simp only [e]
  rw [Lib.getD_at DIG i (by rw [hs]; omega), dig_at ⟨i, by omega⟩]
set_option maxRecDepth 100000 in
set_option maxHeartbeats 16000000 in
theorem fbits_any (u : Nat) (hu : u < 18446744073709551616) (w : World) (hw5 : 5 < w.heap.size) (h5 : w.cell? ⟨5, 15, none⟩ = some (.int .u8 4)) :
    Calls Tryd.prog 86 #[.slice none 0 0, .int .u64 u, .int .i64 16, .bool false, .bool false] w fun e w' => e = .returned (.tuple #[.slice none 0 0, .string ⟨(hexS u).toArray⟩]) ∧ Below w.heap.size w w' := by
  have h5' : ∀ o, (w.alloc o).cell? ⟨5, 15, none⟩ = some (.int .u8 4) := fun o => by
    rw [World.cell?_alloc_old _ _ _ (Nat.ne_of_lt hw5)]
    exact h5
  have H5 := Lib.hid h5'
  clear h5 h5' hw5
  go_enter Tryd.func86, Tryd.ntmps86
  go_wp2_with (first
    | (go_at_call 107; refine (pow2_any _).mono ?_; rintro e w' ⟨rfl, rfl⟩)
    | (go_at_call 108; refine (tz_any _ (H5.out _)).mono ?_; rintro e w' ⟨rfl, rfl⟩)
    | (fail))
  go_name_world W1 hW1
  have hW2 : W1 = w.alloc (.cells zeros65 138) := hW1.symm
  clear hW1
  have hH : Holds (fun (b : UInt8) => Value.int .u8 (b.toNat : Int)) W1 w.heap.size 0 (Array.replicate 65 (0 : UInt8)) := fun j hj => by
    have hj' : j < 65 := by simpa using hj
    rw [hW2]
    refine ⟨?_, World.frozen?_alloc_new _ _ _ _⟩
    rw [World.cell?_alloc_new, getElem!_pos _ j hj]
    simp [zeros65, hj']
  have AH := Lib.hid hH
  have AW := Lib.hid hW2
  clear hH hW2
  go_loopw [1, 13] (fun vu vi wr => ∃ (v i n : Nat) (dk : Array UInt8) (l : List UInt8), vu = .int .u64 v ∧ vi = .int .i64 i ∧ wr = (putRow (fun (b : UInt8) => Value.int .u8 (b.toNat : Int)) W1 w.heap.size 0 dk).drewN n ∧ Hid (50 ≤ i ∧ i ≤ 65 ∧ v < 16 ^ (i - 49) ∧ v < 18446744073709551616 ∧ dk.size = 65 ∧ i + l.length = 65 ∧ hexS u = hexS v ++ l ∧ (∀ j (h : j < l.length), dk[i + j]! = l[j]) ∧ Below w.heap.size w wr)) (fun _ vi _ => (RowKit.intOf vi).toNat)
  case atStart => exact ⟨u, 65, 0, Array.replicate 65 0, [], rfl, rfl, (putRow_self _ _ _ _ _ AH.out).symm, ⟨by omega, by omega, hu, hu, by simp, rfl, by simp, fun j h => absurd h (by simp), by rw [AW.out]; exact (Below.refl _ _).alloc (Nat.le_refl _) _⟩⟩
  case round =>
    obtain ⟨v, i, n, dk, l, rfl, rfl, hw0, HI⟩ := hrel
    have hv64 := HI.out.2.2.2.1
    have hi1 : (50 : Int) ≤ (i : Int) := by have := HI.out.1; omega
    have hi2 : (i : Int) ≤ 65 := by have := HI.out.2.1; omega
    have hs0 := HI.out.2.2.2.2.1
    have hH0 : Holds (fun (b : UInt8) => Value.int .u8 (b.toNat : Int)) wr w.heap.size 0 dk := by rw [hw0]; exact holds_putRow _ W1 w.heap.size 0 _ dk AH.out (by rw [hs0]; simp)
    obtain ⟨G0, hG0⟩ : ∃ G : Nat → Int, ∀ t, G t = (dk[t]!.toNat : Int) := ⟨_, fun _ => rfl⟩
    have hc0 : ∀ t, t < 65 → wr.cell? ⟨w.heap.size, t, none⟩ = some (.int .u8 (G0 t)) := fun t ht => by rw [hG0]; have := (hH0 t (by omega)).1; rw [Nat.zero_add] at this; exact this
    have hf0 : ∀ t, t < 65 → wr.frozen? ⟨w.heap.size, t, none⟩ = false := fun t ht => by have := (hH0 t (by omega)).2; rw [Nat.zero_add] at this; exact this
    have AW0 := Lib.hid hw0
    have AS0 := Lib.hid hs0
    have hGe := Lib.hid hG0
    clear hw0 hG0 hH0 hs0
    obtain ⟨m, rfl⟩ : ∃ m, i = m + 1 := ⟨i - 1, by omega⟩
    have hm1 : m < 65 := by omega
    by_cases hv : v < 16
    · have hvi : ¬ (16 : Int) ≤ (v : Int) := by omega
      have hX := idx_dig .u64 v hv
      have hal : Tryd.prog.arrayLen 138 = 65 := by simp [Program.arrayLen, Tryd.underlying138]
      have hlen : (hexS u).length = l.length + 1 := by rw [HI.out.2.2.2.2.2.2.1, hexS_lo hv]; rw [List.length_append, List.length_singleton, Nat.add_comm]
      have hl := HI.out.2.2.2.2.2.1
      have hsl : ∀ W, (Instr.sliceAt 138 (.pointer (some ⟨w.heap.size, 0, none⟩)) (some (.int .i64 (m : Int))) none none).run Tryd.prog W = .ok (.slice (some ⟨w.heap.size, m, none⟩) (hexS u).length (l.length + 1)) W := fun W => by
        rw [run_sliceAt_array_l W 138 ⟨w.heap.size, 0, none⟩ (by simp [Program.arrayLen, Program.elem, Tryd.underlying138]) .i64 (m : Int) (by omega) (by rw [hal]; omega), hlen, hal]
        have e1 : 65 - m = l.length + 1 := by omega
        have e2 : ¬ 65 = m := by omega
        go_simp
      have hcv : (convert 72 9 (.slice (some ⟨w.heap.size, m, none⟩) (hexS u).length (l.length + 1))).run Tryd.prog (wr.setCell ⟨w.heap.size, m, none⟩ (.int .u8 ((hx v).toNat : Int))) = .ok (.string ⟨(hexS u).toArray⟩) (wr.setCell ⟨w.heap.size, m, none⟩ (.int .u8 ((hx v).toNat : Int))) := by
        refine run_convert_bytes_back (P := Tryd.prog) _ 72 9 5 ⟨w.heap.size, m, none⟩ (l.length + 1) (hexS u) Tryd.underlying72 Tryd.underlying5 Tryd.underlying9 (fun j hj => ?_)
        rw [Lib.add_plain]
        have hu2 : hexS u = hx v :: l := by rw [HI.out.2.2.2.2.2.2.1, hexS_lo hv]; rfl
        cases j with
        | zero =>
          simp only [hu2, List.getElem_cons_zero, Nat.add_zero]
          exact World.cell?_setCell_same _ _ _ (hc0 m hm1)
        | succ j =>
          simp only [hu2, List.getElem_cons_succ]
          rw [World.cell?_setCell_other _ _ _ _ (by simp)]
          have hj2 : j < l.length := by rw [hu2, List.length_cons] at hj; omega
          have h := HI.out.2.2.2.2.2.2.2.1 j hj2
          have hc := hc0 (m + (j + 1)) (by omega)
          rw [hc, hGe.out, show m + (j + 1) = m + 1 + j by omega, h]
      clear hl hlen
      clear hal
      have HV := Lib.hid hv
      clear hv
      go_wp2_with (fail)
      go_ret2
      exact ⟨rfl, HI.out.2.2.2.2.2.2.2.2.setCell (Nat.le_refl _) _⟩
    · have hvi : (16 : Int) ≤ (v : Int) := by omega
      obtain ⟨D, hD⟩ : ∃ D, v % 16 = D := ⟨_, rfl⟩
      have hA := and15 v hv64
      rw [hD] at hA
      have hX := idx_dig .u64 D (by omega)
      have HV := Lib.hid hv
      have HD := Lib.hid hD
      clear hv hD
      go_wp2_with (fail)
      obtain ⟨q1, q2, q3, q4, q5, q6, q7, q8, q9⟩ := HI.out
      have hm50 : 50 ≤ m := by
        have : ¬ m + 1 = 50 := fun e => by rw [e] at q3; exact HV.out q3
        omega
      refine ⟨⟨v / 16, m, n, dk.setIfInBounds m (hx D), hx D :: l, by rw [Int.natCast_ediv]; rfl, rfl, ?_, ⟨hm50, by omega, ?_, by omega, by simp [q5], by rw [List.length_cons]; omega, ?_, ?_, q9.setCell (Nat.le_refl _) _⟩⟩, ?_⟩
      · have h := Lib.store1_world W1 w.heap.size 0 dk n m (hx D) (by omega)
        rw [Nat.zero_add] at h
        rw [AW0.out]
        exact h
      · rw [show m + 1 - 49 = (m - 49) + 1 by omega, Nat.pow_succ] at q3
        exact Nat.div_lt_of_lt_mul (by rw [Nat.mul_comm]; exact q3)
      · rw [q7, hexS_hi HV.out, HD.out, List.append_assoc]
        rfl
      · intro j hj
        cases j with
        | zero => exact Lib.get_set_same dk m (hx D) (by omega)
        | succ j =>
          rw [show m + (j + 1) = m + 1 + j by omega, Lib.get_set_other dk m (m + 1 + j) (hx D) (by omega)]
          exact q8 j (by rw [List.length_cons] at hj; omega)
      · simp [RowKit.intOf]

def hexT (u : Nat) : ByteArray := ⟨(hexS u).toArray⟩
theorem hexS_len (k : Nat) (hk : 1 ≤ k) : ∀ u, u < 16 ^ k → (hexS u).length ≤ k := by
  induction k with
  | zero => omega
  | succ k ih =>
    intro u hu
    by_cases h : u < 16
    · rw [hexS_lo h]; simp
    · rw [hexS_hi h, List.length_append, List.length_singleton]
      have hk1 : 1 ≤ k := by
        rcases Nat.eq_zero_or_pos k with rfl | h0
        · exact absurd (by simpa using hu) h
        · exact h0
      have := ih hk1 (u / 16) (Nat.div_lt_of_lt_mul (by rw [Nat.mul_comm, ← Nat.pow_succ]; exact hu))
      omega
theorem futi_any (u : Nat) (hu : u < 18446744073709551616) (w : World) (hw5 : 5 < w.heap.size) (h5 : w.cell? ⟨5, 15, none⟩ = some (.int .u8 4)) :
    Calls Tryd.prog 67 #[.int .u64 u, .int .i64 16] w fun e w' => e = .returned (.string (hexT u)) ∧ Below w.heap.size w w' := by
  have H := Lib.hid (fbits_any u hu w hw5 h5)
  clear h5 hw5
  go_enter Tryd.func67, Tryd.ntmps67
  go_wp2_with (first
    | (go_at_call 86; refine H.out.mono ?_; rintro e w' ⟨rfl, hb⟩; have HB := Lib.hid hb; clear hb)
    | (fail))
  go_ret
  exact ⟨rfl, HB.out⟩
theorem fut_any (u : Nat) (hu : u < 18446744073709551616) (w : World) (hw5 : 5 < w.heap.size) (h5 : w.cell? ⟨5, 15, none⟩ = some (.int .u8 4)) :
    Calls Tryd.prog 42 #[.int .u64 u, .int .i64 16] w fun e w' => e = .returned (.string (hexT u)) ∧ Below w.heap.size w w' := by
  have H := Lib.hid (futi_any u hu w hw5 h5)
  clear h5 hw5
  go_enter Tryd.func42, Tryd.ntmps42
  go_wp2_with (first
    | (go_at_call 67; refine H.out.mono ?_; rintro e w' ⟨rfl, hb⟩; have HB := Lib.hid hb; clear hb)
    | (fail))
  go_ret
  exact ⟨rfl, HB.out⟩
/-- A number as the words write it: 0x and its digits. -/
def digT (u : Nat) : ByteArray := ⟨(48 :: 120 :: hexS u).toArray⟩
theorem dig_any (F : Nat) (hF : F = 14 ∨ F = 15) (u : Nat) (hu : u < 18446744073709551616) (w : World) (hw5 : 5 < w.heap.size) (h5 : w.cell? ⟨5, 15, none⟩ = some (.int .u8 4)) :
    Calls Tryd.prog F #[.int .u64 u] w fun e w' => e = .returned (.string (digT u)) ∧ Below w.heap.size w w' := by
  have H := Lib.hid (fut_any u hu w hw5 h5)
  have hn : (hexT u).size ≤ 100 := by
    have := hexS_len 16 (by decide) u (by rw [show (16 : Nat) ^ 16 = 18446744073709551616 by decide]; exact hu)
    show (hexS u).length ≤ 100
    omega
  have HD := Lib.hid (show (⟨#[48, 120]⟩ : ByteArray) ++ hexT u = digT u from by
    apply nl_inj
    rw [nl_app]
    simp [nl, hexT, digT])
  clear h5 hw5
  rcases hF with rfl | rfl
  · go_enter Tryd.func14, Tryd.ntmps14
    go_wp2_with (first
      | (go_at_call 42; refine H.out.mono ?_; rintro e w' ⟨rfl, hb⟩; have HB := Lib.hid hb; clear hb)
      | (fail))
    go_ret
    exact ⟨by rw [HD.out]; rfl, HB.out⟩
  · go_enter Tryd.func15, Tryd.ntmps15
    go_wp2_with (first
      | (go_at_call 42; refine H.out.mono ?_; rintro e w' ⟨rfl, hb⟩; have HB := Lib.hid hb; clear hb)
      | (fail))
    go_ret
    exact ⟨by rw [HD.out]; rfl, HB.out⟩
end Go.Proofs.YtfipljhlponcoaaDoor
