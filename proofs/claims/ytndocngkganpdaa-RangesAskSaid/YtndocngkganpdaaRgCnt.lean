/- ranges.count, space: the contracts. -/
import Derived.Test.YtndocngkganpdaaRgVal
import Derived.Test.YtndocngkganpdaaRgOne
set_option linter.unusedVariables false
namespace Go.Proofs.Ytndocngkganpdaa
open Go.RowKit
/-- No value is long. -/
def Short (ps : List Pr) : Prop := ∀ y ∈ ps, y.v.size ≤ 1048576
theorem val_mem {ps : List Pr} {k v : ByteArray} (h : valF ps k = some v) : ∃ y ∈ ps, y.v = v := by
  unfold valF at h
  rw [Option.map_eq_some_iff] at h
  obtain ⟨y, hy, e⟩ := h
  exact ⟨y, List.mem_of_find?_eq_some hy, e⟩
theorem val_short {ps : List Pr} (hs : Short ps) {k v : ByteArray} (h : valF ps k = some v) : v.size ≤ 1048576 := by
  obtain ⟨y, hy, e⟩ := val_mem h
  rw [← e]; exact hs y hy
/-- What count gives. -/
def cntF (ps : List Pr) (k : ByteArray) (df least : Nat) : Nat × Nat := match oneF ps k df least with
  | some n => (n, 0)
  | none => (0, 4)
set_option maxRecDepth 100000 in
set_option maxHeartbeats 16000000 in
theorem count_any (p : Int) (nm : ByteArray) (A : Option Addr) (c n : Nat) (ps : List Pr) (hn : n = ps.length) (hl : n ≤ 4398046511104) (hsh : Short ps) (k : ByteArray) (least df : Nat) (hle : least ≤ 2) (hdf : df ≤ 2) (w : World) (B : Nat) (hB : B ≤ w.heap.size) (hs : Seg w B A (prCells ps)) :
    Calls Try.prog 61 #[.agg #[.int .i64 p, .string nm, .slice A n c], .string k, .int .u32 (least : Nat), .int .u32 (df : Nat)] w fun e w' => e = .returned (.tuple #[.int .i64 ((cntF ps k df least).1 : Nat), .int .i64 ((cntF ps k df least).2 : Nat)]) ∧ Below w.heap.size w w' := by
  have hb0 : Below w.heap.size w (w.alloc (.cells #[.int .i64 p, .string nm, .slice A n c] 42)) := (Below.refl _ w).alloc (Nat.le_refl _) _
  have VA := value_any p nm A c n ps hn hl k (w.alloc (.cells #[.int .i64 p, .string nm, .slice A n c] 42)) B (Nat.le_trans hB hb0.size) (hs.below (hb0.mono hB))
  have HB0 := Lib.hid hb0
  have hs0 := hb0.size
  clear hb0
  cases hv : valF ps k with
  | none =>
    have e1 : valV ps k = (⟨#[]⟩, false) := by unfold valV; rw [hv]
    have e2 : cntF ps k df least = (df, 0) := by unfold cntF oneF; rw [hv]
    rw [e1] at VA
    rw [e2]
    have HV := Lib.hid VA
    clear VA e1 e2 hv hs hsh hn
    go_enter Try.func61, Try.ntmps61
    go_wp2_with (first
      | (go_at_call 62; refine HV.out.mono ?_; rintro e w1 ⟨rfl, hb1⟩
         have HB1 := Lib.hid (HB0.out.trans (hb1.mono hs0))
         clear hb1)
      | fail)
    go_ret2
    exact ⟨rfl, HB1.out⟩
  | some v =>
    have e1 : valV ps k = (v, true) := by unfold valV; rw [hv]
    have hvs := val_short hsh hv
    rw [e1] at VA
    have HV := Lib.hid VA
    have CO := Lib.hid (cone_any v hvs)
    by_cases h4 : v.size = 4
    · have e3 : oneC v = (num (nl v), 0) := by unfold oneC; rw [if_pos h4]
      have hn4 := num_u32 (nl_lt v) (by rw [nl_len]; omega)
      have e2 : cntF ps k df least = if num (nl v) ≤ 2 ∧ least ≤ num (nl v) then (num (nl v), 0) else (0, 4) := by
        unfold cntF oneF; rw [hv]; simp only [h4, true_and]; split <;> split <;> simp_all
      rw [e2]
      obtain ⟨m, hm⟩ : ∃ m, m = num (nl v) := ⟨_, rfl⟩
      rw [← hm] at hn4 e3 ⊢
      have HE := Lib.hid e3
      by_cases hlo : m < least
      · rw [if_neg (by omega)]
        have d1 : (m : Int) < (least : Int) := by omega
        clear VA e1 e2 hv hs hsh hn e3 hm hvs
        go_enter Try.func61, Try.ntmps61
        go_wp2_with (first
          | (go_at_call 62; refine HV.out.mono ?_; rintro e w1 ⟨rfl, hb1⟩
             have HB1 := Lib.hid (HB0.out.trans (hb1.mono hs0))
             have hs1 := HB1.out.size
             clear hb1)
          | (go_at_call 69; refine (CO.out _).mono ?_; rintro e w2 ⟨rfl, hb2⟩
             have HB2 := Lib.hid (HB1.out.trans (hb2.mono hs1))
             clear hb2
             simp only [HE.out])
          | fail)
        go_ret2
        exact ⟨rfl, HB2.out⟩
      · by_cases hhi : m ≤ 2
        · rw [if_pos (by omega)]
          have d1 : ¬ (m : Int) < (least : Int) := by omega
          have d2 : ¬ (2 : Int) < (m : Int) := by omega
          clear VA e1 e2 hv hs hsh hn e3 hm hvs
          go_enter Try.func61, Try.ntmps61
          go_wp2_with (first
            | (go_at_call 62; refine HV.out.mono ?_; rintro e w1 ⟨rfl, hb1⟩
               have HB1 := Lib.hid (HB0.out.trans (hb1.mono hs0))
               have hs1 := HB1.out.size
               clear hb1)
            | (go_at_call 69; refine (CO.out _).mono ?_; rintro e w2 ⟨rfl, hb2⟩
               have HB2 := Lib.hid (HB1.out.trans (hb2.mono hs1))
               clear hb2
               simp only [HE.out])
            | fail)
          go_ret2
          exact ⟨rfl, HB2.out⟩
        · rw [if_neg (by omega)]
          have d1 : ¬ (m : Int) < (least : Int) := by omega
          have d2 : (2 : Int) < (m : Int) := by omega
          clear VA e1 e2 hv hs hsh hn e3 hm hvs
          go_enter Try.func61, Try.ntmps61
          go_wp2_with (first
            | (go_at_call 62; refine HV.out.mono ?_; rintro e w1 ⟨rfl, hb1⟩
               have HB1 := Lib.hid (HB0.out.trans (hb1.mono hs0))
               have hs1 := HB1.out.size
               clear hb1)
            | (go_at_call 69; refine (CO.out _).mono ?_; rintro e w2 ⟨rfl, hb2⟩
               have HB2 := Lib.hid (HB1.out.trans (hb2.mono hs1))
               clear hb2
               simp only [HE.out])
            | fail)
          go_ret2
          exact ⟨rfl, HB2.out⟩
    · have e3 : oneC v = (0, 4) := by unfold oneC; rw [if_neg h4]
      have e2 : cntF ps k df least = (0, 4) := by unfold cntF oneF; rw [hv]; simp only [h4, false_and, if_false]
      rw [e2]
      have HE := Lib.hid e3
      clear VA e1 e2 hv hs hsh hn e3 hvs
      go_enter Try.func61, Try.ntmps61
      go_wp2_with (first
        | (go_at_call 62; refine HV.out.mono ?_; rintro e w1 ⟨rfl, hb1⟩
           have HB1 := Lib.hid (HB0.out.trans (hb1.mono hs0))
           have hs1 := HB1.out.size
           clear hb1)
        | (go_at_call 69; refine (CO.out _).mono ?_; rintro e w2 ⟨rfl, hb2⟩
           have HB2 := Lib.hid (HB1.out.trans (hb2.mono hs1))
           clear hb2
           simp only [HE.out])
        | fail)
      go_ret2
      exact ⟨rfl, HB2.out⟩
end Go.Proofs.Ytndocngkganpdaa
