/- ranges.Reg: the contract. -/
import Derived.Test.YtndocngkganpdaaRgReg
import Derived.Test.YtndocngkganpdaaRgWr
set_option linter.unusedVariables false
namespace Go.Proofs.Ytndocngkganpdaa
open Go.RowKit
theorem wrong_zero {l : List Nd} {i least : Int} (h : wrongF l i least = 0) : treeB l = true ∧ least ≤ i ∧ i < l.length := by
  unfold wrongF at h
  split at h
  · rename_i h1
    split at h
    · omega
    · exact ⟨h1, by omega, by omega⟩
  · omega
/-- What Reg gives. -/
def RegE (l : List Nd) (i : Int) (base : Nat) (e : Ending) (w' : World) : Prop := if wrongF l i 1 ≠ 0 then e = .returned (.tuple #[.slice none 0 0, .int .i64 (wrongF l i 1)]) else RegR (regF l i.toNat) base e w'
set_option maxRecDepth 100000 in
set_option maxHeartbeats 16000000 in
theorem preg_any (A : Option Addr) (cap n : Nat) (l : List Nm) (hn : n = l.length) (hsz : Sized l) (hsh : ShortL (dat l)) (i : Int) (w : World) (B : Nat) (hB : B ≤ w.heap.size) (hs : Nodes w B A l) :
    Calls Try.prog 22 #[.slice A n cap, .int .i64 i] w fun e w' => RegE (dat l) i w.heap.size e w' ∧ Below w.heap.size w w' := by
  have NO := node_any A cap n l hn hsz i 1 w B hB hs
  unfold RegE
  by_cases h0 : wrongF (dat l) i 1 = 0
  · obtain ⟨ht, hi1, hi2⟩ := wrong_zero h0
    rw [dat_len, ← hn] at hi2
    obtain ⟨k, rfl⟩ := Int.eq_ofNat_of_zero_le (show 0 ≤ i by omega)
    have hf := tree_fine ht
    rw [dat_len, ← hn] at hf
    have hp := fine_par hf (j := k) (by omega) (by rw [dat_len, ← hn]; omega)
    have hp0 := hp.2.2 (by omega)
    have RE : ∀ W : World, Below w.heap.size w W → Calls Try.prog 49 #[.slice A n cap, .int .i64 (k : Nat)] W fun e w' => RegR (regF (dat l) k) W.heap.size e w' ∧ Below W.heap.size W w' := fun W hW => reg_any A cap n l hn hsz hsh k (by omega) hp0 (by omega) W B (Nat.le_trans hB hW.size) (hs.below (hW.mono hB))
    rw [h0] at NO
    have HNO := Lib.hid NO
    have HRE := Lib.hid RE
    suffices H : Calls Try.prog 22 #[.slice A n cap, .int .i64 (k : Nat)] w fun e w' => RegR (regF (dat l) k) w.heap.size e w' ∧ Below w.heap.size w w' from H.mono fun e w' h => ⟨by rw [if_neg (fun hh => hh h0)]; exact h.1, h.2⟩
    clear NO RE hn hsz hsh hs hf hp hp0 ht h0
    cases hR : regF (dat l) k with
    | none =>
      rw [hR] at HRE
      clear hR
      go_enter Try.func22, Try.ntmps22
      go_wp2_with (first
        | (go_at_call 28; refine HNO.out.mono ?_; rintro e w1 ⟨rfl, hb1⟩
           have HB1 := Lib.hid hb1
           clear hb1)
        | (go_at_call 49; refine (HRE.out _ HB1.out).mono ?_; rintro e w2 ⟨rfl, hb2⟩
           have HB2 := Lib.hid (HB1.out.trans (hb2.mono HB1.out.size))
           clear hb2)
        | fail)
      go_ret2
      exact ⟨rfl, HB2.out⟩
    | some L =>
      rw [hR] at HRE
      clear hR
      go_enter Try.func22, Try.ntmps22
      go_wp2_with (first
        | (go_at_call 28; refine HNO.out.mono ?_; rintro e w1 ⟨rfl, hb1⟩
           have HB1 := Lib.hid hb1
           clear hb1)
        | (go_at_call 49; refine (HRE.out _ HB1.out).mono ?_; rintro e w2 ⟨⟨AL, cL, rfl, hown⟩, hb2⟩
           have HB2 := Lib.hid (HB1.out.trans (hb2.mono HB1.out.size))
           have HO := Lib.hid (own_base hown HB1.out.size)
           clear hb2 hown)
        | fail)
      go_ret2
      exact ⟨⟨AL, cL, rfl, HO.out⟩, HB2.out⟩
  · have HNO := Lib.hid NO
    have H0 := Lib.hid h0
    have e0 : (wrongF (dat l) i 1 == 0) = false := by rw [beq_eq_false_iff_ne]; exact h0
    suffices H : Calls Try.prog 22 #[.slice A n cap, .int .i64 i] w fun e w' => e = .returned (.tuple #[.slice none 0 0, .int .i64 (wrongF (dat l) i 1)]) ∧ Below w.heap.size w w' from H.mono fun e w' h => ⟨by rw [if_pos h0]; exact h.1, h.2⟩
    generalize wrongF (dat l) i 1 = x at *
    clear NO hn hsz hsh hs h0
    go_enter Try.func22, Try.ntmps22
    go_wp2_with (first
      | (go_at_call 28; refine HNO.out.mono ?_; rintro e w1 ⟨rfl, hb1⟩
         have HB1 := Lib.hid hb1
         clear hb1)
      | fail)
    go_ret2
    exact ⟨rfl, HB1.out⟩
end Go.Proofs.Ytndocngkganpdaa
