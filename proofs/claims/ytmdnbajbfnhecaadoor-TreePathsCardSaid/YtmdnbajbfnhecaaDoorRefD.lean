/- The document's Check: the contract. -/
import Derived.Test.YtmdnbajbfnhecaaDoorRefC
set_option linter.unusedVariables false
namespace Go.Proofs.YtmdnbajbfnhecaaDoor
open Go.RowKit
/-- What memory holds of a list of nodes. -/
structure Sized (l : List Nm) : Prop where
  n : l.length * 48 ≤ 140737488355328
  small : Small (dat l)
  props : ∀ x ∈ l, x.d.ps.length * 32 ≤ 140737488355328
  wf : ∀ x ∈ l, (Lit.int .i64 x.d.p).wf = true
set_option maxRecDepth 100000 in
set_option maxHeartbeats 2000000 in
theorem rcheck_any (A : Option Addr) (cap n : Nat) (l : List Nm) (hn : n = l.length) (hsz : Sized l) (w : World) (B : Nat) (hB : B ≤ w.heap.size) (hs : Nodes w B A l) :
    Calls Tryd.prog 63 #[.slice A n cap] w fun e w' => e = .returned (.tuple #[.int .i64 (checkF (dat l)).1, .int .i64 (checkF (dat l)).2]) ∧ Below w.heap.size w w' := by
  have hnx : ∀ (k : Nat) (w1 : World), k < n → Fine (dat l) k → Below w.heap.size w w1 → Calls Tryd.prog 84 #[.slice A n cap, .int .i64 k] w1 fun e w' => e = .returned (.bool (nodeOkB (dat l) k)) ∧ Below w.heap.size w w' := fun k w1 hk hf hb =>
    accum (rnext_any A cap n l hn (by have := hsz.n; omega) hsz.small k hk hf (fun x hx => by have := hsz.props x hx; omega) w1 B (by have := hb.size; omega) (hs.below (hb.mono hB)) hsz.wf) hb
  have hbad : ∀ k, k < n → Fine (dat l) k → nodeOkB (dat l) k = false → checkF (dat l) = ((k : Int), 40) := fun k hk => check_bad (by rw [dat_len, ← hn]; exact hk)
  have hok : Fine (dat l) n → checkF (dat l) = if n = 0 then (0, 40) else (0, 0) := fun hf => by
    have h := check_ok (l := dat l) (by rw [dat_len, ← hn]; exact hf)
    rw [dat_len, ← hn] at h
    exact h
  have hnn : n ≤ 2932031007403 := by have := hsz.n; omega
  generalize hg : dat l = dl at *
  obtain ⟨R, hR⟩ : ∃ R, R = checkF dl := ⟨_, rfl⟩
  rw [← hR] at hbad hok ⊢
  obtain ⟨R1, R2⟩ := R
  have HNX := Lib.hid hnx
  have HBAD := Lib.hid hbad
  have HOK := Lib.hid hok
  clear hnx hbad hok hsz hn hs hg hR
  go_enter Tryd.func63, Tryd.ntmps63
  go_wp2
  go_loopw [4] (fun i wr => ∃ k : Nat, k ≤ n ∧ i = .int .i64 k ∧ Fine dl k ∧ Below w.heap.size w wr) (fun i _ => n - (intOf i).toNat)
  case atStart => exact ⟨0, by omega, rfl, fun j hj => absurd hj (Nat.not_lt_zero j), Below.refl _ _⟩
  case round =>
    obtain ⟨k, hk, rfl, hf, hb⟩ := hrel
    have HF := Lib.hid hf
    have HB := Lib.hid hb
    clear hf hb
    by_cases hlt : k < n
    · have hki : (k : Int) < (n : Int) := by omega
      have hcall := HNX.out k _ hlt HF.out HB.out
      rcases hbn : nodeOkB dl k with _ | _
      · have hR := HBAD.out k hlt HF.out hbn
        obtain ⟨rfl, rfl⟩ := Prod.mk.inj hR
        rw [hbn] at hcall
        have HC := Lib.hid hcall
        clear hcall hbn hR
        go_wp2_with (first
          | (go_at_call 84
             refine HC.out.mono ?_
             rintro e w1 ⟨rfl, hb1⟩
             have HB1 := Lib.hid hb1
             clear hb1))
        go_ret2
        exact ⟨rfl, HB1.out⟩
      · have hf2 : Fine dl (k + 1) := fun j hj => by
          rcases (show j < k ∨ j = k by omega) with h | rfl
          · exact HF.out j h
          · exact hbn
        have HF2 := Lib.hid hf2
        rw [hbn] at hcall
        have HC := Lib.hid hcall
        clear hcall hbn hf2
        go_wp2_with (first
          | (go_at_call 84
             refine HC.out.mono ?_
             rintro e w1 ⟨rfl, hb1⟩
             have HB1 := Lib.hid hb1
             clear hb1))
        exact ⟨⟨k + 1, by omega, by go_num, HF2.out, HB1.out⟩, by simp [intOf]; omega⟩
    · obtain rfl : k = n := by omega
      have hR := HOK.out HF.out
      by_cases h0 : k = 0
      · subst h0
        rw [if_pos rfl] at hR
        obtain ⟨rfl, rfl⟩ := Prod.mk.inj hR
        go_wp2
        go_ret2
        exact ⟨rfl, HB.out⟩
      · rw [if_neg h0] at hR
        obtain ⟨rfl, rfl⟩ := Prod.mk.inj hR
        have e0 : ((k : Int) == 0) = false := by simp; omega
        go_wp2
        go_ret2
        exact ⟨rfl, HB.out⟩
end Go.Proofs.YtmdnbajbfnhecaaDoor
