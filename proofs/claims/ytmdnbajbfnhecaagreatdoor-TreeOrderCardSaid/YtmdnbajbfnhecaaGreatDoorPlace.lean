/- Places and ends: the contracts. -/
import Derived.Test.YtmdnbajbfnhecaaGreatDoorPTwin
import Derived.Test.YtmdnbajbfnhecaaGreatDoorPCheck
import Derived.Test.YtmdnbajbfnhecaaGreatDoorCutLaw
set_option linter.unusedVariables false
namespace Go.Proofs.YtmdnbajbfnhecaaGreatDoor
open Go.RowKit
set_option maxRecDepth 100000 in
theorem place_any (A : Option Addr) (cap n : Nat) (l : List Nm) (hn : n = l.length) (hsz : Sized l) (i : Int) (w : World) (B : Nat) (hB : B ≤ w.heap.size) (hs : Nodes w B A l) :
    Calls Tryz.prog 34 #[.slice A n cap, .int .i64 i] w fun e w' => e = .returned (.int .i64 (wrongF (dat l) i)) ∧ Below w.heap.size w w' := by
  have h := pCheck_any A cap n l hn hsz w B hB hs
  have hnn : n ≤ 2932031007403 := by have := hsz.n; omega
  have hd : wrongF (dat l) i = if (checkF (dat l)).2 = 0 then (if i < 0 ∨ (n : Int) ≤ i then 1 else 0) else 40 := by unfold wrongF; rw [dat_len, ← hn]
  have h2 := check_two (dat l)
  rw [hd]
  generalize checkF (dat l) = R at *
  obtain ⟨R1, R2⟩ := R
  simp only at h h2 ⊢
  rcases h2 with rfl | rfl
  case inr =>
    rw [if_neg (by omega)]
    have H := Lib.hid h
    clear h hn hsz hs hd
    go_enter Tryz.func34, Tryz.ntmps34
    go_wp2_with (first
      | (go_at_call 23; refine H.out.mono ?_; rintro e w1 ⟨rfl, hb1⟩; have HB1 := Lib.hid hb1; clear hb1))
    go_ret
    exact ⟨rfl, HB1.out⟩
  rw [if_pos rfl]
  have H := Lib.hid h
  clear h hn hsz hs hd
  by_cases hneg : i < 0
  · rw [if_pos (.inl hneg)]
    have e1 : decide (i < 0) = true := by simpa using hneg
    go_enter Tryz.func34, Tryz.ntmps34
    go_wp2_with (first
      | (go_at_call 23; refine H.out.mono ?_; rintro e w1 ⟨rfl, hb1⟩; have HB1 := Lib.hid hb1; clear hb1))
    go_ret
    exact ⟨rfl, HB1.out⟩
  have e1 : decide (i < 0) = false := by simpa using hneg
  by_cases hbig : (n : Int) ≤ i
  · rw [if_pos (.inr hbig)]
    have e2 : decide ((n : Int) ≤ i) = true := by simpa using hbig
    go_enter Tryz.func34, Tryz.ntmps34
    go_wp2_with (first
      | (go_at_call 23; refine H.out.mono ?_; rintro e w1 ⟨rfl, hb1⟩; have HB1 := Lib.hid hb1; clear hb1))
    go_ret
    exact ⟨rfl, HB1.out⟩
  · rw [if_neg (by omega)]
    have e2 : decide ((n : Int) ≤ i) = false := by simpa using hbig
    go_enter Tryz.func34, Tryz.ntmps34
    go_wp2_with (first
      | (go_at_call 23; refine H.out.mono ?_; rintro e w1 ⟨rfl, hb1⟩; have HB1 := Lib.hid hb1; clear hb1))
    go_ret
    exact ⟨rfl, HB1.out⟩
set_option maxRecDepth 100000 in
theorem end_any (A : Option Addr) (cap n : Nat) (l : List Nm) (hn : n = l.length) (hnn : n ≤ 512) (i z : Nat) (he : EndAt (dat l) i z) (w : World) (B : Nat) (hB : B ≤ w.heap.size) (hs : Nodes w B A l) :
    Calls Tryz.prog 42 #[.slice A n cap, .int .i64 i] w fun e w' => e = .returned (.int .i64 z) ∧ Below w.heap.size w w' := by
  obtain ⟨h1, h2, h3, h4⟩ := he
  rw [dat_len, ← hn] at h2 h4
  have HU := Lib.hid h3
  have HT := Lib.hid h4
  have HN := Lib.hid hn
  have HS := Lib.hid hs
  clear h3 h4 hn hs
  go_enter Tryz.func42, Tryz.ntmps42
  go_wp2
  go_loopw [5] (fun kv wr => ∃ k : Nat, i < k ∧ k ≤ z ∧ kv = .int .i64 k ∧ wr = w) (fun kv _ => z - (intOf kv).toNat)
  case atStart => exact ⟨i + 1, by omega, by omega, by go_num, rfl⟩
  case round =>
    obtain ⟨k, hik, hkz, rfl, rfl⟩ := hrel
    by_cases hlt : k < n
    · have hkl : k < l.length := by rw [← HN.out]; exact hlt
      have hki : (k : Int) < (n : Int) := by omega
      obtain ⟨b, off, rfl, _, x0, _⟩ := HS.out.at_ hkl
      have hpar := par_get l hkl
      by_cases hz : k < z
      · have hu := HU.out k hik hz
        rw [hpar] at hu
        obtain ⟨P, hP⟩ : ∃ P, P = l[k].d.p := ⟨_, rfl⟩
        rw [← hP] at x0 hu
        have e1 : decide ((i : Int) ≤ P) = true := by simpa using hu
        clear hP hpar
        go_wp2
        go_roundw
        case rel => exact ⟨k + 1, by omega, by omega, by go_num, by first | rfl | trivial⟩
        case measure => simp [intOf]; omega
      · obtain rfl : k = z := by omega
        have ht := HT.out hlt
        rw [hpar] at ht
        obtain ⟨P, hP⟩ : ∃ P, P = l[k].d.p := ⟨_, rfl⟩
        rw [← hP] at x0 ht
        have e1 : decide ((i : Int) ≤ P) = false := by simp; omega
        clear hP hpar
        go_wp2
        go_ret
        exact ⟨rfl, Below.refl _ _⟩
    · obtain rfl : k = z := by omega
      obtain rfl : k = n := by omega
      go_wp2
      go_ret
      exact ⟨rfl, Below.refl _ _⟩
end Go.Proofs.YtmdnbajbfnhecaaGreatDoor
