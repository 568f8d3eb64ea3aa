/- Places and ends: the contracts. -/
import Derived.Test.YtmdnbajbfnhecaaDoorPTwin
import Derived.Test.YtmdnbajbfnhecaaDoorPCheck
import Derived.Test.YtmdnbajbfnhecaaDoorCutLaw
set_option linter.unusedVariables false
namespace Go.Proofs.YtmdnbajbfnhecaaDoor
open Go.RowKit
set_option maxRecDepth 100000 in
theorem may_any (A : Option Addr) (cap n : Nat) (l : List Nm) (hn : n = l.length) (hsz : Sized l) (w : World) (B : Nat) (hB : B ≤ w.heap.size) (hs : Nodes w B A l) :
    Calls Tryd.prog 29 #[.slice A n cap] w fun e w' => e = .returned (.bool ((checkF (dat l)).2 == 0)) ∧ Below w.heap.size w w' := by
  have h := rcheck_any A cap n l hn hsz w B hB hs
  generalize checkF (dat l) = R at *
  obtain ⟨R1, R2⟩ := R
  have H := Lib.hid h
  clear h hn hsz hs
  go_enter Tryd.func29, Tryd.ntmps29
  go_wp2_with (first
    | (go_at_call 63; refine H.out.mono ?_; rintro e w1 ⟨rfl, hb1⟩; have HB1 := Lib.hid hb1; clear hb1))
  go_ret
  exact ⟨rfl, HB1.out⟩
set_option maxRecDepth 100000 in
theorem wrong_any (A : Option Addr) (cap n : Nat) (l : List Nm) (hn : n = l.length) (hsz : Sized l) (i : Int) (w : World) (B : Nat) (hB : B ≤ w.heap.size) (hs : Nodes w B A l) :
    Calls Tryd.prog 42 #[.slice A n cap, .int .i64 i] w fun e w' => e = .returned (.int .i64 (wrongF (dat l) i)) ∧ Below w.heap.size w w' := by
  have h := may_any A cap n l hn hsz w B hB hs
  have hnn : n ≤ 2932031007403 := by have := hsz.n; omega
  have hd : wrongF (dat l) i = if (checkF (dat l)).2 = 0 then (if i < 0 ∨ (n : Int) ≤ i then 1 else 0) else 40 := by unfold wrongF; rw [dat_len, ← hn]
  rw [hd]
  generalize (checkF (dat l)).2 = R2 at *
  by_cases h0 : R2 = 0
  case neg =>
    have e1 : (R2 == 0) = false := by simpa using h0
    rw [e1] at h
    rw [if_neg h0]
    have H := Lib.hid h
    clear h hn hsz hs hd
    go_enter Tryd.func42, Tryd.ntmps42
    go_wp2_with (first
      | (go_at_call 29; refine H.out.mono ?_; rintro e w1 ⟨rfl, hb1⟩; have HB1 := Lib.hid hb1; clear hb1))
    go_ret
    exact ⟨rfl, HB1.out⟩
  subst h0
  rw [if_pos rfl]
  have H := Lib.hid h
  clear h hn hsz hs hd
  by_cases hneg : i < 0
  · rw [if_pos (.inl hneg)]
    have e1 : decide (i < 0) = true := by simpa using hneg
    go_enter Tryd.func42, Tryd.ntmps42
    go_wp2_with (first
      | (go_at_call 29; refine H.out.mono ?_; rintro e w1 ⟨rfl, hb1⟩; have HB1 := Lib.hid hb1; clear hb1))
    go_ret
    exact ⟨rfl, HB1.out⟩
  have e1 : decide (i < 0) = false := by simpa using hneg
  by_cases hbig : (n : Int) ≤ i
  · rw [if_pos (.inr hbig)]
    have e2 : decide ((n : Int) ≤ i) = true := by simpa using hbig
    go_enter Tryd.func42, Tryd.ntmps42
    go_wp2_with (first
      | (go_at_call 29; refine H.out.mono ?_; rintro e w1 ⟨rfl, hb1⟩; have HB1 := Lib.hid hb1; clear hb1))
    go_ret
    exact ⟨rfl, HB1.out⟩
  · rw [if_neg (by omega)]
    have e2 : decide ((n : Int) ≤ i) = false := by simpa using hbig
    go_enter Tryd.func42, Tryd.ntmps42
    go_wp2_with (first
      | (go_at_call 29; refine H.out.mono ?_; rintro e w1 ⟨rfl, hb1⟩; have HB1 := Lib.hid hb1; clear hb1))
    go_ret
    exact ⟨rfl, HB1.out⟩
set_option maxRecDepth 100000 in
theorem place_any (A : Option Addr) (cap n : Nat) (l : List Nm) (hn : n = l.length) (hsz : Sized l) (i : Int) (w : World) (B : Nat) (hB : B ≤ w.heap.size) (hs : Nodes w B A l) :
    Calls Tryd.prog 40 #[.slice A n cap, .int .i64 i] w fun e w' => e = .returned (.int .i64 (wrongF (dat l) i)) ∧ Below w.heap.size w w' := by
  have h := pCheck_any A cap n l hn hsz w B hB hs
  have hnn : n ≤ 2932031007403 := by have := hsz.n; omega
  have hd : wrongF (dat l) i = if (checkF (dat l)).2 = 0 then (if i < 0 ∨ (n : Int) ≤ i then 1 else 0) else 40 := by unfold wrongF; rw [dat_len, ← hn]
  have h2 := check_two (dat l)
  rw [hd]
  generalize checkF (dat l) = R at *
  obtain ⟨R1, R2⟩ := R
  simp only at h h2 ⊢
  rcases h2 with rfl | rfl
  case inr =>
    rw [if_neg (by omega)]
    have H := Lib.hid h
    clear h hn hsz hs hd
    go_enter Tryd.func40, Tryd.ntmps40
    go_wp2_with (first
      | (go_at_call 26; refine H.out.mono ?_; rintro e w1 ⟨rfl, hb1⟩; have HB1 := Lib.hid hb1; clear hb1))
    go_ret
    exact ⟨rfl, HB1.out⟩
  rw [if_pos rfl]
  have H := Lib.hid h
  clear h hn hsz hs hd
  by_cases hneg : i < 0
  · rw [if_pos (.inl hneg)]
    have e1 : decide (i < 0) = true := by simpa using hneg
    go_enter Tryd.func40, Tryd.ntmps40
    go_wp2_with (first
      | (go_at_call 26; refine H.out.mono ?_; rintro e w1 ⟨rfl, hb1⟩; have HB1 := Lib.hid hb1; clear hb1))
    go_ret
    exact ⟨rfl, HB1.out⟩
  have e1 : decide (i < 0) = false := by simpa using hneg
  by_cases hbig : (n : Int) ≤ i
  · rw [if_pos (.inr hbig)]
    have e2 : decide ((n : Int) ≤ i) = true := by simpa using hbig
    go_enter Tryd.func40, Tryd.ntmps40
    go_wp2_with (first
      | (go_at_call 26; refine H.out.mono ?_; rintro e w1 ⟨rfl, hb1⟩; have HB1 := Lib.hid hb1; clear hb1))
    go_ret
    exact ⟨rfl, HB1.out⟩
  · rw [if_neg (by omega)]
    have e2 : decide ((n : Int) ≤ i) = false := by simpa using hbig
    go_enter Tryd.func40, Tryd.ntmps40
    go_wp2_with (first
      | (go_at_call 26; refine H.out.mono ?_; rintro e w1 ⟨rfl, hb1⟩; have HB1 := Lib.hid hb1; clear hb1))
    go_ret
    exact ⟨rfl, HB1.out⟩
set_option maxRecDepth 100000 in
theorem end_any (A : Option Addr) (cap n : Nat) (l : List Nm) (hn : n = l.length) (hnn : n ≤ 512) (i z : Nat) (he : EndAt (dat l) i z) (w : World) (B : Nat) (hB : B ≤ w.heap.size) (hs : Nodes w B A l) :
    Calls Tryd.prog 45 #[.slice A n cap, .int .i64 i] w fun e w' => e = .returned (.int .i64 z) ∧ Below w.heap.size w w' := by
  obtain ⟨h1, h2, h3, h4⟩ := he
  rw [dat_len, ← hn] at h2 h4
  have HU := Lib.hid h3
  have HT := Lib.hid h4
  have HN := Lib.hid hn
  have HS := Lib.hid hs
  clear h3 h4 hn hs
  go_enter Tryd.func45, Tryd.ntmps45
  go_wp2
  go_loopw [5] (fun kv wr => ∃ k : Nat, i < k ∧ k ≤ z ∧ kv = .int .i64 k ∧ wr = w) (fun kv _ => z - (intOf kv).toNat)
  case atStart => exact ⟨i + 1, by omega, by omega, by go_num, rfl⟩
  case round =>
    obtain ⟨k, hik, hkz, rfl, rfl⟩ := hrel
    by_cases hlt : k < n
    · have hkl : k < l.length := by rw [← HN.out]; exact hlt
      have hki : (k : Int) < (n : Int) := by omega
      obtain ⟨b, off, rfl, _, x0, _⟩ := HS.out.at_ hkl
      have hpar := par_get l hkl
      by_cases hz : k < z
      · have hu := HU.out k hik hz
        rw [hpar] at hu
        obtain ⟨P, hP⟩ : ∃ P, P = l[k].d.p := ⟨_, rfl⟩
        rw [← hP] at x0 hu
        have e1 : decide ((i : Int) ≤ P) = true := by simpa using hu
        clear hP hpar
        go_wp2
        go_roundw
        case rel => exact ⟨k + 1, by omega, by omega, by go_num, by first | rfl | trivial⟩
        case measure => simp [intOf]; omega
      · obtain rfl : k = z := by omega
        have ht := HT.out hlt
        rw [hpar] at ht
        obtain ⟨P, hP⟩ : ∃ P, P = l[k].d.p := ⟨_, rfl⟩
        rw [← hP] at x0 ht
        have e1 : decide ((i : Int) ≤ P) = false := by simp; omega
        clear hP hpar
        go_wp2
        go_ret
        exact ⟨rfl, Below.refl _ _⟩
    · obtain rfl : k = z := by omega
      obtain rfl : k = n := by omega
      go_wp2
      go_ret
      exact ⟨rfl, Below.refl _ _⟩
set_option maxRecDepth 100000 in
set_option maxHeartbeats 2000000 in
theorem rend_any (A : Option Addr) (cap n : Nat) (l : List Nm) (hn : n = l.length) (hnn : n ≤ 512) (hf : Fine (dat l) (dat l).length) (i z : Nat) (he : EndAt (dat l) i z) (w : World) (B : Nat) (hB : B ≤ w.heap.size) (hs : Nodes w B A l) :
    Calls Tryd.prog 46 #[.slice A n cap, .int .i64 i] w fun e w' => e = .returned (.int .i64 z) ∧ Below w.heap.size w w' := by
  obtain ⟨h1, h2, h3, h4⟩ := he
  rw [dat_len, ← hn] at h2 h4
  have hfn : Fine (dat l) n := by rw [hn, ← dat_len]; exact hf
  have hab : ∀ (k : Nat) (w1 : World), k < n → Below w.heap.size w w1 → Calls Tryd.prog 43 #[.slice A n cap, .int .i64 k] w1 fun e w' => ∃ A' c', e = .returned (.slice A' (above (dat l) k).length c') ∧ Seg w' w'.heap.size A' (i64s (above (dat l) k)) ∧ Below w.heap.size w w' := fun k w1 hk hb =>
    (above_any A cap n n l hn k w1 B (Nat.le_trans hB hb.size) (hs.below (hb.mono hB)) hfn (by omega) (by omega) (by omega)).mono fun e w' ⟨A', c', h1, h2, h3⟩ => ⟨A', c', h1, own_seg h2, hb.trans (h3.mono hb.size)⟩
  have hln : ∀ k : Nat, k < n → (above (dat l) k).length ≤ 512 := fun k hk => by
    have := above_len hfn (by rw [dat_len]; omega) k hk
    omega
  have hhas : ∀ (k : Nat) (w1 : World) (A' : Option Addr) (c' : Nat), k < n → Seg w1 w1.heap.size A' (i64s (above (dat l) k)) → Calls Tryd.prog 72 #[.slice A' (above (dat l) k).length c', .int .i64 i] w1 fun e w' => e = .returned (.bool ((above (dat l) k).contains (i : Int))) ∧ w1 = w' := fun k w1 A' c' hk hsg =>
    has_any A' c' _ _ rfl (by have := hln k hk; omega) i w1 _ hsg
  have hun : ∀ k : Nat, i < k → k ≤ z → k < n → (above (dat l) k).contains (i : Int) = decide ((i : Int) ≤ parAt (dat l) k) := fun k hik hkz hk =>
    under_iff hf k hik (by rw [dat_len]; omega) (fun j a b => h3 j a (by omega))
  have HU := Lib.hid h3
  have HT := Lib.hid h4
  have HAB := Lib.hid hab
  have HHAS := Lib.hid hhas
  have HUN := Lib.hid hun
  clear h3 h4 hn hs hab hhas hun hln hf hfn
  go_enter Tryd.func46, Tryd.ntmps46
  go_wp2
  go_loopw [5] (fun kv wr => ∃ k : Nat, i < k ∧ k ≤ z ∧ kv = .int .i64 k ∧ Below w.heap.size w wr) (fun kv _ => z - (intOf kv).toNat)
  case atStart => exact ⟨i + 1, by omega, by omega, by go_num, Below.refl _ _⟩
  case round =>
    obtain ⟨k, hik, hkz, rfl, hb⟩ := hrel
    have HB := Lib.hid hb
    clear hb
    by_cases hlt : k < n
    · have hki : (k : Int) < (n : Int) := by omega
      have hab := HAB.out k _ hlt HB.out
      have hha := fun w1 A' c' h => HHAS.out k w1 A' c' hlt h
      have hun := HUN.out k hik hkz hlt
      rw [hun] at hha
      generalize above (dat l) k = ab at *
      obtain ⟨m, hm⟩ : ∃ m, m = ab.length := ⟨_, rfl⟩
      rw [← hm] at hab
      simp only [← hm] at hha
      have H1 := Lib.hid hab
      clear hab hun hm
      by_cases hz : k < z
      · have hu := HU.out k hik hz
        rw [decide_eq_true hu] at hha
        have H2 := Lib.hid hha
        clear hha hu
        go_wp2_with (first
          | (go_at_call 43; refine H1.out.mono ?_; rintro e w1 ⟨A', c', rfl, hsg, hb1⟩; have HSG := Lib.hid hsg; have HB1 := Lib.hid hb1; clear hsg hb1)
          | (go_at_call 72; refine (H2.out _ _ _ HSG.out).mono ?_; rintro e w' ⟨rfl, rfl⟩))
        exact ⟨⟨k + 1, by omega, by omega, by go_num, HB1.out⟩, by simp [intOf]; omega⟩
      · obtain rfl : k = z := by omega
        have ht := HT.out hlt
        rw [decide_eq_false (by omega)] at hha
        have H2 := Lib.hid hha
        clear hha ht
        go_wp2_with (first
          | (go_at_call 43; refine H1.out.mono ?_; rintro e w1 ⟨A', c', rfl, hsg, hb1⟩; have HSG := Lib.hid hsg; have HB1 := Lib.hid hb1; clear hsg hb1)
          | (go_at_call 72; refine (H2.out _ _ _ HSG.out).mono ?_; rintro e w' ⟨rfl, rfl⟩))
        go_ret
        exact ⟨rfl, HB1.out⟩
    · obtain rfl : k = z := by omega
      obtain rfl : k = n := by omega
      go_wp2
      go_ret
      exact ⟨rfl, HB.out⟩
end Go.Proofs.YtmdnbajbfnhecaaDoor
