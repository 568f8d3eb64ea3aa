/- Path, Depth and End: the contracts of both sides. -/
import Derived.Test.YtmdnbajbfnhecaaDoorAP
set_option linter.unusedVariables false
namespace Go.Proofs.YtmdnbajbfnhecaaDoor
open Go.RowKit
def pathS (l : List Nd) (i : Int) : ByteArray := if wrongF l i = 0 then pathB l i.toNat else ByteArray.empty
def depthI (l : List Nd) (i : Int) : Int := if wrongF l i = 0 then ((above l i).length : Nat) else 0
/-- Where what is beneath a node ends. -/
noncomputable def endN (l : List Nd) (i : Nat) : Nat := if h : i < l.length then (end_exists l h).choose else 0
theorem endN_at {l : List Nd} {i : Nat} (h : i < l.length) : EndAt l i (endN l i) := by
  unfold endN
  rw [dif_pos h]
  exact (end_exists l h).choose_spec
noncomputable def endI (l : List Nd) (i : Int) : Int := if wrongF l i = 0 then (endN l i.toNat : Nat) else 0
set_option maxRecDepth 100000 in
set_option maxHeartbeats 2000000 in
theorem ppath_any (A : Option Addr) (cap n : Nat) (l : List Nm) (hn : n = l.length) (hz : Sized l) (i : Int) (w : World) (B : Nat) (hB : B ≤ w.heap.size) (hs : Nodes w B A l) :
    Calls Tryd.prog 16 #[.slice A n cap, .int .i64 i] w fun e w' => e = .returned (.tuple #[.string (pathS (dat l) i), .int .i64 (wrongF (dat l) i)]) ∧ Below w.heap.size w w' := by
  have hp := place_any A cap n l hn hz i w B hB hs
  by_cases h0 : wrongF (dat l) i = 0
  · obtain ⟨hf, h5, k, rfl, hk⟩ := wrong_zero h0
    have hkd := hk
    rw [dat_len, ← hn] at h5 hk
    have e0 : pathS (dat l) (k : Int) = pathB (dat l) k := by unfold pathS; rw [if_pos h0]; rfl
    rw [e0, h0]
    rw [h0] at hp
    have hin : ∀ w1, Below w.heap.size w w1 → Calls Tryd.prog 41 #[.slice A n cap, .int .i64 (k : Int)] w1 fun e w' => e = .returned (.string (pathB (dat l) k)) ∧ Below w1.heap.size w1 w' := fun w1 hb => ppath0_any A cap n l hn h5 hf k hk w1 B (Nat.le_trans hB hb.size) (hs.below (hb.mono hB))
    generalize pathB (dat l) k = V at *
    have HP := Lib.hid hp
    have HIN := Lib.hid hin
    clear hp hin hn hs hz hf h0 e0
    go_enter Tryd.func16, Tryd.ntmps16
    go_wp2_with (first
      | (go_at_call 40; refine HP.out.mono ?_; rintro e w1 ⟨rfl, hb1⟩; have HB1 := Lib.hid hb1; clear hb1)
      | (go_at_call 41; refine (HIN.out w1 HB1.out).mono ?_; rintro e w2 ⟨rfl, hb2⟩; have HB2 := Lib.hid (below_next HB1.out hb2); clear hb2))
    go_ret2
    exact ⟨rfl, HB2.out⟩
  · have e0 : pathS (dat l) i = ByteArray.empty := by unfold pathS; rw [if_neg h0]
    rw [e0]
    generalize wrongF (dat l) i = E at *
    have hE : (E != 0) = true := by simpa using h0
    have HP := Lib.hid hp
    clear hp hn hs hz e0
    go_enter Tryd.func16, Tryd.ntmps16
    go_wp2_with (first
      | (go_at_call 40; refine HP.out.mono ?_; rintro e w1 ⟨rfl, hb1⟩; have HB1 := Lib.hid hb1; clear hb1))
    go_ret2
    exact ⟨rfl, HB1.out⟩
set_option maxRecDepth 100000 in
set_option maxHeartbeats 2000000 in
theorem rpath_any (A : Option Addr) (cap n : Nat) (l : List Nm) (hn : n = l.length) (hz : Sized l) (i : Int) (w : World) (B : Nat) (hB : B ≤ w.heap.size) (hs : Nodes w B A l) :
    Calls Tryd.prog 17 #[.slice A n cap, .int .i64 i] w fun e w' => e = .returned (.tuple #[.string (pathS (dat l) i), .int .i64 (wrongF (dat l) i)]) ∧ Below w.heap.size w w' := by
  have hp := wrong_any A cap n l hn hz i w B hB hs
  by_cases h0 : wrongF (dat l) i = 0
  · obtain ⟨hf, h5, k, rfl, hk⟩ := wrong_zero h0
    have hkd := hk
    rw [dat_len, ← hn] at h5 hk
    have e0 : pathS (dat l) (k : Int) = pathB (dat l) k := by unfold pathS; rw [if_pos h0]; rfl
    rw [e0, h0]
    rw [h0] at hp
    have hin : ∀ w1, Below w.heap.size w w1 → Calls Tryd.prog 30 #[.slice A n cap, .int .i64 (k : Int)] w1 fun e w' => e = .returned (.string (pathB (dat l) k)) ∧ Below w1.heap.size w1 w' := fun w1 hb => (pathof_any A cap n l hn h5 hf k hk w1 B (Nat.le_trans hB hb.size) (hs.below (hb.mono hB))).mono fun e w' ⟨s, h1, h2, h3⟩ => ⟨by rw [h1, path_bytes (h2.trans (pathD_eq hf hkd))], h3⟩
    generalize pathB (dat l) k = V at *
    have HP := Lib.hid hp
    have HIN := Lib.hid hin
    clear hp hin hn hs hz hf h0 e0
    go_enter Tryd.func17, Tryd.ntmps17
    go_wp2_with (first
      | (go_at_call 42; refine HP.out.mono ?_; rintro e w1 ⟨rfl, hb1⟩; have HB1 := Lib.hid hb1; clear hb1)
      | (go_at_call 30; refine (HIN.out w1 HB1.out).mono ?_; rintro e w2 ⟨rfl, hb2⟩; have HB2 := Lib.hid (below_next HB1.out hb2); clear hb2))
    go_ret2
    exact ⟨rfl, HB2.out⟩
  · have e0 : pathS (dat l) i = ByteArray.empty := by unfold pathS; rw [if_neg h0]
    rw [e0]
    generalize wrongF (dat l) i = E at *
    have hE : (E != 0) = true := by simpa using h0
    have HP := Lib.hid hp
    clear hp hn hs hz e0
    go_enter Tryd.func17, Tryd.ntmps17
    go_wp2_with (first
      | (go_at_call 42; refine HP.out.mono ?_; rintro e w1 ⟨rfl, hb1⟩; have HB1 := Lib.hid hb1; clear hb1))
    go_ret2
    exact ⟨rfl, HB1.out⟩
set_option maxRecDepth 100000 in
set_option maxHeartbeats 2000000 in
theorem pend_any (A : Option Addr) (cap n : Nat) (l : List Nm) (hn : n = l.length) (hz : Sized l) (i : Int) (w : World) (B : Nat) (hB : B ≤ w.heap.size) (hs : Nodes w B A l) :
    Calls Tryd.prog 22 #[.slice A n cap, .int .i64 i] w fun e w' => e = .returned (.tuple #[.int .i64 (endI (dat l) i), .int .i64 (wrongF (dat l) i)]) ∧ Below w.heap.size w w' := by
  have hp := place_any A cap n l hn hz i w B hB hs
  by_cases h0 : wrongF (dat l) i = 0
  · obtain ⟨hf, h5, k, rfl, hk⟩ := wrong_zero h0
    have hkd := hk
    rw [dat_len, ← hn] at h5 hk
    have e0 : endI (dat l) (k : Int) = ((endN (dat l) k : Nat) : Int) := by unfold endI; rw [if_pos h0]; rfl
    rw [e0, h0]
    rw [h0] at hp
    have hin : ∀ w1, Below w.heap.size w w1 → Calls Tryd.prog 45 #[.slice A n cap, .int .i64 (k : Int)] w1 fun e w' => e = .returned (.int .i64 (((endN (dat l) k : Nat) : Int))) ∧ Below w1.heap.size w1 w' := fun w1 hb => end_any A cap n l hn h5 k _ (endN_at hkd) w1 B (Nat.le_trans hB hb.size) (hs.below (hb.mono hB))
    generalize ((endN (dat l) k : Nat) : Int) = V at *
    have HP := Lib.hid hp
    have HIN := Lib.hid hin
    clear hp hin hn hs hz hf h0 e0
    go_enter Tryd.func22, Tryd.ntmps22
    go_wp2_with (first
      | (go_at_call 40; refine HP.out.mono ?_; rintro e w1 ⟨rfl, hb1⟩; have HB1 := Lib.hid hb1; clear hb1)
      | (go_at_call 45; refine (HIN.out w1 HB1.out).mono ?_; rintro e w2 ⟨rfl, hb2⟩; have HB2 := Lib.hid (below_next HB1.out hb2); clear hb2))
    go_ret2
    exact ⟨rfl, HB2.out⟩
  · have e0 : endI (dat l) i = 0 := by unfold endI; rw [if_neg h0]
    rw [e0]
    generalize wrongF (dat l) i = E at *
    have hE : (E != 0) = true := by simpa using h0
    have HP := Lib.hid hp
    clear hp hn hs hz e0
    go_enter Tryd.func22, Tryd.ntmps22
    go_wp2_with (first
      | (go_at_call 40; refine HP.out.mono ?_; rintro e w1 ⟨rfl, hb1⟩; have HB1 := Lib.hid hb1; clear hb1))
    go_ret2
    exact ⟨rfl, HB1.out⟩
set_option maxRecDepth 100000 in
set_option maxHeartbeats 2000000 in
theorem rend2_any (A : Option Addr) (cap n : Nat) (l : List Nm) (hn : n = l.length) (hz : Sized l) (i : Int) (w : World) (B : Nat) (hB : B ≤ w.heap.size) (hs : Nodes w B A l) :
    Calls Tryd.prog 23 #[.slice A n cap, .int .i64 i] w fun e w' => e = .returned (.tuple #[.int .i64 (endI (dat l) i), .int .i64 (wrongF (dat l) i)]) ∧ Below w.heap.size w w' := by
  have hp := wrong_any A cap n l hn hz i w B hB hs
  by_cases h0 : wrongF (dat l) i = 0
  · obtain ⟨hf, h5, k, rfl, hk⟩ := wrong_zero h0
    have hkd := hk
    rw [dat_len, ← hn] at h5 hk
    have e0 : endI (dat l) (k : Int) = ((endN (dat l) k : Nat) : Int) := by unfold endI; rw [if_pos h0]; rfl
    rw [e0, h0]
    rw [h0] at hp
    have hin : ∀ w1, Below w.heap.size w w1 → Calls Tryd.prog 46 #[.slice A n cap, .int .i64 (k : Int)] w1 fun e w' => e = .returned (.int .i64 (((endN (dat l) k : Nat) : Int))) ∧ Below w1.heap.size w1 w' := fun w1 hb => rend_any A cap n l hn h5 hf k _ (endN_at hkd) w1 B (Nat.le_trans hB hb.size) (hs.below (hb.mono hB))
    generalize ((endN (dat l) k : Nat) : Int) = V at *
    have HP := Lib.hid hp
    have HIN := Lib.hid hin
    clear hp hin hn hs hz hf h0 e0
    go_enter Tryd.func23, Tryd.ntmps23
    go_wp2_with (first
      | (go_at_call 42; refine HP.out.mono ?_; rintro e w1 ⟨rfl, hb1⟩; have HB1 := Lib.hid hb1; clear hb1)
      | (go_at_call 46; refine (HIN.out w1 HB1.out).mono ?_; rintro e w2 ⟨rfl, hb2⟩; have HB2 := Lib.hid (below_next HB1.out hb2); clear hb2))
    go_ret2
    exact ⟨rfl, HB2.out⟩
  · have e0 : endI (dat l) i = 0 := by unfold endI; rw [if_neg h0]
    rw [e0]
    generalize wrongF (dat l) i = E at *
    have hE : (E != 0) = true := by simpa using h0
    have HP := Lib.hid hp
    clear hp hn hs hz e0
    go_enter Tryd.func23, Tryd.ntmps23
    go_wp2_with (first
      | (go_at_call 42; refine HP.out.mono ?_; rintro e w1 ⟨rfl, hb1⟩; have HB1 := Lib.hid hb1; clear hb1))
    go_ret2
    exact ⟨rfl, HB1.out⟩
set_option maxRecDepth 100000 in
set_option maxHeartbeats 2000000 in
theorem rdepth_any (A : Option Addr) (cap n : Nat) (l : List Nm) (hn : n = l.length) (hz : Sized l) (i : Int) (w : World) (B : Nat) (hB : B ≤ w.heap.size) (hs : Nodes w B A l) :
    Calls Tryd.prog 19 #[.slice A n cap, .int .i64 i] w fun e w' => e = .returned (.tuple #[.int .i64 (depthI (dat l) i), .int .i64 (wrongF (dat l) i)]) ∧ Below w.heap.size w w' := by
  have hp := wrong_any A cap n l hn hz i w B hB hs
  by_cases h0 : wrongF (dat l) i = 0
  · obtain ⟨hf, h5, k, rfl, hk⟩ := wrong_zero h0
    have hkd := hk
    rw [dat_len, ← hn] at h5 hk
    have e0 : depthI (dat l) (k : Int) = (((above (dat l) k).length : Nat) : Int) := by unfold depthI; rw [if_pos h0]
    rw [e0, h0]
    rw [h0] at hp
    have hin : ∀ w1, Below w.heap.size w w1 → Calls Tryd.prog 43 #[.slice A n cap, .int .i64 (k : Int)] w1 fun e w' => (∃ A' c', e = .returned (.slice A' (above (dat l) k).length c')) ∧ Below w1.heap.size w1 w' := fun w1 hb => (above_any A cap n n l hn k w1 B (Nat.le_trans hB hb.size) (hs.below (hb.mono hB)) (by rw [hn, ← dat_len]; exact hf) (Nat.le_refl _) (by omega) (by omega)).mono fun e w' ⟨A', c', h1, _, h3⟩ => ⟨⟨A', c', h1⟩, h3⟩
    generalize (above (dat l) k).length = V at *
    have HP := Lib.hid hp
    have HIN := Lib.hid hin
    clear hp hin hn hs hz hf h0 e0
    go_enter Tryd.func19, Tryd.ntmps19
    go_wp2_with (first
      | (go_at_call 42; refine HP.out.mono ?_; rintro e w1 ⟨rfl, hb1⟩; have HB1 := Lib.hid hb1; clear hb1)
      | (go_at_call 43; refine (HIN.out w1 HB1.out).mono ?_; rintro e w2 ⟨⟨A', c', rfl⟩, hb2⟩; have HB2 := Lib.hid (below_next HB1.out hb2); clear hb2))
    go_ret2
    exact ⟨rfl, HB2.out⟩
  · have e0 : depthI (dat l) i = 0 := by unfold depthI; rw [if_neg h0]
    rw [e0]
    generalize wrongF (dat l) i = E at *
    have hE : (E != 0) = true := by simpa using h0
    have HP := Lib.hid hp
    clear hp hn hs hz e0
    go_enter Tryd.func19, Tryd.ntmps19
    go_wp2_with (first
      | (go_at_call 42; refine HP.out.mono ?_; rintro e w1 ⟨rfl, hb1⟩; have HB1 := Lib.hid hb1; clear hb1))
    go_ret2
    exact ⟨rfl, HB1.out⟩
theorem above_down {l : List Nd} (hf : Fine l l.length) {k : Nat} (hk : k < l.length) : (above l k).length = (above l (parAt l k)).length + 1 := by
  rw [above_step hf (Nat.le_refl _) hk]; rfl
set_option maxRecDepth 100000 in
set_option maxHeartbeats 2000000 in
theorem pdepth_any (A : Option Addr) (cap n : Nat) (l : List Nm) (hn : n = l.length) (hz : Sized l) (i : Int) (w : World) (B : Nat) (hB : B ≤ w.heap.size) (hs : Nodes w B A l) :
    Calls Tryd.prog 18 #[.slice A n cap, .int .i64 i] w fun e w' => e = .returned (.tuple #[.int .i64 (depthI (dat l) i), .int .i64 (wrongF (dat l) i)]) ∧ Below w.heap.size w w' := by
  have hp := place_any A cap n l hn hz i w B hB hs
  by_cases h0 : wrongF (dat l) i = 0
  · obtain ⟨hf, h5, k, rfl, hk⟩ := wrong_zero h0
    have hal := above_len hf (Nat.le_refl _) k hk
    have e0 : depthI (dat l) (k : Int) = ((above (dat l) k).length : Nat) := by unfold depthI; rw [if_pos h0]
    rw [e0, h0]
    rw [h0] at hp
    have hdn : ∀ j : Nat, j < l.length → (above (dat l) j).length = (above (dat l) (parAt (dat l) j)).length + 1 ∧ -1 ≤ parAt (dat l) j ∧ parAt (dat l) j < j := fun j hj => by
      have hj2 : j < (dat l).length := by rw [dat_len]; exact hj
      have := fine_par hf hj2 hj2
      exact ⟨above_down hf hj2, this.2.1, this.1⟩
    rw [dat_len, ← hn] at h5 hk
    obtain ⟨D, hD⟩ : ∃ D, D = (above (dat l) k).length := ⟨_, rfl⟩
    have HD := Lib.hid hD
    rw [← hD] at hal ⊢
    have HP := Lib.hid hp
    have HDN := Lib.hid hdn
    have HN := Lib.hid hn
    have HS := Lib.hid hs
    clear hp hdn hn hs hz hf h0 e0 hD
    go_enter Tryd.func18, Tryd.ntmps18
    go_wp2_with (first
      | (go_at_call 40; refine HP.out.mono ?_; rintro e w1 ⟨rfl, hb1⟩; have HB1 := Lib.hid hb1; clear hb1))
    go_loop [1, 7] (fun xv mv => ∃ (x : Int) (m : Nat), -1 ≤ x ∧ x < n ∧ xv = .int .i64 x ∧ mv = .int .i64 (m : Int) ∧ m + (above (dat l) x).length = D) (fun xv _ => (intOf xv + 1).toNat)
    case atStart => exact ⟨k, 0, by omega, by omega, rfl, rfl, by rw [HD.out]; omega⟩
    case round =>
      obtain ⟨x, m, hx1, hx2, rfl, rfl, hm⟩ := hrel
      by_cases hx : 0 ≤ x
      · obtain ⟨j, rfl⟩ : ∃ j : Nat, x = (j : Int) := ⟨x.toNat, by omega⟩
        have hjl : j < l.length := by rw [← HN.out]; omega
        obtain ⟨b, off, eA, _, x0, _, _, _⟩ := (HS.out.below (HB1.out.mono hB)).at_ hjl
        subst eA
        obtain ⟨h1, h2, h3⟩ := HDN.out j hjl
        rw [h1] at hm
        rw [par_get l hjl] at hm h2 h3
        obtain ⟨p, hpp⟩ : ∃ p, p = l[j].d.p := ⟨_, rfl⟩
        rw [← hpp] at x0 hm h2 h3
        have HM := Lib.hid hm
        have hmd : m ≤ 513 := by omega
        clear hpp hm h1
        go_wp2_with fail
        exact ⟨⟨p, m + 1, h2, by omega, rfl, by go_num, by have := HM.out; omega⟩, by simp [intOf]; omega⟩
      · obtain rfl : x = -1 := by omega
        rw [above_neg _ (by omega)] at hm
        obtain rfl : m = D := by simpa using hm
        clear hm
        go_wp2_with fail
        go_ret2
        exact ⟨rfl, HB1.out⟩
  · have e0 : depthI (dat l) i = 0 := by unfold depthI; rw [if_neg h0]
    rw [e0]
    generalize wrongF (dat l) i = E at *
    have hE : (E != 0) = true := by simpa using h0
    have HP := Lib.hid hp
    clear hp hn hs hz e0
    go_enter Tryd.func18, Tryd.ntmps18
    go_wp2_with (first
      | (go_at_call 40; refine HP.out.mono ?_; rintro e w1 ⟨rfl, hb1⟩; have HB1 := Lib.hid hb1; clear hb1))
    go_ret2
    exact ⟨rfl, HB1.out⟩
end Go.Proofs.YtmdnbajbfnhecaaDoor
