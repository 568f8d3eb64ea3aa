/- A node's kids: the contracts of both sides. -/
import Derived.Test.YtmdnbajbfnhecaaDoorAW
set_option linter.unusedVariables false
namespace Go.Proofs.YtmdnbajbfnhecaaDoor
open Go.RowKit
def kidsN (l : List Nd) (i : Nat) : List Nat := ((List.range l.length).drop (i + 1)).filter fun (j : Nat) => parAt l j == (i : Int)
def natsV (l : List Nat) : List Value := l.map fun (k : Nat) => .int .i64 (k : Int)
def kidsU (l : List Nd) (i k : Nat) : List Nat := ((List.range k).drop (i + 1)).filter fun (j : Nat) => parAt l j == (i : Int)
theorem kidsU_start (l : List Nd) (i : Nat) : kidsU l i (i + 1) = [] := by
  unfold kidsU
  rw [List.drop_of_length_le (by simp)]
  rfl
theorem kidsU_step (l : List Nd) (i k : Nat) (h : i + 1 ≤ k) : kidsU l i (k + 1) = if parAt l k = (i : Int) then kidsU l i k ++ [k] else kidsU l i k := by
  unfold kidsU
  rw [List.range_succ, List.drop_append_of_le_length (by simpa using h), List.filter_append]
  by_cases hp : parAt l k = (i : Int)
  · rw [if_pos hp]; simp [hp]
  · rw [if_neg hp]; simp [hp]
theorem kidsU_len (l : List Nd) (i k : Nat) : (kidsU l i k).length ≤ k := by
  unfold kidsU
  refine Nat.le_trans (List.length_filter_le ..) ?_
  rw [List.length_drop, List.length_range]
  omega
set_option maxRecDepth 100000 in
set_option maxHeartbeats 2000000 in
theorem rkids_any (A : Option Addr) (cap n : Nat) (l : List Nm) (hn : n = l.length) (hn5 : n ≤ 512) (i : Nat) (hi : i < n) (w : World) (B : Nat) (hB : B ≤ w.heap.size) (hs : Nodes w B A l) :
    Calls Tryd.prog 44 #[.slice A n cap, .int .i64 i] w fun e w' => ∃ (A' : Option Addr) (m c' : Nat), e = .returned (.slice A' m c') ∧ m = (kidsN (dat l) i).length ∧ w'.ownsRow w.heap.size 3 1 (.slice A' m c') m (natsV (kidsN (dat l) i)) ∧ Below w.heap.size w w' := by
  obtain ⟨i0, fi, fz0, fz1, fz2⟩ := info_parts Tryd.info3
  have HN := Lib.hid hn
  have HS := Lib.hid hs
  clear hn hs
  go_enter Tryd.func44, Tryd.ntmps44
  go_wp2_with fail
  go_loopw [6, 5] (fun kv ov wx => ∃ (k m c : Nat) (Ao : Option Addr), i + 1 ≤ k ∧ k ≤ n ∧ kv = .int .i64 k ∧ ov = .slice Ao m c ∧ m = (kidsU (dat l) i k).length ∧ wx.ownsRow w.heap.size 3 1 (.slice Ao m c) m (natsV (kidsU (dat l) i k)) ∧ Below w.heap.size w wx) (fun kv _ _ => n - (intOf kv).toNat)
  case atStart => exact ⟨i + 1, 0, 0, none, by omega, by omega, by go_num, rfl, by rw [kidsU_start]; rfl, by rw [kidsU_start]; exact World.ownsRow_nil _ _ _ _, Below.refl _ _⟩
  case round =>
    obtain ⟨k, m, c, Ao, hk1, hk, rfl, rfl, hm, hown, hb⟩ := hrel
    have hml := kidsU_len (dat l) i k
    rw [← hm] at hml
    have HM := Lib.hid hm
    have HO := Lib.hid hown
    have HB := Lib.hid hb
    by_cases hlt : k < n
    · have hkl : k < l.length := by rw [← HN.out]; exact hlt
      have hki : (k : Int) < (n : Int) := by omega
      obtain ⟨b, off, eA, hbB, x0, _, _, _⟩ := (HS.out.below (hb.mono hB)).at_ hkl
      subst eA
      have hst := kidsU_step (dat l) i k hk1
      rw [par_get l hkl] at hst
      obtain ⟨p, hp⟩ : ∃ p, p = l[k].d.p := ⟨_, rfl⟩
      rw [← hp] at x0 hst
      clear hm hown hb hp
      by_cases hpi : p = (i : Int)
      · rw [if_pos hpi] at hst
        have HST := Lib.hid hst
        subst hpi
        clear hst
        have hb1 : w.heap.size ≤ wr.heap.size := HB.out.size
        go_wp2_with (first
          | (at_builtin; refine wpList_push rfl (.tmp 22) (.tmp 24) 34 rfl w.heap.size 3 i0 _ 1 8 Tryd.underlying34 fi fz0 fz1 fz2 rfl (by decide) _ m (natsV (kidsU (dat l) i k)) rfl HO.out #[.int .i64 (k : Int)] rfl rfl ?_ ?_ ?_ ?_ ?_))
        · first | rfl | (intro u hu; simp at hu; subst hu; rfl)
        · unfold maxLen; omega
        · omega
        · exact HB.out.size
        intro A5 c5 w5 hown5 hp5
        have ho : w5.ownsRow w.heap.size 3 1 (.slice A5 (m + 1) c5) (m + 1) (natsV (kidsU (dat l) i (k + 1))) := by
          rw [HST.out]
          have : natsV (kidsU (dat l) i k ++ [k]) = natsV (kidsU (dat l) i k) ++ [.int .i64 (k : Int)] := by unfold natsV; simp
          rw [this]
          simpa using hown5
        have hm5 : m + 1 = (kidsU (dat l) i (k + 1)).length := by rw [HST.out, List.length_append, ← HM.out]; rfl
        have HO5 := Lib.hid ho
        have HM5 := Lib.hid hm5
        have HB5 := Lib.hid (HB.out.trans hp5.low)
        clear hown5 hp5 ho hm5
        go_wp2_with fail
        exact ⟨⟨k + 1, m + 1, c5, A5, by omega, by omega, by go_num, rfl, HM5.out, HO5.out, HB5.out⟩, by simp [intOf]; omega⟩
      · rw [if_neg hpi] at hst
        have HST := Lib.hid hst
        clear hst
        have hp1 : (p == (i : Int)) = false := by simpa using hpi
        go_wp2_with fail
        exact ⟨⟨k + 1, m, c, Ao, by omega, by omega, by go_num, rfl, by rw [HST.out]; exact HM.out, by rw [HST.out]; exact HO.out, HB.out⟩, by simp [intOf]; omega⟩
    · obtain rfl : k = n := by omega
      have hf0 : ¬ (k : Int) < (k : Int) := by omega
      have he : kidsU (dat l) i k = kidsN (dat l) i := by unfold kidsU kidsN; rw [dat_len, ← HN.out]
      rw [he] at hm hown
      have HM2 := Lib.hid hm
      have HO2 := Lib.hid hown
      clear hm hown hb
      go_wp2_with fail
      go_ret
      exact ⟨Ao, m, c, rfl, HM2.out, HO2.out, HB.out⟩
/-- A node's kids, if it is one. -/
def kidsV (l : List Nd) (i : Int) : List Nat := if wrongF l i = 0 then kidsN l i.toNat else []
theorem kidsN_le {l : List Nm} {i : Nat} : (kidsN (dat l) i).length ≤ l.length := by
  unfold kidsN
  refine Nat.le_trans (List.length_filter_le ..) ?_
  rw [List.length_drop, List.length_range, dat_len]
  omega
set_option maxRecDepth 100000 in
set_option maxHeartbeats 2000000 in
theorem pkids_any (A : Option Addr) (cap n : Nat) (l : List Nm) (hn : n = l.length) (hz : Sized l) (i0' : Int) (w : World) (B : Nat) (hB : B ≤ w.heap.size) (hs : Nodes w B A l) :
    Calls Tryd.prog 20 #[.slice A n cap, .int .i64 i0'] w fun e w' => (∃ (A' : Option Addr) (m c' : Nat), e = .returned (.tuple #[.slice A' m c', .int .i64 (wrongF (dat l) i0')]) ∧ m = (kidsV (dat l) i0').length ∧ w'.ownsRow w.heap.size 3 1 (.slice A' m c') m (natsV (kidsV (dat l) i0'))) ∧ Below w.heap.size w w' := by
  have hp := place_any A cap n l hn hz i0' w B hB hs
  by_cases h0 : wrongF (dat l) i0' = 0
  · obtain ⟨hf, h5, i, rfl, hi⟩ := wrong_zero h0
    rw [dat_len, ← hn] at h5 hi
    have e0 : kidsV (dat l) (i : Int) = kidsN (dat l) i := by unfold kidsV; rw [if_pos h0]; rfl
    rw [e0, h0]
    rw [h0] at hp
    obtain ⟨i0, fi, fz0, fz1, fz2⟩ := info_parts Tryd.info3
    have HP := Lib.hid hp
    have HN := Lib.hid hn
    have HS := Lib.hid hs
    have hn5 := h5
    clear hp hn hs hz hf h0 e0
    go_enter Tryd.func20, Tryd.ntmps20
    go_wp2_with (first
      | (go_at_call 40; refine HP.out.mono ?_; rintro e w1 ⟨rfl, hb1⟩; have HB1 := Lib.hid hb1; clear hb1))
    go_loopw [8, 7] (fun kv ov wx => ∃ (k m c : Nat) (Ao : Option Addr), i + 1 ≤ k ∧ k ≤ n ∧ kv = .int .i64 k ∧ ov = .slice Ao m c ∧ m = (kidsU (dat l) i k).length ∧ wx.ownsRow w.heap.size 3 1 (.slice Ao m c) m (natsV (kidsU (dat l) i k)) ∧ Below w.heap.size w wx) (fun kv _ _ => n - (intOf kv).toNat)
    case atStart => exact ⟨i + 1, 0, 0, none, by omega, by omega, by go_num, rfl, by rw [kidsU_start]; rfl, by rw [kidsU_start]; exact World.ownsRow_nil _ _ _ _, HB1.out⟩
    case round =>
      obtain ⟨k, m, c, Ao, hk1, hk, rfl, rfl, hm, hown, hb⟩ := hrel
      have hml := kidsU_len (dat l) i k
      rw [← hm] at hml
      have HM := Lib.hid hm
      have HO := Lib.hid hown
      have HB := Lib.hid hb
      by_cases hlt : k < n
      · have hkl : k < l.length := by rw [← HN.out]; exact hlt
        have hki : (k : Int) < (n : Int) := by omega
        obtain ⟨b, off, eA, hbB, x0, _, _, _⟩ := (HS.out.below (hb.mono hB)).at_ hkl
        subst eA
        have hst := kidsU_step (dat l) i k hk1
        rw [par_get l hkl] at hst
        obtain ⟨p, hp⟩ : ∃ p, p = l[k].d.p := ⟨_, rfl⟩
        rw [← hp] at x0 hst
        clear hm hown hb hp
        by_cases hpi : p = (i : Int)
        · rw [if_pos hpi] at hst
          have HST := Lib.hid hst
          subst hpi
          clear hst
          have hb1 : w.heap.size ≤ wr.heap.size := HB.out.size
          go_wp2_with (first
            | (at_builtin; refine wpList_push rfl (.tmp 30) (.tmp 32) 34 rfl w.heap.size 3 i0 _ 1 8 Tryd.underlying34 fi fz0 fz1 fz2 rfl (by decide) _ m (natsV (kidsU (dat l) i k)) rfl HO.out #[.int .i64 (k : Int)] rfl rfl ?_ ?_ ?_ ?_ ?_))
          · first | rfl | (intro u hu; simp at hu; subst hu; rfl)
          · unfold maxLen; omega
          · omega
          · exact HB.out.size
          intro A5 c5 w5 hown5 hp5
          have ho : w5.ownsRow w.heap.size 3 1 (.slice A5 (m + 1) c5) (m + 1) (natsV (kidsU (dat l) i (k + 1))) := by
            rw [HST.out]
            have : natsV (kidsU (dat l) i k ++ [k]) = natsV (kidsU (dat l) i k) ++ [.int .i64 (k : Int)] := by unfold natsV; simp
            rw [this]
            simpa using hown5
          have hm5 : m + 1 = (kidsU (dat l) i (k + 1)).length := by rw [HST.out, List.length_append, ← HM.out]; rfl
          have HO5 := Lib.hid ho
          have HM5 := Lib.hid hm5
          have HB5 := Lib.hid (HB.out.trans hp5.low)
          clear hown5 hp5 ho hm5
          go_wp2_with fail
          exact ⟨⟨k + 1, m + 1, c5, A5, by omega, by omega, by go_num, rfl, HM5.out, HO5.out, HB5.out⟩, by simp [intOf]; omega⟩
        · rw [if_neg hpi] at hst
          have HST := Lib.hid hst
          clear hst
          have hp1 : (p == (i : Int)) = false := by simpa using hpi
          go_wp2_with fail
          exact ⟨⟨k + 1, m, c, Ao, by omega, by omega, by go_num, rfl, by rw [HST.out]; exact HM.out, by rw [HST.out]; exact HO.out, HB.out⟩, by simp [intOf]; omega⟩
      · obtain rfl : k = n := by omega
        have hf0 : ¬ (k : Int) < (k : Int) := by omega
        have he : kidsU (dat l) i k = kidsN (dat l) i := by unfold kidsU kidsN; rw [dat_len, ← HN.out]
        rw [he] at hm hown
        have HM2 := Lib.hid hm
        have HO2 := Lib.hid hown
        clear hm hown hb
        go_wp2_with fail
        go_ret2
        exact ⟨⟨Ao, m, c, rfl, HM2.out, HO2.out⟩, HB.out⟩
  · have e0 : kidsV (dat l) i0' = [] := by unfold kidsV; rw [if_neg h0]
    rw [e0]
    generalize wrongF (dat l) i0' = E at *
    have hE : (E != 0) = true := by simpa using h0
    have HP := Lib.hid hp
    clear hp hn hs hz e0
    go_enter Tryd.func20, Tryd.ntmps20
    go_wp2_with (first
      | (go_at_call 40; refine HP.out.mono ?_; rintro e w1 ⟨rfl, hb1⟩; have HB1 := Lib.hid hb1; clear hb1))
    go_ret2
    exact ⟨⟨none, 0, 0, rfl, rfl, World.ownsRow_nil _ _ _ _⟩, HB1.out⟩
set_option maxRecDepth 100000 in
set_option maxHeartbeats 2000000 in
theorem rkids2_any (A : Option Addr) (cap n : Nat) (l : List Nm) (hn : n = l.length) (hz : Sized l) (i : Int) (w : World) (B : Nat) (hB : B ≤ w.heap.size) (hs : Nodes w B A l) :
    Calls Tryd.prog 21 #[.slice A n cap, .int .i64 i] w fun e w' => (∃ (A' : Option Addr) (m c' : Nat), e = .returned (.tuple #[.slice A' m c', .int .i64 (wrongF (dat l) i)]) ∧ m = (kidsV (dat l) i).length ∧ w'.ownsRow w.heap.size 3 1 (.slice A' m c') m (natsV (kidsV (dat l) i))) ∧ Below w.heap.size w w' := by
  have hp := wrong_any A cap n l hn hz i w B hB hs
  by_cases h0 : wrongF (dat l) i = 0
  · obtain ⟨hf, h5, k, rfl, hk⟩ := wrong_zero h0
    rw [dat_len, ← hn] at h5 hk
    have e0 : kidsV (dat l) (k : Int) = kidsN (dat l) k := by unfold kidsV; rw [if_pos h0]; rfl
    rw [e0, h0]
    rw [h0] at hp
    have hin : ∀ w1, Below w.heap.size w w1 → Calls Tryd.prog 44 #[.slice A n cap, .int .i64 (k : Int)] w1 fun e w' => ∃ (A' : Option Addr) (m c' : Nat), e = .returned (.slice A' m c') ∧ m = (kidsN (dat l) k).length ∧ w'.ownsRow w1.heap.size 3 1 (.slice A' m c') m (natsV (kidsN (dat l) k)) ∧ Below w1.heap.size w1 w' := fun w1 hb => rkids_any A cap n l hn h5 k hk w1 B (Nat.le_trans hB hb.size) (hs.below (hb.mono hB))
    generalize kidsN (dat l) k = V at *
    have HP := Lib.hid hp
    have HIN := Lib.hid hin
    clear hp hin hn hs hz hf h0 e0
    go_enter Tryd.func21, Tryd.ntmps21
    go_wp2_with (first
      | (go_at_call 42; refine HP.out.mono ?_; rintro e w1 ⟨rfl, hb1⟩; have HB1 := Lib.hid hb1; clear hb1)
      | (go_at_call 44; refine (HIN.out w1 HB1.out).mono ?_; rintro e w2 ⟨A', m, c', rfl, hm, ho, hb2⟩; have HB2 := Lib.hid (below_next HB1.out hb2); have HM := Lib.hid hm; have HO := Lib.hid (own_base ho HB1.out.size); clear hb2 hm ho))
    go_ret2
    exact ⟨⟨A', m, c', rfl, HM.out, HO.out⟩, HB2.out⟩
  · have e0 : kidsV (dat l) i = [] := by unfold kidsV; rw [if_neg h0]
    rw [e0]
    generalize wrongF (dat l) i = E at *
    have hE : (E != 0) = true := by simpa using h0
    have HP := Lib.hid hp
    clear hp hn hs hz e0
    go_enter Tryd.func21, Tryd.ntmps21
    go_wp2_with (first
      | (go_at_call 42; refine HP.out.mono ?_; rintro e w1 ⟨rfl, hb1⟩; have HB1 := Lib.hid hb1; clear hb1))
    go_ret2
    exact ⟨⟨none, 0, 0, rfl, rfl, World.ownsRow_nil _ _ _ _⟩, HB1.out⟩
end Go.Proofs.YtmdnbajbfnhecaaDoor
