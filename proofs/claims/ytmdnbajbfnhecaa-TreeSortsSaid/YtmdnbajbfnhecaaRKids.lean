/- The document's KidsOf: the contract. -/
import Derived.Test.YtmdnbajbfnhecaaSSort
set_option linter.unusedVariables false
namespace Go.Proofs.Ytmdnbajbfnhecaa
open Go.RowKit
def kidsU (l : List Nd) (i k : Nat) : List Nat := ((List.range k).drop (i + 1)).filter fun (j : Nat) => parAt l j == (i : Int)
theorem kidsU_start (l : List Nd) (i : Nat) : kidsU l i (i + 1) = [] := by
  unfold kidsU
  rw [List.drop_of_length_le (by simp)]
  rfl
theorem kidsU_step (l : List Nd) (i k : Nat) (h : i + 1 ≤ k) : kidsU l i (k + 1) = if parAt l k = (i : Int) then kidsU l i k ++ [k] else kidsU l i k := by
  unfold kidsU
  rw [List.range_succ, List.drop_append_of_le_length (by simpa using h), List.filter_append]
  by_cases hp : parAt l k = (i : Int)
  · rw [if_pos hp]; simp [hp]
  · rw [if_neg hp]; simp [hp]
theorem kidsU_len (l : List Nd) (i k : Nat) : (kidsU l i k).length ≤ k := by
  unfold kidsU
  refine Nat.le_trans (List.length_filter_le ..) ?_
  rw [List.length_drop, List.length_range]
  omega
theorem par_at {l : List Nm} {k : Nat} (hk : k < l.length) : parAt (dat l) k = l[k].d.p := by
  unfold parAt
  rw [Int.toNat_natCast, List.getElem?_eq_getElem (by rw [dat_len]; exact hk)]
  simp only [dat_get l hk]
set_option maxRecDepth 100000 in
set_option maxHeartbeats 2000000 in
theorem rkids_any (A : Option Addr) (cap n : Nat) (l : List Nm) (hn : n = l.length) (hn5 : n ≤ 512) (i : Nat) (hi : i < n) (w : World) (B : Nat) (hB : B ≤ w.heap.size) (hs : Nodes w B A l) :
    Calls Try.prog 51 #[.slice A n cap, .int .i64 i] w fun e w' => ∃ (A' : Option Addr) (m c' : Nat), e = .returned (.slice A' m c') ∧ m = (kidsN (dat l) i).length ∧ w'.ownsRow w.heap.size 3 1 (.slice A' m c') m (natsV (kidsN (dat l) i)) ∧ Below w.heap.size w w' := by
  obtain ⟨i0, fi, fz0, fz1, fz2⟩ := info_parts info3
  have HN := Lib.hid hn
  have HS := Lib.hid hs
  clear hn hs
  go_enter Try.func51, Try.ntmps51
  go_wp2_with fail
  go_loopw [6, 5] (fun kv ov wx => ∃ (k m c : Nat) (Ao : Option Addr), i + 1 ≤ k ∧ k ≤ n ∧ kv = .int .i64 k ∧ ov = .slice Ao m c ∧ m = (kidsU (dat l) i k).length ∧ wx.ownsRow w.heap.size 3 1 (.slice Ao m c) m (natsV (kidsU (dat l) i k)) ∧ Below w.heap.size w wx) (fun kv _ _ => n - (intOf kv).toNat)
  case atStart => exact ⟨i + 1, 0, 0, none, by omega, by omega, by go_num, rfl, by rw [kidsU_start]; rfl, by rw [kidsU_start]; exact World.ownsRow_nil _ _ _ _, Below.refl _ _⟩
  case round =>
    obtain ⟨k, m, c, Ao, hk1, hk, rfl, rfl, hm, hown, hb⟩ := hrel
    have hml := kidsU_len (dat l) i k
    rw [← hm] at hml
    have HM := Lib.hid hm
    have HO := Lib.hid hown
    have HB := Lib.hid hb
    by_cases hlt : k < n
    · have hkl : k < l.length := by rw [← HN.out]; exact hlt
      have hki : (k : Int) < (n : Int) := by omega
      obtain ⟨b, off, eA, hbB, x0, _, _, _⟩ := (HS.out.below (hb.mono hB)).at_ hkl
      subst eA
      have hst := kidsU_step (dat l) i k hk1
      rw [par_at hkl] at hst
      obtain ⟨p, hp⟩ : ∃ p, p = l[k].d.p := ⟨_, rfl⟩
      rw [← hp] at x0 hst
      clear hm hown hb hp
      by_cases hpi : p = (i : Int)
      · rw [if_pos hpi] at hst
        have HST := Lib.hid hst
        subst hpi
        clear hst
        have hb1 : w.heap.size ≤ wr.heap.size := HB.out.size
        go_wp2_with (first
          | (at_builtin; refine wpList_push rfl (.tmp 22) (.tmp 24) 41 rfl w.heap.size 3 i0 _ 1 8 Try.underlying41 fi fz0 fz1 fz2 rfl (by decide) _ m (natsV (kidsU (dat l) i k)) rfl HO.out #[.int .i64 (k : Int)] rfl rfl ?_ ?_ ?_ ?_ ?_))
        · first | rfl | (intro u hu; simp at hu; subst hu; rfl)
        · unfold maxLen; omega
        · omega
        · exact HB.out.size
        intro A5 c5 w5 hown5 hp5
        have ho : w5.ownsRow w.heap.size 3 1 (.slice A5 (m + 1) c5) (m + 1) (natsV (kidsU (dat l) i (k + 1))) := by
          rw [HST.out]
          have : natsV (kidsU (dat l) i k ++ [k]) = natsV (kidsU (dat l) i k) ++ [.int .i64 (k : Int)] := by unfold natsV; simp
          rw [this]
          simpa using hown5
        have hm5 : m + 1 = (kidsU (dat l) i (k + 1)).length := by rw [HST.out, List.length_append, ← HM.out]; rfl
        have HO5 := Lib.hid ho
        have HM5 := Lib.hid hm5
        have HB5 := Lib.hid (HB.out.trans hp5.low)
        clear hown5 hp5 ho hm5
        go_wp2_with fail
        exact ⟨⟨k + 1, m + 1, c5, A5, by omega, by omega, by go_num, rfl, HM5.out, HO5.out, HB5.out⟩, by simp [intOf]; omega⟩
      · rw [if_neg hpi] at hst
        have HST := Lib.hid hst
        clear hst
        have hp1 : (p == (i : Int)) = false := by simpa using hpi
        go_wp2_with fail
        exact ⟨⟨k + 1, m, c, Ao, by omega, by omega, by go_num, rfl, by rw [HST.out]; exact HM.out, by rw [HST.out]; exact HO.out, HB.out⟩, by simp [intOf]; omega⟩
    · obtain rfl : k = n := by omega
      have hf0 : ¬ (k : Int) < (k : Int) := by omega
      have he : kidsU (dat l) i k = kidsN (dat l) i := by unfold kidsU kidsN; rw [dat_len, ← HN.out]
      rw [he] at hm hown
      have HM2 := Lib.hid hm
      have HO2 := Lib.hid hown
      clear hm hown hb
      go_wp2_with fail
      go_ret
      exact ⟨Ao, m, c, rfl, HM2.out, HO2.out, HB.out⟩
end Go.Proofs.Ytmdnbajbfnhecaa
