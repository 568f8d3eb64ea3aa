/- The document's has and above: the contracts. -/
import Derived.Test.YtmdnbajbfnhecaaDoorName
import Derived.Test.YtmdnbajbfnhecaaDoorPush
set_option linter.unusedVariables false
namespace Go.Proofs.YtmdnbajbfnhecaaDoor
open Go.RowKit
theorem Tryd.info3 : (Tryd.prog.info? 3).map (fun i => (i.zero, i.size, i.bytes)) = some (some (.int .i64 0), 1, 8) := by kernel_rfl
theorem contains_take (zs : List Int) (k : Nat) (x : Int) (h : k < zs.length) : (zs.take (k + 1)).contains x = ((zs.take k).contains x || (zs[k] == x)) := by
  rw [List.take_succ_eq_append_getElem h, Bool.eq_iff_iff]
  simp only [List.contains_iff_mem, List.mem_append, List.mem_singleton, Bool.or_eq_true, beq_iff_eq]
  exact or_congr Iff.rfl eq_comm
theorem contains_hit (zs : List Int) (k : Nat) (x : Int) (h : k < zs.length) (e : zs[k] = x) : zs.contains x = true := by
  rw [List.contains_iff_mem, ← e]
  exact List.getElem_mem h
theorem has_any (A : Option Addr) (c n : Nat) (zs : List Int) (hn : n = zs.length) (hl : n ≤ 2513169434843) (x : Int) (w : World) (B : Nat) (hs : Seg w B A (i64s zs)) :
    Calls Tryd.prog 72 #[.slice A n c, .int .i64 x] w fun e w' => e = .returned (.bool (zs.contains x)) ∧ w = w' := by
  obtain ⟨r, hr⟩ : ∃ r, r = zs.contains x := ⟨_, rfl⟩
  rw [← hr]
  have HR := Lib.hid hr
  have HN := Lib.hid hn
  have HS := Lib.hid hs
  clear hn hs hr
  go_enter Tryd.func72, Tryd.ntmps72
  go_wp2
  go_loop [5] (fun i => ∃ k : Nat, k ≤ n ∧ i = .int .i64 k ∧ (zs.take k).contains x = false) (fun i => n - (intOf i).toNat)
  case atStart => exact ⟨0, by omega, rfl, by simp⟩
  case round =>
    obtain ⟨k, hk, rfl, hz⟩ := hrel
    have HZ := Lib.hid hz
    clear hz
    by_cases hlt : k < n
    · have hkz : k < zs.length := by rw [← HN.out]; exact hlt
      obtain ⟨b, off, rfl, _, hc⟩ := HS.out.i64 hkz
      have hst := contains_take zs k x hkz
      have hhit := contains_hit zs k x hkz
      have hki : (k : Int) < (n : Int) := by omega
      generalize zs[k] = y at *
      have HST := Lib.hid hst
      have HH := Lib.hid hhit
      clear hst hhit
      by_cases hyx : y = x
      · have e1 : (y == x) = true := by simpa using hyx
        have hcc := HH.out hyx
        have HCC := Lib.hid hcc
        clear hyx hcc
        go_wp2
        go_ret
        obtain rfl : r = true := by rw [HR.out, HCC.out]
        exact ⟨rfl, rfl⟩
      · have e1 : (y == x) = false := by simpa using hyx
        have hcc : (zs.take (k + 1)).contains x = false := by rw [HST.out, HZ.out, e1]; rfl
        have HCC := Lib.hid hcc
        clear hyx hcc
        go_wp2
        go_round
        case rel => exact ⟨k + 1, by omega, by go_num, HCC.out⟩
        case measure => simp [intOf]; omega
    · obtain rfl : k = n := by omega
      go_wp2
      go_ret
      have h3 := HZ.out
      rw [List.take_of_length_le (by rw [← HN.out]; exact Nat.le_refl _)] at h3
      obtain rfl : r = false := by rw [HR.out, h3]
      exact ⟨rfl, rfl⟩
theorem par_get (l : List Nm) {k : Nat} (hk : k < l.length) : parAt (dat l) k = l[k].d.p := by
  unfold parAt
  rw [Int.toNat_natCast, List.getElem?_eq_getElem (by rw [dat_len]; exact hk)]
  simp [dat]
set_option maxRecDepth 100000 in
set_option maxHeartbeats 2000000 in
theorem above_any (A : Option Addr) (cap n m : Nat) (l : List Nm) (hn : n = l.length) (i : Int) (w : World) (B : Nat) (hB : B ≤ w.heap.size) (hs : Nodes w B A l) (hf : Fine (dat l) m) (hm : m ≤ n) (hi : i < m) (h5 : m ≤ 1000) :
    Calls Tryd.prog 43 #[.slice A n cap, .int .i64 i] w fun e w' => ∃ A' c', e = .returned (.slice A' (above (dat l) i).length c') ∧ w'.ownsRow w.heap.size 3 1 (.slice A' (above (dat l) i).length c') (above (dat l) i).length (i64s (above (dat l) i)) ∧ Below w.heap.size w w' := by
  obtain ⟨i0, fi, fz0, fz1, fz2⟩ := info_parts Tryd.info3
  have HN := Lib.hid hn
  have HS := Lib.hid hs
  have HF := Lib.hid hf
  have hml : m ≤ (dat l).length := by rw [dat_len, ← hn]; exact hm
  have hab : (above (dat l) i).length ≤ m := by
    by_cases h0 : i < 0
    · rw [above_neg _ h0]; simp
    · obtain ⟨k, rfl⟩ := Int.eq_ofNat_of_zero_le (show 0 ≤ i by omega)
      have := above_len hf hml k (by omega)
      omega
  have HML := Lib.hid hml
  have HAB := Lib.hid hab
  clear hn hs hf hml hab
  go_enter Tryd.func43, Tryd.ntmps43
  go_wp2
  go_loopw [1, 5] (fun iv ov wr => ∃ (j : Int) (done : List Int) (Ao : Option Addr) (co : Nat), j < m ∧ iv = .int .i64 j ∧ done ++ above (dat l) j = above (dat l) i ∧ ov = .slice Ao done.length co ∧ wr.ownsRow w.heap.size 3 1 ov done.length (i64s done) ∧ Below w.heap.size w wr) (fun iv _ _ => (intOf iv + 1).toNat)
  case atStart => exact ⟨i, [], none, 0, hi, rfl, rfl, rfl, World.ownsRow_nil _ _ _ _, Below.refl _ _⟩
  case round =>
    obtain ⟨j, done, Ao, co, hj, rfl, hd, rfl, hown, hb⟩ := hrel
    have HD := Lib.hid hd
    have HO := Lib.hid hown
    have HB := Lib.hid hb
    clear hd hown hb
    by_cases h0 : j < 0
    · have e1 : decide (0 ≤ j) = false := by simpa using h0
      have e2 := HD.out
      rw [above_neg _ h0, List.append_nil] at e2
      have E2 := Lib.hid e2
      clear e2
      go_wp2
      go_ret
      rw [← E2.out]
      exact ⟨Ao, co, rfl, HO.out, HB.out⟩
    · obtain ⟨k, rfl⟩ := Int.eq_ofNat_of_zero_le (show 0 ≤ j by omega)
      have hkn : k < n := by omega
      have hkm : k < m := by omega
      have hkl : k < l.length := by rw [← HN.out]; exact hkn
      have hst := above_step HF.out HML.out hkm
      rw [par_get l hkl] at hst
      have hdl : done.length < (above (dat l) i).length := by rw [← HD.out, hst]; simp
      have hdm : done.length < m := Nat.lt_of_lt_of_le hdl HAB.out
      have hpar := fine_par HF.out hkm (by rw [dat_len, ← HN.out]; exact hkn)
      rw [par_get l hkl] at hpar
      obtain ⟨hp1, hp2, _⟩ := hpar
      have hd2 : done ++ [(k : Int)] ++ above (dat l) l[k].d.p = above (dat l) i := by rw [List.append_assoc, List.singleton_append, ← hst]; exact HD.out
      obtain ⟨p, hp⟩ : ∃ p, p = l[k].d.p := ⟨_, rfl⟩
      rw [← hp] at hp1 hp2 hd2
      have HD2 := Lib.hid hd2
      have HP := Lib.hid hp
      have hki : (k : Int) < (n : Int) := by omega
      clear hst hdl hd2 HD hp h0
      have hdn : Nat.succ done.length ≤ 1000 := by omega
      go_wp2_with (at_builtin; refine wpList_push rfl (.tmp 8) (.tmp 10) 34 rfl w.heap.size 3 i0 _ 1 8 Tryd.underlying34 fi fz0 fz1 fz2 rfl (by decide) _ done.length (i64s done) rfl HO.out #[.int .i64 k] rfl rfl ?_ ?_ ?_ ?_ ?_)
      · first | rfl | (intro u hu; simp at hu; subst hu; rfl)
      · unfold maxLen; omega
      · omega
      · exact HB.out.size
      intro A3 c3 w3 hown3 hp3
      have hb3 := HB.out.trans hp3.low
      rw [show i64s done ++ (#[Value.int .i64 (k : Int)]).toList = i64s (done ++ [(k : Int)]) from i64s_snoc _ _] at hown3
      obtain ⟨b0, off0, rfl, _, x0, _⟩ := (HS.out.below (hb3.mono hB)).at_ hkl
      rw [← HP.out] at x0
      have hl3 : done.length + 1 = (done ++ [(k : Int)]).length := by simp
      rw [hl3] at hown3
      have H3 := Lib.hid hown3
      have HB3 := Lib.hid hb3
      have HL3 := Lib.hid hl3
      clear hown3 hp3 hb3 hl3
      go_wp2
      exact ⟨⟨p, done ++ [(k : Int)], A3, c3, by omega, rfl, HD2.out, by rw [HL3.out], by rw [HL3.out]; exact H3.out, HB3.out⟩, by simp [intOf]; omega⟩
end Go.Proofs.YtmdnbajbfnhecaaDoor
