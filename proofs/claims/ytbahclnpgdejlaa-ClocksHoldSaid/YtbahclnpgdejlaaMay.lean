/- The contract of may. -/
import Derived.Test.YtbahclnpgdejlaaClk
set_option linter.unusedVariables false
namespace Go.Proofs.Ytbahclnpgdejlaa
open Go.RowKit
theorem factor_any (n : Int) (w : World) : Calls Try.prog 47 #[.int .i64 n] w fun e w' => e = .returned (.bool (facB n)) ∧ w = w' := by
  go_enter Try.func47, Try.ntmps47
  go_wp2
  all_goals go_ret
  all_goals exact ⟨ret_bool (by unfold facB; simp; omega), rfl⟩
set_option maxHeartbeats 8000000 in
theorem may_any (A : Option Addr) (cap : Nat) (l : List Clk) (n : Nat) (hn : n = l.length) (w : World) (B : Nat) (hB : B ≤ w.heap.size) (hs : Seg w B A (clkCells l)) (hl : n ≤ 140737488351232) :
    Calls Try.prog 22 #[.slice A n cap] w fun e w' => e = .returned (.bool (mayB l)) ∧ Below w.heap.size w w' := by
  have Hn := Lib.hid hn
  clear hn
  go_enter Try.func22, Try.ntmps22
  go_wp2
  go_loopw [10] (fun i wr => ∃ k : Nat, k ≤ n ∧ i = .int .i64 k ∧ Below w.heap.size w wr ∧ ∀ j, j < k → okAt l j = true) (fun i _ => n - (intOf i).toNat)
  case atStart => exact ⟨0, by omega, rfl, Below.refl _ _, by omega⟩
  case round =>
    obtain ⟨k, hk, rfl, hb, hall⟩ := hrel
    have HA := Lib.hid hall
    have HB := Lib.hid hb
    have hsr := hs.below (hb.mono hB)
    clear hall hb
    by_cases hlt : k < n
    · have hkl : k < l.length := by rw [← Hn.out]; exact hlt
      obtain ⟨b, off, rfl, hbb, h0, h1, h2, h3, h4, h5, h6⟩ := hsr.clk hkl
      have hg := okAt_get l k hkl
      obtain ⟨c, hc⟩ : ∃ c, c = l[k] := ⟨_, rfl⟩
      rw [← hc] at h0 h1 h2 h3 h4 h5 h6 hg
      clear hc hsr hs
      obtain ⟨F, R, M, D, L, H, s⟩ := c
      dsimp only at h0 h1 h2 h3 h4 h5 h6 hg
      rcases hok : okAt l k
      · rw [hok] at hg
        have hw := ok_bad _ _ _ _ _ _ _ hg.symm
        have HK := Lib.hid hok
        clear hok hg
        rcases hw with ⟨_, _, _⟩ | ⟨_, _, _, _⟩ | ⟨_, _⟩ | ⟨_, _, _⟩ | ⟨_, _, _, _⟩ | ⟨_, _, _, _, _⟩ | ⟨_, _, _, _, _, _⟩ | ⟨_, _, _, _, _, _, _⟩ | ⟨_, _, _, _, _, _, _, _⟩ | ⟨_, _, _, _, _, _, _, _, _⟩ | ⟨_, _, _, _, _⟩ | ⟨_, _, _, _, _, _⟩ | ⟨_, _, _, _, _, _, _⟩ | ⟨_, _, _, _, _, _, _, _⟩ | ⟨_, _, _, _, _, _, _, _, _⟩
        all_goals go_wp2_with (go_at_call 47; refine (factor_any _ _).mono ?_; rintro e w' ⟨rfl, rfl⟩)
        all_goals go_ret
        all_goals exact ⟨ret_bool (mayB_bad hkl HK.out).symm, HB.out.alloc HB.out.size _⟩
      · rw [hok] at hg
        have hw := ok_good _ _ _ _ _ _ _ hg.symm
        have HK := Lib.hid hok
        clear hok hg
        rcases hw with ⟨_, _, _, _, _, _, _, _, _⟩ | ⟨_, _, _, _, _, _, _, _, _⟩
        all_goals go_wp2_with (go_at_call 47; refine (factor_any _ _).mono ?_; rintro e w' ⟨rfl, rfl⟩)
        all_goals go_roundw
        all_goals first
          | (case rel => exact ⟨k + 1, by omega, by go_num, HB.out.alloc HB.out.size _, fun j hj => if e : j = k then by rw [e]; exact HK.out else HA.out j (by omega)⟩)
          | (case measure => simp [intOf]; omega)
          | skip
    · obtain rfl : k = n := by omega
      have hm : mayB l = decide (((k : Nat) : Int) ≤ 512) := by
        have := mayB_all (l := l) (fun j hj => HA.out j (by rw [Hn.out]; exact hj))
        rw [this, ← Hn.out, decide_eq_decide]
        omega
      have HM := Lib.hid hm
      clear hm
      go_wp2
      go_ret
      exact ⟨ret_bool HM.out.symm, HB.out⟩
end Go.Proofs.Ytbahclnpgdejlaa
