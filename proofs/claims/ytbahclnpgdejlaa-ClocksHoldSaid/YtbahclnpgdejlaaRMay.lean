/- The document's May: the contract. -/
import Derived.Test.YtbahclnpgdejlaaSet
import Derived.Test.YtbahclnpgdejlaaOpenClk
set_option linter.unusedVariables false
namespace Go.Proofs.Ytbahclnpgdejlaa
open Go.RowKit
theorem okAt_no {l : List Clk} {k : Nat} {F R M D L H : Int} (h : okAt l k = okB F R M D L H k)
    (h2 : F < -1 ∨ (k : Int) ≤ F ∨ R < 0 ∨ 1099511627776 < R ∨ (0 ≤ F ∧ ¬ R = 0) ∨ M < 1 ∨ 65535 < M ∨ D < 1 ∨ 65535 < D ∨ L < 0 ∨ H < L ∨ 1099511627776 < H) : okAt l k = false := by
  rw [h]
  rcases hb : okB F R M D L H k with _ | _
  · rfl
  · simp [okB, facB] at hb
    omega
theorem okAt_yes {l : List Clk} {k : Nat} {F R M D L H : Int} (h : okAt l k = okB F R M D L H k)
    (h2 : -1 ≤ F ∧ F < k ∧ 0 ≤ R ∧ R ≤ 1099511627776 ∧ (F < 0 ∨ R = 0) ∧ 1 ≤ M ∧ M ≤ 65535 ∧ 1 ≤ D ∧ D ≤ 65535 ∧ 0 ≤ L ∧ L ≤ H ∧ H ≤ 1099511627776) : okAt l k = true := by
  rw [h]
  simp [okB, facB]
  omega
theorem no_in {F R M D L H k : Int} (h : (((F < -1 ∨ k ≤ F) ∨ R < 0) ∨ 1099511627776 < R) ∨ (R != 0) = true) (hF : 0 ≤ F) : F < -1 ∨ k ≤ F ∨ R < 0 ∨ 1099511627776 < R ∨ (0 ≤ F ∧ ¬ R = 0) ∨ M < 1 ∨ 65535 < M ∨ D < 1 ∨ 65535 < D ∨ L < 0 ∨ H < L ∨ 1099511627776 < H := by
  simp only [bne_iff_ne, ne_eq] at h; omega
theorem yes_in {F R M D L H k : Int} (h : (((-1 ≤ F ∧ F < k) ∧ 0 ≤ R) ∧ R ≤ 1099511627776) ∧ (R != 0) = false) (h2 : 1 ≤ M ∧ M ≤ 65535 ∧ 1 ≤ D ∧ D ≤ 65535 ∧ 0 ≤ L ∧ L ≤ H ∧ H ≤ 1099511627776) :
    -1 ≤ F ∧ F < k ∧ 0 ≤ R ∧ R ≤ 1099511627776 ∧ (F < 0 ∨ R = 0) ∧ 1 ≤ M ∧ M ≤ 65535 ∧ 1 ≤ D ∧ D ≤ 65535 ∧ 0 ≤ L ∧ L ≤ H ∧ H ≤ 1099511627776 := by
  simp only [bne_eq_false_iff_eq] at h; omega
set_option maxHeartbeats 8000000 in
theorem rmay_any (A : Option Addr) (cap : Nat) (l : List Clk) (n : Nat) (hn : n = l.length) (w : World) (B : Nat) (hB : B ≤ w.heap.size) (hs : Seg w B A (clkCells l)) (hl : n ≤ 140737488351232) :
    Calls Try.prog 32 #[.slice A n cap] w fun e w' => e = .returned (.bool (mayB l)) ∧ Below w.heap.size w w' := by
  have Hn := Lib.hid hn
  by_cases hbig : 512 < n
  · have hm : mayB l = false := by unfold mayB; rw [show decide (l.length ≤ 512) = false from decide_eq_false (by omega)]; rfl
    have HM := Lib.hid hm
    clear hn hm
    go_enter Try.func32, Try.ntmps32
    go_wp2
    go_ret
    exact ⟨ret_bool HM.out.symm, Below.refl _ _⟩
  clear hn
  go_enter Try.func32, Try.ntmps32
  go_wp2
  go_loopw [3] (fun i wr => ∃ k : Nat, k ≤ n ∧ i = .int .i64 k ∧ Below w.heap.size w wr ∧ ∀ j, j < k → okAt l j = true) (fun i _ => n - (intOf i).toNat)
  case atStart => exact ⟨0, by omega, rfl, Below.refl _ _, by omega⟩
  case round =>
    obtain ⟨k, hk, rfl, hb, hall⟩ := hrel
    have HA := Lib.hid hall
    have HB := Lib.hid hb
    have hsr := hs.below (hb.mono hB)
    clear hall hb
    by_cases hlt : k < n
    · have hkl : k < l.length := by rw [← Hn.out]; exact hlt
      obtain ⟨b, off, rfl, hbb, h0, h1, h2, h3, h4, h5, h6⟩ := hsr.clk hkl
      have hg := okAt_get l k hkl
      obtain ⟨c, hc⟩ : ∃ c, c = l[k] := ⟨_, rfl⟩
      rw [← hc] at h0 h1 h2 h3 h4 h5 h6 hg
      clear hc hsr hs
      obtain ⟨F, R, M, D, L, H, s⟩ := c
      dsimp only at h0 h1 h2 h3 h4 h5 h6 hg
      have HG := Lib.hid hg
      clear hg
      go_wp2
      all_goals first
        | (go_ret; exact ⟨ret_bool (mayB_bad hkl (okAt_no HG.out (by first | omega | exact no_in (by assumption) (by omega)))).symm, HB.out.alloc HB.out.size _⟩)
        | (go_roundw
           case rel => exact ⟨k + 1, by omega, by go_num, HB.out.alloc HB.out.size _, fun j hj => if e : j = k then by rw [e]; exact okAt_yes HG.out (by first | omega | exact yes_in (by assumption) (by omega)) else HA.out j (by omega)⟩
           case measure => simp [intOf]; omega)
        | (go_ways; sorry)
    · obtain rfl : k = n := by omega
      have hm : mayB l = true := mayB_iff.2 ⟨by rw [← Hn.out]; omega, fun j hj => HA.out j (by rw [Hn.out]; exact hj)⟩
      have HM := Lib.hid hm
      clear hm
      go_wp2
      go_ret
      exact ⟨ret_bool HM.out.symm, HB.out⟩
end Go.Proofs.Ytbahclnpgdejlaa
