/- Both nets side by side; what they tell of their clocks. -/
import Derived.Test.YtbahclnpgdejlaaSame
import Derived.Test.YtbahclnpgdejlaaPut
set_option linter.unusedVariables false
namespace Go.Proofs.Ytbahclnpgdejlaa
open Go.RowKit
/-- The program's net and the document's, side by side: the same clocks and users. -/
structure Both (w : World) (B nb n : Nat) (Ac Ar Au Ah : Option Addr) (cc cr cu ch rb : Nat) (Al Ru : Option Addr) (cl ru : Nat) (s : St) : Prop where
  net : NetAt w B nb n Ac Ar Au Ah cc cr cu ch s
  rnet : RNet w B rb n Al Ru cl ru s.l s.us
  inv : Inv s
  bal : Bal s.l (fun j => s.us.getD j 0) s.hs
  pos : ∀ j, 0 ≤ s.hs.getD j 0
  us0 : ∀ j, 0 ≤ s.us.getD j 0
  us1 : ∀ j, s.us.getD j 0 ≤ 65535
section
variable {w w' : World} {B nb n : Nat} {Ac Ar Au Ah : Option Addr} {cc cr cu ch rb : Nat} {Al Ru : Option Addr} {cl ru : Nat} {s : St}
theorem Both.below (h : Both w B nb n Ac Ar Au Ah cc cr cu ch rb Al Ru cl ru s) (hb : Below w.heap.size w w') : Both w' B nb n Ac Ar Au Ah cc cr cu ch rb Al Ru cl ru s :=
  ⟨h.net.below hb, h.rnet.below hb, h.inv, h.bal, h.pos, h.us0, h.us1⟩
theorem Both.n5 (h : Both w B nb n Ac Ar Au Ah cc cr cu ch rb Al Ru cl ru s) : n ≤ 512 := by rw [h.net.len]; exact (mayB_iff.1 h.inv.may).1
theorem Both.caps (h : Both w B nb n Ac Ar Au Ah cc cr cu ch rb Al Ru cl ru s) : capRates s.l = s.rs := by rw [h.inv.rates]; exact cap_rates h.inv.good h.inv.fit
set_option maxRecDepth 100000 in
set_option maxHeartbeats 4000000 in
theorem looks_any (h : Both w B nb n Ac Ar Au Ah cc cr cu ch rb Al Ru cl ru s) :
    Calls Try.prog 19 #[.pointer (some ⟨nb, 0, none⟩), .pointer (some ⟨rb, 0, none⟩)] w fun e w' => e = .returned (.bool true) ∧ Below w.heap.size w w' := by
  have hon := ron_any h.rnet h.inv.good h.n5 h.bal h.us0
  have hn5 := h.n5
  have HON := Lib.hid hon
  have HH := Lib.hid h
  clear hon h
  go_enter Try.func19, Try.ntmps19
  go_wp2_with (go_at_call 42; refine HON.out.mono ?_; rintro e w1 ⟨rfl, hrow, hb⟩; have HROW := Lib.hid hrow; have HB := Lib.hid hb; clear hrow hb)
  go_loopw [6] (fun iv wr => ∃ m : Nat, m ≤ n + 2 ∧ iv = .int .i64 ((m : Int) - 1) ∧ Below w1.heap.size w1 wr) (fun iv _ => (n + 1 - intOf iv).toNat)
  case atStart => exact ⟨0, by omega, rfl, Below.refl _ _⟩
  case round =>
    obtain ⟨m, hm, rfl, hb⟩ := hrel
    have HB2 := Lib.hid hb
    clear hb
    have hboth := HH.out.below (below_next HB.out HB2.out)
    rcases (show m = 0 ∨ (0 < m ∧ m ≤ n) ∨ m = n + 1 ∨ m = n + 2 by omega) with rfl | ⟨h0, h1⟩ | rfl | rfl
    · have r1 := prate_no hboth.net ((0 : Nat) - 1 : Int) (by omega)
      have r2 := rrate_no hboth.rnet ((0 : Nat) - 1 : Int) (by omega)
      have r3 := pon_no hboth.net ((0 : Nat) - 1 : Int) (by omega)
      have r4 := pusers_no hboth.net ((0 : Nat) - 1 : Int) (by omega)
      have e0 : (((0 : Nat) : Int) - 1) = -1 := rfl
      rw [e0] at r1 r2 r3 r4 ⊢
      have R1 := Lib.hid r1
      have R2 := Lib.hid r2
      have R3 := Lib.hid r3
      have R4 := Lib.hid r4
      clear r1 r2 r3 r4 hboth e0
      go_wp2_with (first
        | (go_at_call 28; refine R1.out.mono ?_; rintro e w' ⟨rfl, rfl⟩)
        | (go_at_call 43; refine R2.out.mono ?_; rintro e w' ⟨rfl, rfl⟩)
        | (go_at_call 13; refine R3.out.mono ?_; rintro e w' ⟨rfl, rfl⟩)
        | (go_at_call 15; refine R4.out.mono ?_; rintro e w' ⟨rfl, rfl⟩))
      exact ⟨⟨1, by omega, by simp, HB2.out⟩, by simp [intOf]; omega⟩
    · obtain ⟨k, rfl⟩ : ∃ k, m = k + 1 := ⟨m - 1, by omega⟩
      rw [show ((k + 1 : Nat) : Int) - 1 = (k : Int) by omega]
      have hkn : k < n := by omega
      have hkl : k < s.l.length := by rw [← hboth.net.len]; exact hkn
      have r1 := rate_ok hboth.net.c0 hboth.net.c1 hboth.net.vr.seg hkn hboth.net.lenr
      have r2 := rrate_ok hboth.rnet hboth.inv.good hn5 hkn
      rw [hboth.caps] at r2
      have r3 := fun w3 (hw : Below wr.heap.size wr w3) => on_ok (hboth.net.below hw) hkn
      have r4 := fun w3 (hw : Below wr.heap.size wr w3) => users_ok (hboth.net.below hw) hkn
      obtain ⟨gu, rfl, _, hru⟩ := hboth.rnet.row_u (by omega)
      have d1 := hboth.rnet.c1
      have hcu := hru.cell (k := k) (by rw [i64s_len, ← hboth.rnet.lenu]; exact hkn)
      rw [i64s_get _ _ (by rw [← hboth.rnet.lenu]; exact hkn)] at hcu
      have hcon := bools_at (HROW.out.below HB2.out) (k := k) (by rw [onL_len]; exact hkl)
      have hbo : (onL s.l s.hs 0).getD k false = decide (0 < s.hs.getD k 0) := by
        rw [List.getD, onL_get _ _ _ _ hkl]
        simp [onB]
      rw [hbo] at hcon
      have hgu := hru.lt
      have hrb := hboth.rnet.lt
      have hgo : w.heap.size < wr.heap.size := (HROW.out.below HB2.out).lt
      have hki : (k : Int) < (n : Int) := by omega
      generalize s.rs.getD k 0 = r at *
      generalize s.us.getD k 0 = u at *
      generalize decide (0 < s.hs.getD k 0) = b at *
      have f1 : (r != r) = false := by simp
      have f2 : (u != u) = false := by simp
      have f3 : (b != b) = false := by simp
      have R1 := Lib.hid r1
      have R2 := Lib.hid r2
      have R3 := Lib.hid r3
      have R4 := Lib.hid r4
      clear r1 r2 r3 r4 hboth hru hbo
      go_wp2_with (first
        | (go_at_call 28; refine R1.out.mono ?_; rintro e w' ⟨rfl, rfl⟩)
        | (go_at_call 43
           refine R2.out.mono ?_
           rintro e w3 ⟨rfl, hb3⟩
           have k1 := (hb3.cell (p := ⟨rb, 1, none⟩) hrb).trans d1
           have k2 := (hb3.cell (p := ⟨gu, k, none⟩) hgu).trans hcu
           have k3 := (hb3.cell (p := ⟨w.heap.size, k, none⟩) hgo).trans hcon
           have HB3 := Lib.hid hb3
           clear hb3)
        | (go_at_call 13; refine (R3.out _ HB3.out).mono ?_; rintro e w' ⟨rfl, rfl⟩)
        | (go_at_call 15; refine (R4.out _ HB3.out).mono ?_; rintro e w' ⟨rfl, rfl⟩))
      all_goals exact ⟨⟨k + 2, by omega, by rw [show ((k + 2 : Nat) : Int) - 1 = (k : Int) + 1 by omega], HB2.out.trans (HB3.out.mono HB2.out.size)⟩, by simp [intOf]; omega⟩
    · have r1 := prate_no hboth.net (n : Int) (by omega)
      have r2 := rrate_no hboth.rnet (n : Int) (by omega)
      have r3 := pon_no hboth.net (n : Int) (by omega)
      have r4 := pusers_no hboth.net (n : Int) (by omega)
      rw [show ((n + 1 : Nat) : Int) - 1 = (n : Int) by omega]
      have R1 := Lib.hid r1
      have R2 := Lib.hid r2
      have R3 := Lib.hid r3
      have R4 := Lib.hid r4
      clear r1 r2 r3 r4 hboth
      go_wp2_with (first
        | (go_at_call 28; refine R1.out.mono ?_; rintro e w' ⟨rfl, rfl⟩)
        | (go_at_call 43; refine R2.out.mono ?_; rintro e w' ⟨rfl, rfl⟩)
        | (go_at_call 13; refine R3.out.mono ?_; rintro e w' ⟨rfl, rfl⟩)
        | (go_at_call 15; refine R4.out.mono ?_; rintro e w' ⟨rfl, rfl⟩))
      exact ⟨⟨n + 2, by omega, by rw [show ((n + 2 : Nat) : Int) - 1 = (n : Int) + 1 by omega], HB2.out⟩, by simp [intOf]⟩
    · rw [show ((n + 2 : Nat) : Int) - 1 = (n : Int) + 1 by omega]
      clear hboth
      go_wp2_with fail
      go_ret
      exact ⟨rfl, below_next HB.out HB2.out⟩
end
end Go.Proofs.Ytbahclnpgdejlaa
