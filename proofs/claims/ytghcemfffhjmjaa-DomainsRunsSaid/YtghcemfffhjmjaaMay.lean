/- The document's May, and the statement's above: contracts. -/
import Derived.Test.YtghcemfffhjmjaaNLaw
set_option linter.unusedVariables false
namespace Go.Proofs.Ytghcemfffhjmjaa
open Go.RowKit
set_option maxRecDepth 100000 in
set_option maxHeartbeats 4000000 in
theorem may_any (A : Option Addr) (cap : Nat) (l : List Dmi) (n : Nat) (hn : n = l.length) (w : World) (B : Nat) (hB : B ≤ w.heap.size) (hs : Domi w B A l) :
    Calls Try.prog 16 #[.slice A n cap] w fun e w' => ∃ b : Bool, e = .returned (.bool b) ∧ (b = true ↔ mayD l) ∧ Below w.heap.size w w' := by
  have Hn := Lib.hid hn
  have HS := Lib.hid hs
  clear hn hs
  by_cases h256 : 256 < n
  · have hi : (256 : Int) < (n : Int) := by omega
    go_enter Try.func16, Try.ntmps16
    go_wp2_with fail
    go_ret
    exact ⟨false, by rfl, ⟨fun h => by (cases h), fun h => by have := h.1; have := Hn.out; omega⟩, Below.refl _ _⟩
  have hi : ¬ (256 : Int) < (n : Int) := by omega
  go_enter Try.func16, Try.ntmps16
  go_wp2_with fail
  go_loopw [3] (fun iv wr => ∃ i : Nat, i ≤ n ∧ iv = .int .i64 i ∧ (∀ j (h : j < l.length), j < i → goodAt j l[j].u) ∧ Below w.heap.size w wr) (fun iv _ => n - (intOf iv).toNat)
  case atStart => exact ⟨0, by omega, rfl, fun j h hj => by omega, Below.refl _ _⟩
  case round =>
    obtain ⟨i, hin, rfl, hgood, hb⟩ := hrel
    have HGOOD := Lib.hid hgood
    have HB := Lib.hid hb
    clear hgood hb
    by_cases hlt : i < n
    · have hii : (i : Int) < (n : Int) := by omega
      have hil : i < l.length := by rw [← Hn.out]; exact hlt
      obtain ⟨b, off, rfl, hbB, x0, x1, hun⟩ := (HS.out.below (HB.out.mono hB)).at_ hil
      obtain ⟨u, hu⟩ : ∃ u, u = l[i].u := ⟨_, rfl⟩
      obtain ⟨m, hm⟩ : ∃ m, m = u.length := ⟨_, rfl⟩
      rw [← hu, ← hm] at x0
      rw [← hu] at hun
      generalize l[i].A = a at x0 hun
      generalize l[i].c = c at x0
      have HU := Lib.hid hu
      have HM := Lib.hid hm
      have HUN := Lib.hid hun
      clear hu hm hun x1
      have hbr : b < wr.heap.size := by have := HB.out.size; omega
      by_cases h8 : 8 < m
      · have h8i : (8 : Int) < (m : Int) := by omega
        go_wp2_with fail
        go_ret
        refine ⟨false, by rfl, ⟨fun h => by (cases h), fun h => ?_⟩, HB.out⟩
        have := (h.2 i hil).1
        rw [← HU.out, ← HM.out] at this
        omega
      · have h8i : ¬ (8 : Int) < (m : Int) := by omega
        obtain ⟨w1, rfl⟩ : ∃ w1, w1 = wr := ⟨wr, rfl⟩
        go_wp2_with fail
        go_loopw [4] (fun kv wr => ∃ k : Nat, k ≤ m ∧ kv = .int .i64 k ∧ (∀ j (h : j < u.length), j < k → 0 ≤ u[j] ∧ u[j] < (i : Int) ∧ u[j] ∉ u.take j) ∧ Below w1.heap.size w1 wr) (fun kv _ => m - (intOf kv).toNat)
        case atStart => exact ⟨0, by omega, rfl, fun j h hj => by omega, Below.refl _ _⟩
        case round =>
          obtain ⟨k, hk, rfl, hks, hb2⟩ := hrel
          have HKS := Lib.hid hks
          have HB2 := Lib.hid hb2
          clear hks hb2
          have y0 := (HB2.out.cell (p := ⟨b, off + i * 2, none⟩) hbr).trans x0
          by_cases hkm : k < m
          · have hki : (k : Int) < (m : Int) := by omega
            have hku : k < u.length := by rw [← HM.out]; exact hkm
            obtain ⟨b2, off2, rfl, hbb2, z0⟩ := (HUN.out.below (HB2.out.mono (Nat.le_trans hB HB.out.size))).ints hku
            obtain ⟨v, hv⟩ : ∃ v, v = u[k] := ⟨_, rfl⟩
            rw [← hv] at z0
            have HV := Lib.hid hv
            clear hv
            have hbad : ¬ (0 ≤ v ∧ v < (i : Int) ∧ v ∉ u.take k) → ¬ mayD l := fun h1 h2 => h1 (by
              have h3 := (h2.2 i hil).2
              rw [← HU.out] at h3
              have h4 := h3 k hku
              rw [← HV.out] at h4
              exact h4)
            have HBAD := Lib.hid hbad
            clear hbad
            by_cases hv0 : v < 0
            · go_wp2_with fail
              go_ret
              exact ⟨false, by rfl, ⟨fun h => by (cases h), fun h => absurd h (HBAD.out (by omega))⟩, HB.out.trans (HB2.out.mono HB.out.size)⟩
            · by_cases hvi : (i : Int) ≤ v
              · go_wp2_with fail
                go_ret
                exact .inl ⟨by rfl, HBAD.out (by omega), HB.out.trans (HB2.out.mono HB.out.size)⟩
              · obtain ⟨w2, rfl⟩ : ∃ w2, w2 = wr := ⟨wr, rfl⟩
                have hbr2 : b < w2.heap.size := by have := HB2.out.size; omega
                have hb2r : b2 < w2.heap.size := by have := HB2.out.size; have := HB.out.size; omega
                go_wp2_with fail
                go_loopw [5] (fun jv wr => ∃ j : Nat, j ≤ k ∧ jv = .int .i64 j ∧ v ∉ u.take j ∧ Below w2.heap.size w2 wr) (fun jv _ => k - (intOf jv).toNat)
                case atStart => exact ⟨0, by omega, rfl, by simp, Below.refl _ _⟩
                case round =>
                  obtain ⟨j, hj, rfl, hno, hb3⟩ := hrel
                  have HNO := Lib.hid hno
                  have HB3 := Lib.hid hb3
                  clear hno hb3
                  by_cases hjk : j < k
                  · have hji : (j : Int) < (k : Int) := by omega
                    have hjm : (j : Int) < (m : Int) := by omega
                    have hju : j < u.length := by omega
                    have t0 := (HB3.out.cell (p := ⟨b, off + i * 2, none⟩) hbr2).trans y0
                    have t1 := (HB3.out.cell (p := ⟨b2, off2 + k, none⟩) hb2r).trans z0
                    obtain ⟨b3, off3, e3, hbb3, t2⟩ := ((HUN.out.below (HB2.out.mono (Nat.le_trans hB HB.out.size))).below (HB3.out.mono (Nat.le_trans hB (Nat.le_trans HB.out.size HB2.out.size)))).ints hju
                    injection e3 with e3
                    injection e3 with e3 e4
                    subst e3 e4
                    obtain ⟨q, hq⟩ : ∃ q, q = u[j] := ⟨_, rfl⟩
                    rw [← hq] at t2
                    have HQ := Lib.hid hq
                    clear hq
                    by_cases hqv : q = v
                    · subst hqv
                      go_wp2_with fail
                      go_quiet (fail)
                      go_wp2_with fail
                      go_ret
                      refine ⟨false, by rfl, ⟨fun h => by (cases h), fun h => absurd h (HBAD.out fun h2 => h2.2.2 ?_)⟩, HB.out.trans ((HB2.out.trans ((below_drewN HB3.out _).mono HB2.out.size)).mono HB.out.size)⟩
                      rw [HQ.out]
                      exact List.mem_take_iff_getElem.2 ⟨j, by omega, rfl⟩
                    · go_wp2_with fail
                      go_quiet (fail)
                      go_wp2_with fail
                      refine ⟨⟨j + 1, by omega, by go_num, ?_, below_drewN HB3.out _⟩, by simp [intOf]; omega⟩
                      rw [List.take_succ_eq_append_getElem hju, List.mem_append, List.mem_singleton, ← HQ.out]
                      exact fun h => h.elim HNO.out (fun e => hqv e.symm)
                  · obtain rfl : j = k := by omega
                    go_wp2_with fail
                    refine ⟨⟨j + 1, by omega, by go_num, ?_, HB2.out.trans (HB3.out.mono HB2.out.size)⟩, by simp [intOf]; omega⟩
                    exact goodAt.step HKS.out hku (by rw [← HV.out]; omega) (by rw [← HV.out]; omega) (by rw [← HV.out]; exact HNO.out)
          · obtain rfl : k = m := by omega
            go_wp2_with fail
            refine ⟨⟨i + 1, by omega, by go_num, fun j hj hji => ?_, HB.out.trans (HB2.out.mono HB.out.size)⟩, by simp [intOf]; omega⟩
            rcases (show j < i ∨ j = i by omega) with h2 | rfl
            · exact HGOOD.out j hj h2
            · rw [← HU.out]
              have := HM.out
              exact ⟨by omega, fun a ha => HKS.out a ha (by omega)⟩
    · obtain rfl : i = n := by omega
      go_wp2_with fail
      go_ret
      exact ⟨true, by rfl, ⟨fun _ => ⟨by have := Hn.out; omega, fun j h => HGOOD.out j h (by have := Hn.out; omega)⟩, fun _ => rfl⟩, HB.out⟩
end Go.Proofs.Ytghcemfffhjmjaa
