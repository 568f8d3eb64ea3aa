/- sameTexts, ref01.Columns: contracts. -/
import Derived.Test.YtfipljhlponcoaaDoorColP
import Derived.Deep.RegionHeld3
set_option linter.unusedVariables false
namespace Go.Proofs.YtfipljhlponcoaaDoor
open Go.RowKit
def sameT (a b : List ByteArray) : Bool := decide (a.map nl = b.map nl)
theorem same_ext {a b : List ByteArray} (h1 : a.length = b.length) (h : ∀ k (ha : k < a.length) (hb : k < b.length), a[k] = b[k]) : sameT a b = true := by
  unfold sameT
  rw [decide_eq_true_iff]
  congr 1
  exact List.ext_getElem h1 fun k ha hb => h k ha hb
theorem same_no1 {a b : List ByteArray} (h : a.length ≠ b.length) : sameT a b = false := by
  unfold sameT
  rw [decide_eq_false_iff_not]
  intro e
  have := congrArg List.length e
  rw [List.length_map, List.length_map] at this
  exact h this
theorem same_no2 {a b : List ByteArray} {k : Nat} (ha : k < a.length) (hb : k < b.length) (h : a[k] ≠ b[k]) : sameT a b = false := by
  unfold sameT
  rw [decide_eq_false_iff_not]
  intro e
  have h1 : (a.map nl)[k]? = (b.map nl)[k]? := by rw [e]
  rw [List.getElem?_map, List.getElem?_map, List.getElem?_eq_getElem ha, List.getElem?_eq_getElem hb] at h1
  exact h (nl_inj (by simpa using h1))
set_option maxRecDepth 100000 in
set_option maxHeartbeats 16000000 in
theorem same_any (A : Option Addr) (c n : Nat) (a : List ByteArray) (hn : n = a.length) (A' : Option Addr) (c' n' : Nat) (b : List ByteArray) (hn' : n' = b.length) (hz : n ≤ 1000000000000) (w : World) (B B' : Nat) (h1 : Seg w B A (sV a)) (h2 : Seg w B' A' (sV b)) :
    Calls Tryd.prog 19 #[.slice A n c, .slice A' n' c'] w fun e w' => e = .returned (.bool (sameT a b)) ∧ ∃ q, w' = w.drewN q := by
  obtain ⟨r, hr⟩ : ∃ r, r = sameT a b := ⟨_, rfl⟩
  rw [← hr]
  have HR := Lib.hid hr
  have HN := Lib.hid hn
  have HN' := Lib.hid hn'
  have H1 := Lib.hid h1
  have H2 := Lib.hid h2
  clear hr hn hn' h1 h2
  by_cases hnn : n = n'
  · subst hnn
    have hne : ((n : Int) != (n : Int)) = false := by simp
    go_enter Tryd.func19, Tryd.ntmps19
    go_wp2_with (fail)
    go_loopw [5] (fun iv wx => ∃ k q : Nat, k ≤ n ∧ iv = .int .i64 k ∧ (∀ j (ha : j < a.length) (hb : j < b.length), j < k → a[j] = b[j]) ∧ wx = w.drewN q) (fun iv _ => n - (intOf iv).toNat)
    case atStart => exact ⟨0, 0, by omega, rfl, fun j _ _ h => absurd h (Nat.not_lt_zero j), rfl⟩
    case round =>
      obtain ⟨k, q, hk, rfl, hok, rfl⟩ := hrel
      have HOK := Lib.hid hok
      clear hok
      by_cases hlt : k < n
      · have hka : k < a.length := by rw [← HN.out]; exact hlt
        have hkb : k < b.length := by rw [← HN'.out]; exact hlt
        obtain ⟨b1, o1, hA, _, x0⟩ := seg_str2 H1.out hka
        obtain ⟨b2, o2, hA2, _, x1⟩ := seg_str2 H2.out hkb
        have hbad := fun h => same_no2 hka hkb h
        obtain ⟨s, hs⟩ : ∃ s, s = a[k] := ⟨_, rfl⟩
        obtain ⟨t, ht⟩ : ∃ t, t = b[k] := ⟨_, rfl⟩
        rw [← hs] at x0 hbad
        rw [← ht] at x1 hbad
        have HS := Lib.hid hs
        have HT := Lib.hid ht
        have HBAD := Lib.hid hbad
        have y0 : ∀ q, (w.drewN q).cell? ⟨b1, o1 + k, none⟩ = some (.string s) := fun _ => x0
        have y1 : ∀ q, (w.drewN q).cell? ⟨b2, o2 + k, none⟩ = some (.string t) := fun _ => x1
        have hki : (k : Int) < (n : Int) := by omega
        subst hA
        subst hA2
        clear hs ht hbad x0 x1
        by_cases hst : s = t
        · subst hst
          have hok2 : ∀ j (ha : j < a.length) (hb : j < b.length), j < k + 1 → a[j] = b[j] := fun j ha hb hj => by
            rcases (show j < k ∨ j = k by omega) with h | rfl
            · exact HOK.out j ha hb h
            · rw [← HS.out, ← HT.out]
          have HOK2 := Lib.hid hok2
          clear hok2
          go_wp2_with fail
          go_quiet (fail)
          go_wp2_with fail
          exact ⟨⟨k + 1, _, by omega, by go_num, HOK2.out, rfl⟩, by simp [intOf]; omega⟩
        · have hne2 := str_ne hst
          obtain rfl : r = false := by rw [HR.out]; exact HBAD.out hst
          clear hst
          go_wp2_with fail
          go_quiet (fail)
          go_wp2_with fail
          go_ret
          exact ⟨rfl, q + nq, by rw [World.drewN_drewN]⟩
      · obtain rfl : k = n := by omega
        have hki : ¬ (k : Int) < (k : Int) := by omega
        obtain rfl : r = true := by rw [HR.out]; exact same_ext (by rw [← HN.out, ← HN'.out]) (fun j ha hb => HOK.out j ha hb (by rw [HN.out]; exact ha))
        go_wp2_with fail
        go_ret
        exact ⟨rfl, _, rfl⟩
  · have hne : ((n : Int) != (n' : Int)) = true := by simp; omega
    obtain rfl : r = false := by rw [HR.out]; exact same_no1 (by rw [← HN.out, ← HN'.out]; exact hnn)
    clear hnn
    go_enter Tryd.func19, Tryd.ntmps19
    go_wp2_with (fail)
    go_ret
    exact ⟨rfl, 0, rfl⟩
theorem zip_len {ts : List ByteArray} {ws : List Int} {j : Nat} (h1 : j ≤ ts.length) (h2 : j ≤ ws.length) : (List.zipWith (fun t w => (fitF t w).1) ((ts.take j).map nl) ws).length = j := by
  rw [List.length_zipWith, List.length_map, List.length_take]; omega
theorem zip_le {ts : List ByteArray} {ws : List Int} {j : Nat} : ∀ e ∈ List.zipWith (fun t w => (fitF t w).1) ((ts.take j).map nl) ws, e.length ≤ 20480 := fun e he => by
  obtain ⟨i, hi, rfl⟩ := List.mem_iff_getElem.1 he
  rw [List.getElem_zipWith, List.getElem_map]
  exact fit_len _ (nl_lt _) _
theorem byte_at {S : ByteArray} {m : Nat} (h : m < S.size) : ∃ x : Nat, x < 256 ∧ (nl S)[m]'(by rw [nl_len]; exact h) = x ∧ ∀ W : World, (Instr.index 9 (.string S) (.int .i64 (m : Int))).run Tryd.prog W = .ok (.int .u8 (x : Int)) W := by
  refine ⟨(S[m]'h).toNat, UInt8.toNat_lt _, by simp [nl]; rfl, fun W => ?_⟩
  rw [run_index_string W 9 S .i64 m Tryd.underlying9, dif_pos ⟨by omega, by omega⟩]
  rfl
set_option maxRecDepth 100000 in
set_option maxHeartbeats 16000000 in
theorem rcols_any (A : Option Addr) (c n : Nat) (l : List Tx) (hn : n = l.length) (hz : TSized l) (Aw : Option Addr) (cw m : Nat) (ws : List Int) (hm : m = ws.length) (hmb : m ≤ 1048576) (w : World) (B : Nat) (hB : B ≤ w.heap.size) (hr : Rowz w B A l) (hw : Seg w B Aw (ints ws)) :
    Calls Tryd.prog 17 #[.slice A n c, .slice Aw m cw] w fun e w' => ColRet w.heap.size (colsF (tdat l) ws) e w' ∧ Below w.heap.size w w' := by
  obtain ⟨i0, fi, fz0, fz1, fz2⟩ := info_parts info9'
  have HN := Lib.hid hn
  have HM := Lib.hid hm
  have HZ := Lib.hid hz
  have HR := Lib.hid hr
  have HW := Lib.hid hw
  have hn2 : (n : Int) ≤ 1048576 := by have := hz.n; omega
  have hm2 : (m : Int) ≤ 1048576 := by omega
  clear hn hm hr hw hz
  by_cases h64 : 64 < m
  · have HC := Lib.hid (cols_no1 (rows := tdat l) (ws := ws) (fun h => by have := h.1; have := HM.out; omega))
    have h64i : (64 : Int) < (m : Int) := by omega
    go_enter Tryd.func17, Tryd.ntmps17
    go_wp2_with (fail)
    go_ret2
    rw [HC.out]
    exact ⟨rfl, Below.refl _ _⟩
  have h64i : ¬ (64 : Int) < (m : Int) := by omega
  go_enter Tryd.func17, Tryd.ntmps17
  go_wp2_with (fail)
  go_loop [6] (fun iv => ∃ k : Nat, k ≤ m ∧ iv = .int .i64 k ∧ ∀ j (hj : j < ws.length), j < k → 1 ≤ ws[j] ∧ ws[j] ≤ 4096) (fun iv => m - (intOf iv).toNat)
  case atStart => exact ⟨0, by omega, rfl, fun j _ h => absurd h (Nat.not_lt_zero j)⟩
  case round =>
    obtain ⟨k, hk, rfl, hok⟩ := hrel
    have HOK := Lib.hid hok
    clear hok
    by_cases hlt : k < m
    · have hkw : k < ws.length := by rw [← HM.out]; exact hlt
      obtain ⟨b, off, hA, _, x0⟩ := seg_int HW.out hkw
      obtain ⟨z, hz⟩ : ∃ z, z = ws[k] := ⟨_, rfl⟩
      rw [← hz] at x0
      have HZ2 := Lib.hid hz
      have hki : (k : Int) < (m : Int) := by omega
      subst hA
      clear hz
      by_cases h1 : z < 1
      · have h1d : decide (z < 1) = true := by simpa using h1
        have HC := Lib.hid (cols_no1 (rows := tdat l) (widths_no hkw (.inl (by rw [← HZ2.out]; exact h1))))
        clear h1
        go_wp2
        go_ret2
        rw [HC.out]
        exact ⟨rfl, Below.refl _ _⟩
      have h1d : decide (z < 1) = false := by simpa using h1
      by_cases h2 : 4096 < z
      · have h2d : decide (4096 < z) = true := by simpa using h2
        have HC := Lib.hid (cols_no1 (rows := tdat l) (widths_no hkw (.inr (by rw [← HZ2.out]; exact h2))))
        clear h1 h2
        go_wp2
        go_ret2
        rw [HC.out]
        exact ⟨rfl, Below.refl _ _⟩
      have h2d : decide (4096 < z) = false := by simpa using h2
      have hok2 : ∀ j (hj : j < ws.length), j < k + 1 → 1 ≤ ws[j] ∧ ws[j] ≤ 4096 := fun j hj hjk => by
        rcases (show j < k ∨ j = k by omega) with h | rfl
        · exact HOK.out j hj h
        · rw [← HZ2.out]; omega
      have HOK2 := Lib.hid hok2
      clear hok2 h1 h2
      go_wp2
      go_round
      case rel => exact ⟨k + 1, by omega, by go_num, HOK2.out⟩
      case measure => simp [intOf]; omega
    · obtain rfl : k = m := by omega
      have hki : ¬ (k : Int) < (k : Int) := by omega
      have HWD := Lib.hid (widths_ok (ws := ws) (by have := HM.out; omega) (fun j hj => HOK.out j hj (by rw [HM.out]; exact hj)))
      clear HOK
      go_wp2
      go_loop [7] (fun iv => ∃ k2 : Nat, k2 ≤ n ∧ iv = .int .i64 k2 ∧ ∀ j (hj : j < l.length), j < k2 → l[j].ts.length ≤ ws.length) (fun iv => n - (intOf iv).toNat)
      case atStart => exact ⟨0, by omega, rfl, fun j _ h => absurd h (Nat.not_lt_zero j)⟩
      case round =>
        obtain ⟨k2, hk2, rfl, hok⟩ := hrel
        have HOK := Lib.hid hok
        clear hok
        by_cases hlt : k2 < n
        · have hkl : k2 < l.length := by rw [← HN.out]; exact hlt
          obtain ⟨b, off, hA, hbB, x0⟩ := HR.out.at_ hkl
          have hz1 := HZ.out.rows l[k2] (List.getElem_mem hkl)
          have hbad := fun h => cols_no2 (ws := ws) hkl h
          obtain ⟨q, hq⟩ : ∃ q, l[k2].ts.length = q := ⟨_, rfl⟩
          rw [hq] at x0 hz1 hbad
          have HBAD := Lib.hid hbad
          have HQ := Lib.hid hq
          have hki : (k2 : Int) < (n : Int) := by omega
          subst hA
          clear hq hbad
          by_cases hqm : k < q
          · have hqi : (k : Int) < (q : Int) := by omega
            have HC := Lib.hid (HBAD.out (by rw [← HM.out]; exact hqm))
            go_wp2
            go_ret2
            rw [HC.out]
            exact ⟨rfl, Below.refl _ _⟩
          · have hqi : ¬ (k : Int) < (q : Int) := by omega
            have hok2 : ∀ j (hj : j < l.length), j < k2 + 1 → l[j].ts.length ≤ ws.length := fun j hj hjk => by
              rcases (show j < k2 ∨ j = k2 by omega) with h | rfl
              · exact HOK.out j hj h
              · rw [HQ.out, ← HM.out]; omega
            have HOK2 := Lib.hid hok2
            clear hok2
            go_wp2
            go_round
            case rel => exact ⟨k2 + 1, by omega, by go_num, HOK2.out⟩
            case measure => simp [intOf]; omega
        · have hki : ¬ (k2 : Int) < (n : Int) := by omega
          obtain rfl : k2 = n := by omega
          have HFIT := Lib.hid (fun j (hj : j < l.length) => HOK.out j hj (by rw [HN.out]; exact hj))
          have HC := Lib.hid (cols_yes (l := l) HWD.out HFIT.out)
          clear HOK hki
          go_wp2
          go_loopw [8, 9] (fun ov iv wx => ∃ (k3 : Nat) (Ao : Option Addr) (co : Nat) (os : List ByteArray), iv = .int .i64 k3 ∧ k3 ≤ k2 ∧ ov = .slice Ao k3 co ∧ k3 = os.length ∧ wx.ownsRow w.heap.size 9 1 (.slice Ao k3 co) k3 (sV os) ∧ os.map nl = ((tdat l).take k3).map (lineF ws) ∧ Below w.heap.size w wx) (fun _ iv _ => k2 - (intOf iv).toNat)
          case atStart => exact ⟨0, none, 0, [], rfl, by omega, rfl, rfl, World.ownsRow_nil _ _ _ _, rfl, Below.refl _ _⟩
          case round =>
            obtain ⟨k3, Ao, co, os, rfl, hk3, rfl, hos, hown, hnl, hb⟩ := hrel
            have HOS := Lib.hid hos
            have HO := Lib.hid hown
            have HNL := Lib.hid hnl
            have HB := Lib.hid hb
            clear hos hown hnl
            by_cases hlt : k3 < k2
            · have hkl : k3 < l.length := by rw [← HN.out]; exact hlt
              have hbw := hb.mono hB
              obtain ⟨b, off, hA, hbB, x0⟩ := HR.out.at_ hkl
              have hrow := HR.out.rows l[k3] (List.getElem_mem hkl)
              have hz1 := HZ.out.rows l[k3] (List.getElem_mem hkl)
              have hz2 := HZ.out.texts l[k3] (List.getElem_mem hkl)
              have hq1 := HFIT.out k3 hkl
              obtain ⟨x, hx⟩ : ∃ x, x = l[k3] := ⟨_, rfl⟩
              rw [← hx] at x0 hrow hz1 hz2 hq1
              have HX := Lib.hid hx
              obtain ⟨xA, xc, ts⟩ := x
              simp only at x0 hrow hz1 hz2 hq1
              have HRW := Lib.hid hrow
              have HZ3 := Lib.hid hz2
              have hki : (k3 : Int) < (k2 : Int) := by omega
              subst hA
              obtain ⟨q, hq⟩ : ∃ q, ts.length = q := ⟨_, rfl⟩
              rw [hq] at x0 hz1 hq1
              have HQ := Lib.hid hq
              have hqk : q ≤ k := by rw [HM.out]; exact hq1
              clear hx hb hbw hrow hz2 hq hq1
              obtain ⟨wo, rfl⟩ : ∃ wo : World, wo = wr := ⟨_, rfl⟩
              have X0 := Lib.hid fun (W : World) (hW : Below w.heap.size w W) => (hW.cell (p := ⟨b, off + k3, none⟩) (show b < w.heap.size by omega)).trans x0
              have z0 := X0.out wo HB.out
              clear x0
              go_wp2
              go_loopw [10, 11] (fun sv jv wx => ∃ (j : Nat) (S : ByteArray), jv = .int .i64 j ∧ j ≤ q ∧ sv = .string S ∧ nl S = joinN (List.zipWith (fun t w => (fitF t w).1) ((ts.take j).map nl) ws) ∧ Below wo.heap.size wo wx) (fun _ jv _ => q - (intOf jv).toNat)
              case atStart => exact ⟨0, _, rfl, by omega, rfl, rfl, Below.refl _ _⟩
              case round =>
                obtain ⟨j, S, rfl, hj, rfl, hS, hb3⟩ := hrel
                have HS := Lib.hid hS
                have HB3 := Lib.hid hb3
                have hs3 := hb3.size
                have hwx : Below w.heap.size w wr := HB.out.trans (hb3.mono HB.out.size)
                have HWX := Lib.hid hwx
                have z1 := X0.out wr hwx
                have hsl : S.size ≤ 2000000 := by
                  have h1 := joinN_len _ _ (zip_le (ts := ts) (ws := ws) (j := j))
                  rw [zip_len (by rw [HQ.out]; exact hj) (by rw [← HM.out]; omega)] at h1
                  rw [← nl_len, hS]
                  omega
                clear hS hb3 hwx
                by_cases hjq : j < q
                · have hjt : j < ts.length := by rw [HQ.out]; exact hjq
                  have hjw : j < ws.length := by have := HM.out; omega
                  obtain ⟨b3, o3, hA3, hb3, y0⟩ := seg_str2 (HRW.out.below (HWX.out.mono hB)) hjt
                  obtain ⟨b4, o4, hA4, hb4, y1⟩ := seg_int (HW.out.below (HWX.out.mono hB)) hjw
                  have hzt := HZ3.out ts[j] (List.getElem_mem hjt)
                  have hzp := zip_take ts ws j hjt hjw
                  obtain ⟨t, ht⟩ : ∃ t, t = ts[j] := ⟨_, rfl⟩
                  obtain ⟨z, hz⟩ : ∃ z, z = ws[j] := ⟨_, rfl⟩
                  rw [← ht] at y0 hzt hzp
                  rw [← hz] at y1 hzp
                  have HZP := Lib.hid hzp
                  have HFT := Lib.hid fun W => rfit_any t z W hzt
                  have hji : (j : Int) < (q : Int) := by omega
                  have hji2 : (j : Int) < (k : Int) := by omega
                  subst hA3
                  subst hA4
                  clear ht hz hzp
                  have k0 : (0 : Int) ≤ (j : Int) := by omega
                  have k3' : (0 : Int) ≤ (k3 : Int) := by omega
                  have HKEEP := Lib.hid fun (W : World) (hW : Below wr.heap.size wr W) => X0.out W (HWX.out.trans (hW.mono HWX.out.size))
                  have HKEEP2 := Lib.hid fun (W : World) (hW : Below wr.heap.size wr W) => (hW.cell (p := ⟨b3, o3 + j, none⟩) (show b3 < wr.heap.size by have := HWX.out.size; omega)).trans y0
                  have HKEEP3 := Lib.hid fun (W : World) (hW : Below wr.heap.size wr W) => (hW.cell (p := ⟨b4, o4 + j, none⟩) (show b4 < wr.heap.size by have := HWX.out.size; omega)).trans y1
                  by_cases hj0 : j = 0
                  · have hj0d : decide (0 < j) = false := by simp; omega
                    have hj0i : ¬ (0 : Int) < (j : Int) := by omega
                    have HJ0 := Lib.hid hj0
                    clear hj0
                    go_wp2
                    go_region_held3 (fun W => W.cell? ⟨b, off + k3, none⟩ = some (.slice (some ⟨b3, o3, none⟩) q xc) ∧ W.cell? ⟨b3, o3 + j, none⟩ = some (.string t) ∧ W.cell? ⟨b4, o4 + j, none⟩ = some (.int .i64 z)) (first | exact ⟨z1, y0, y1⟩ | exact ⟨z2, y2, y3⟩) (first
                      | (go_at_call 43; refine (HFT.out _).mono ?_; rintro e w4 ⟨t4, rfl, h4, hb4⟩; have hb5 := (Below.refl _ wr).drew.trans hb4; have z2 := HKEEP.out w4 hb5; have y2 := HKEEP2.out w4 hb5; have y3 := HKEEP3.out w4 hb5; have H4 := Lib.hid h4; have B4 := Lib.hid (HB3.out.drew.trans (hb4.mono hs3)); have hts : t4.size ≤ 20480 := (by rw [← nl_len, h4]; exact fit_len _ (nl_lt _) _); clear h4 hb4 hb5)
                      | fail)
                    go_wp2
                    refine ⟨⟨j + 1, S ++ t4, by go_num, hjq, rfl, ?_, B4.out⟩, by simp [intOf]; omega⟩
                    rw [nl_app, HS.out, H4.out, HZP.out, joinN_snoc, if_pos (List.eq_nil_of_length_eq_zero (by rw [zip_len (by omega) (by omega)]; exact HJ0.out))]
                    rfl
                  · have hj0d : decide (0 < j) = true := by simp; omega
                    have hj0i : (0 : Int) < (j : Int) := by omega
                    have HJ0 := Lib.hid hj0
                    clear hj0
                    go_wp2
                    go_region_held3 (fun W => W.cell? ⟨b, off + k3, none⟩ = some (.slice (some ⟨b3, o3, none⟩) q xc) ∧ W.cell? ⟨b3, o3 + j, none⟩ = some (.string t) ∧ W.cell? ⟨b4, o4 + j, none⟩ = some (.int .i64 z)) (first | exact ⟨z1, y0, y1⟩ | exact ⟨z2, y2, y3⟩) (first
                      | (go_at_call 43; refine (HFT.out _).mono ?_; rintro e w4 ⟨t4, rfl, h4, hb4⟩; have hb5 := (Below.refl _ wr).drew.trans hb4; have z2 := HKEEP.out w4 hb5; have y2 := HKEEP2.out w4 hb5; have y3 := HKEEP3.out w4 hb5; have H4 := Lib.hid h4; have B4 := Lib.hid (HB3.out.drew.trans (hb4.mono hs3)); have hts : t4.size ≤ 20480 := (by rw [← nl_len, h4]; exact fit_len _ (nl_lt _) _); clear h4 hb4 hb5)
                      | fail)
                    go_wp2
                    refine ⟨⟨j + 1, S ++ ⟨#[32]⟩ ++ t4, by go_num, hjq, rfl, ?_, B4.out⟩, by simp [intOf]; omega⟩
                    rw [nl_app, nl_app, HS.out, H4.out, HZP.out, joinN_snoc, if_neg (fun e => by
                      have := congrArg List.length e
                      rw [zip_len (by omega) (by omega)] at this
                      exact HJ0.out this), List.append_assoc]
                    rfl
                · obtain rfl : j = q := by omega
                  have hji : ¬ (j : Int) < (j : Int) := by omega
                  have hln : lineF ws (ts.map nl) = trimN (nl S) := by
                    unfold lineF
                    rw [HS.out, List.take_of_length_le (by rw [HQ.out]; exact Nat.le_refl _)]
                  have HLN := Lib.hid hln
                  have O4 := Lib.hid (own_below HO.out HB3.out)
                  have hsi : (S.size : Int) ≤ 2000000 := by omega
                  clear hln
                  go_wp2
                  go_loop [14] (fun mv => ∃ e : Nat, e ≤ S.size ∧ mv = .int .i64 e ∧ ∀ i (hi : i < (nl S).length), e ≤ i → (nl S)[i] = 32) (fun mv => (intOf mv).toNat)
                  case atStart => exact ⟨S.size, by omega, rfl, fun i hi h => by rw [nl_len] at hi; omega⟩
                  case round =>
                    obtain ⟨e, he, rfl, hall⟩ := hrel
                    have HALL := Lib.hid hall
                    clear hall
                    by_cases he0 : e = 0
                    · have HE0 := Lib.hid he0
                      have he1 : ¬ (0 : Int) < (e : Int) := by omega
                      have he1d : decide (0 < e) = false := by simp; omega
                      clear he0
                      have hsl : ∀ W : World, (Instr.slice 9 (.string S) none (some (.int .i64 (e : Int))) none).run Tryd.prog W = .ok (.string (S.extract 0 e)) W := fun W => by
                        rw [run_slice_string_to_if _ _ _ _ _ Tryd.underlying9, if_pos ⟨by omega, by omega⟩]; rfl
                      have htr : nl (S.extract 0 e) = lineF ws (ts.map nl) := by
                        rw [nl_extract, List.drop_zero, Nat.sub_zero, HLN.out]
                        exact (trim_take (by rw [nl_len]; exact he) (fun i hi h => HALL.out i hi h) (.inl HE0.out)).symm
                      have HTR := Lib.hid htr
                      have m1 : k3 + 1 ≤ maxLen := by unfold maxLen; omega
                      have m2 : (k3 + 1) * 16 ≤ 140737488355328 := by omega
                      have m3 := HWX.out.size
                      clear htr
                      go_wp2_with (first
                        | (at_builtin; refine wpList_append_seg _ rfl (.tmp 100) (.tmp 104) 33 rfl w.heap.size 9 i0 _ 1 16 Tryd.underlying33 fi fz0 fz1 fz2 rfl (by decide) (.slice Ao k3 co) k3 (sV os) rfl (World.ownsRow.alloc O4.out _) (wr.heap.size + 1) (some ⟨wr.heap.size, 0, none⟩) 1 1 [.string (S.extract 0 e)] rfl rfl (seg_new (e := 9) (cs := #[.string (S.extract 0 e)])) (by simp [Value.oneCell']) m1 m2 (by rw [World.size_alloc]; omega) ?_
                           intro v6 w6 hown6 hg6 _
                           have hb6 : Below w.heap.size w w6 := (HWX.out.alloc m3 _).grown hg6 (by rw [World.size_alloc]; omega) (fun g hg => (O4.out.lt g hg).1)
                           obtain ⟨A6, c6, rfl⟩ := own_shape hown6
                           have HO6 := Lib.hid hown6; have HB6 := Lib.hid hb6; clear hown6 hg6 hb6)
                        | (fail))
                      have hnl2 : (os ++ [S.extract 0 e]).map nl = ((tdat l).take (k3 + 1)).map (lineF ws) := by
                        rw [List.map_append, HNL.out, List.take_succ_eq_append_getElem (by rw [tdat_len]; exact hkl), List.map_append]
                        congr 1
                        have e3 : (tdat l)[k3]'(by rw [tdat_len]; exact hkl) = ts.map nl := by simp only [tdat, List.getElem_map]; rw [← HX.out]
                        simp only [List.map_cons, List.map_nil, e3]
                        rw [HTR.out]
                      refine ⟨⟨k3 + 1, A6, c6, os ++ [S.extract 0 e], by go_num, hlt, rfl, ?_, ?_, hnl2, HB6.out⟩, by simp [intOf]; omega⟩
                      · rw [List.length_append, ← HOS.out]; rfl
                      · rw [sV_app]; exact HO6.out
                    · have he1 : (0 : Int) < (e : Int) := by omega
                      have he1d : decide (0 < e) = true := by simp; omega
                      obtain ⟨x, hx256, hx, hix⟩ := byte_at (S := S) (m := e - 1) (by omega)
                      rw [show ((e - 1 : Nat) : Int) = (e : Int) - 1 by omega] at hix
                      have HX2 := Lib.hid hx
                      clear hx he0
                      by_cases h32 : x = 32
                      · have h32d : ((x : Int) == 32) = true := by simp; omega
                        have hall2 : ∀ i (hi : i < (nl S).length), e - 1 ≤ i → (nl S)[i] = 32 := fun i hi h => by
                          rcases (show e ≤ i ∨ i = e - 1 by omega) with h2 | rfl
                          · exact HALL.out i hi h2
                          · rw [HX2.out, h32]
                        have HALL2 := Lib.hid hall2
                        clear hall2 h32
                        go_wp2
                        go_round
                        case rel => exact ⟨e - 1, by omega, by go_num, HALL2.out⟩
                        case measure => simp [intOf]; omega
                      · have h32d : ((x : Int) == 32) = false := by simp; omega
                        have H32 := Lib.hid h32
                        clear h32
                        have hsl : ∀ W : World, (Instr.slice 9 (.string S) none (some (.int .i64 (e : Int))) none).run Tryd.prog W = .ok (.string (S.extract 0 e)) W := fun W => by
                          rw [run_slice_string_to_if _ _ _ _ _ Tryd.underlying9, if_pos ⟨by omega, by omega⟩]; rfl
                        have htr : nl (S.extract 0 e) = lineF ws (ts.map nl) := by
                          rw [nl_extract, List.drop_zero, Nat.sub_zero, HLN.out]
                          exact (trim_take (by rw [nl_len]; exact he) (fun i hi h => HALL.out i hi h) (.inr ⟨by rw [nl_len]; omega, by rw [HX2.out]; exact H32.out⟩)).symm
                        have HTR := Lib.hid htr
                        have m1 : k3 + 1 ≤ maxLen := by unfold maxLen; omega
                        have m2 : (k3 + 1) * 16 ≤ 140737488355328 := by omega
                        have m3 := HWX.out.size
                        clear htr
                        go_wp2_with (first
                          | (at_builtin; refine wpList_append_seg _ rfl (.tmp 100) (.tmp 104) 33 rfl w.heap.size 9 i0 _ 1 16 Tryd.underlying33 fi fz0 fz1 fz2 rfl (by decide) (.slice Ao k3 co) k3 (sV os) rfl (World.ownsRow.alloc O4.out _) (wr.heap.size + 1) (some ⟨wr.heap.size, 0, none⟩) 1 1 [.string (S.extract 0 e)] rfl rfl (seg_new (e := 9) (cs := #[.string (S.extract 0 e)])) (by simp [Value.oneCell']) m1 m2 (by rw [World.size_alloc]; omega) ?_
                             intro v6 w6 hown6 hg6 _
                             have hb6 : Below w.heap.size w w6 := (HWX.out.alloc m3 _).grown hg6 (by rw [World.size_alloc]; omega) (fun g hg => (O4.out.lt g hg).1)
                             obtain ⟨A6, c6, rfl⟩ := own_shape hown6
                             have HO6 := Lib.hid hown6; have HB6 := Lib.hid hb6; clear hown6 hg6 hb6)
                          | (fail))
                        have hnl2 : (os ++ [S.extract 0 e]).map nl = ((tdat l).take (k3 + 1)).map (lineF ws) := by
                          rw [List.map_append, HNL.out, List.take_succ_eq_append_getElem (by rw [tdat_len]; exact hkl), List.map_append]
                          congr 1
                          have e3 : (tdat l)[k3]'(by rw [tdat_len]; exact hkl) = ts.map nl := by simp only [tdat, List.getElem_map]; rw [← HX.out]
                          simp only [List.map_cons, List.map_nil, e3]
                          rw [HTR.out]
                        refine ⟨⟨k3 + 1, A6, c6, os ++ [S.extract 0 e], by go_num, hlt, rfl, ?_, ?_, hnl2, HB6.out⟩, by simp [intOf]; omega⟩
                        · rw [List.length_append, ← HOS.out]; rfl
                        · rw [sV_app]; exact HO6.out
            · have hki : ¬ (k3 : Int) < (k2 : Int) := by omega
              obtain rfl : k3 = k2 := by omega
              clear hb
              go_wp2
              go_ret2
              rw [HC.out]
              refine ⟨⟨Ao, co, os, by rw [← HOS.out]; rfl, by rw [← HOS.out]; exact HO.out, ?_⟩, HB.out⟩
              rw [HNL.out, List.take_of_length_le (by rw [tdat_len, HN.out]; exact Nat.le_refl _)]
end Go.Proofs.YtfipljhlponcoaaDoor
