/- ranges.windows: the contract. -/
import Derived.Test.YtndocngkganpdaaRgWay
set_option linter.unusedVariables false
namespace Go.Proofs.Ytndocngkganpdaa
open Go.RowKit
/-! The plain law: what carried and through give, told as the document tells it. -/
theorem car_up (m : List Mp × Bool × Int) (b s : Nat) : (carM m b s false).2 = (upM m b s).2 ∧ ((upM m b s).2 = 0 → (carM m b s false).1 = (upM m b s).1) ∧ ((upM m b s).2 ≠ 0 → (upM m b s).1 = 0) := by
  unfold carM upM
  by_cases h : m.2.2 ≠ 0
  · rw [if_pos h, if_pos h]
    exact ⟨rfl, fun h2 => absurd h2 h, fun _ => rfl⟩
  · rw [if_neg h, if_neg h]
    cases m.2.1
    · simp only [Bool.false_eq_true, if_false]
      show _ ∧ _ ∧ _
      have e : (fun x : Mp => withinB b s (frmF false x) x.s) = fun x => withinB b s x.k x.s := rfl
      rw [e]
      cases m.1.find? fun x => withinB b s x.k x.s with
      | none => exact ⟨rfl, fun h => rfl, fun _ => rfl⟩
      | some x => exact ⟨rfl, fun h => rfl, fun h => absurd rfl h⟩
    · exact ⟨rfl, fun _ => rfl, fun h => absurd rfl h⟩
theorem car_down (m : List Mp × Bool × Int) (b : Nat) : (carM m b 1 true).2 = (downM m b).2 ∧ ((downM m b).2 = 0 → (carM m b 1 true).1 = (downM m b).1) := by
  unfold carM downM
  by_cases h : m.2.2 ≠ 0
  · rw [if_pos h, if_pos h]
    exact ⟨rfl, fun h2 => absurd h2 h⟩
  · rw [if_neg h, if_neg h]
    cases m.2.1
    · simp only [Bool.false_eq_true, if_false]
      have e : (fun x : Mp => withinB b 1 (frmF true x) x.s) = fun x => withinB b 1 x.a x.s := rfl
      rw [e]
      cases m.1.find? fun x => withinB b 1 x.a x.s with
      | none => exact ⟨rfl, fun h => rfl⟩
      | some x => exact ⟨rfl, fun h => rfl⟩
    · exact ⟨rfl, fun _ => rfl⟩
theorem thr_out (l : List Nd) : ∀ (W : List Nat) (b s : Nat), thrL l false W b s = outL l W b s
  | [], b, s => rfl
  | i :: r, b, s => by
    unfold thrL outL
    obtain ⟨h1, h2, _⟩ := car_up (mapsF l i) b s
    show (if (carM (mapsF l i) b s false).2 ≠ 0 then _ else _) = if (upM (mapsF l i) b s).2 ≠ 0 then _ else _
    rw [h1]
    by_cases h : (upM (mapsF l i) b s).2 ≠ 0
    · rw [if_pos h, if_pos h]; rfl
    · rw [if_neg h, if_neg h, h2 (by omega), thr_out l r]; rfl
theorem thr_down (l : List Nd) : ∀ (W : List Nat) (b : Nat), thrL l true W b 1 = downL l W b
  | [], b => rfl
  | i :: r, b => by
    unfold thrL downL
    obtain ⟨h1, h2⟩ := car_down (mapsF l i) b
    rw [h1]
    by_cases h : (downM (mapsF l i) b).2 ≠ 0
    · rw [if_pos h, if_pos h]
    · rw [if_neg h, if_neg h, h2 (by omega), thr_down l r]
/-- A node's windows are of 64 bits. -/
theorem reg_lt {l : List Nd} {i : Nat} {ws : List (Nat × Nat)} (h : regF l i = some ws) : ∀ x ∈ ws, x.1 < 18446744073709551616 ∧ x.2 < 18446744073709551616 := by
  unfold regF at h
  split at h
  · cases h
  · rename_i a b hc
    obtain ⟨_, h1, h2⟩ := cells_bd hc
    unfold winsF at h
    split at h
    · cases h
    · split at h
      · injection h with h
        subst h
        intro x hx
        obtain ⟨r, hr, rfl⟩ := List.mem_map.1 hx
        have hlt := rowsF_lt [a, b] _ (nl_lt _) (by intro x hx; simp at hx; omega) r hr
        have h3 : r.length = 2 := row_two _ _ hr
        match r, h3 with
        | [x, y], _ => exact ⟨hlt x (by simp), hlt y (by simp)⟩
      · cases h
theorem own_set {w : World} {base : Nat} {e : TypeId} {size n : Nat} {g c : Nat} {xs : List Value} (h : w.ownsRow base e size (.slice (some ⟨g, 0, none⟩) n c) n xs) (j : Nat) (u : Value) :
    (w.setCell ⟨g, j, none⟩ u).ownsRow base e size (.slice (some ⟨g, 0, none⟩) n c) n (xs.set j u) := by
  refine ⟨by rw [List.length_set]; exact h.1, ?_⟩
  rcases h.2 with ⟨h2, _⟩ | ⟨g', cap, cur, hv, h1, h2, h3, h4, h5, h6⟩
  · cases h2
  · injection hv with hA hn hc
    injection hA with hA
    injection hA with hg
    subst hg
    refine .inr ⟨g, cap, cur.setIfInBounds j u, by rw [hc], h1, heap_setCell_same w g j cur e u h2, h3, h4, by rw [Array.size_setIfInBounds]; exact h5, ?_⟩
    rw [Array.toList_setIfInBounds, List.take_set, h6]
theorem win_set (D : List (Nat × Nat)) (x : Nat × Nat) (R : List (Nat × Nat)) (b : Nat) : (winCells (D ++ x :: R)).set (D.length * 2) (.int .u64 (b : Int)) = winCells ((D ++ [(b, x.2)]) ++ R) := by
  unfold winCells
  have h := flat_set wiCells 2 wi_len (D ++ x :: R) D.length 0 (b, x.2) (.int .u64 (b : Int)) (by simp) (by omega) (by simp [wiCells])
  rw [Nat.add_zero] at h
  rw [h]
  congr 1
  simp
/-- What windows gives. -/
def WinR (t : TypeId) (X : List (Nat × Nat) × Int) (base : Nat) (e : Ending) (w' : World) : Prop := ∃ A c, e = .returned (.tuple #[.slice A X.1.length c, .int .i64 X.2]) ∧ w'.ownsRow base t 2 (.slice A X.1.length c) X.1.length (winCells X.1)
theorem winR_no {t : TypeId} (n : Int) (base : Nat) (w' : World) : WinR t ([], n) base (.returned (.tuple #[.slice none 0 0, .int .i64 n])) w' := ⟨none, 0, rfl, World.ownsRow_nil _ _ _ _⟩
theorem outs_bad {l : List Nd} {p : Nat} {x : Nat × Nat} {R : List (Nat × Nat)} (h : (outF l p x.1 x.2).2 ≠ 0) : outsF l p (x :: R) = ([], (outF l p x.1 x.2).2) := by rw [outsF, if_pos h]
theorem outs_mid {l : List Nd} {p : Nat} {x : Nat × Nat} {R : List (Nat × Nat)} (h : (outF l p x.1 x.2).2 = 0) (h2 : (outsF l p R).2 ≠ 0) : outsF l p (x :: R) = ([], (outsF l p R).2) := by rw [outsF, if_neg (fun hh => hh h), if_pos h2]
theorem outs_ok {l : List Nd} {p : Nat} {x : Nat × Nat} {R : List (Nat × Nat)} (h : (outF l p x.1 x.2).2 = 0) (h2 : (outsF l p R).2 = 0) : outsF l p (x :: R) = (((outF l p x.1 x.2).1, x.2) :: (outsF l p R).1, 0) := by rw [outsF, if_neg (fun hh => hh h), if_neg (fun hh => hh h2)]
theorem outs_step (l : List Nd) (p : Nat) (x : Nat × Nat) (R : List (Nat × Nat)) (D ws : List (Nat × Nat)) (X : List (Nat × Nat) × Int) (h : X = if (outsF l p (x :: R)).2 ≠ 0 then ([], (outsF l p (x :: R)).2) else (D ++ (outsF l p (x :: R)).1, 0)) :
    ((outF l p x.1 x.2).2 ≠ 0 → X = ([], (outF l p x.1 x.2).2)) ∧ ((outF l p x.1 x.2).2 = 0 → X = if (outsF l p R).2 ≠ 0 then ([], (outsF l p R).2) else ((D ++ [((outF l p x.1 x.2).1, x.2)]) ++ (outsF l p R).1, 0)) := by
  constructor
  · intro h1
    rw [outs_bad h1, if_pos h1] at h
    exact h
  · intro h1
    by_cases h2 : (outsF l p R).2 = 0
    · rw [outs_ok h1 h2] at h
      rw [if_neg (fun hh => hh h2), h]
      show (if (0 : Int) ≠ 0 then _ else _) = _
      rw [if_neg (fun hh => hh rfl), List.append_assoc]
      rfl
    · rw [outs_mid h1 h2, if_pos h2] at h
      rw [if_pos h2]
      exact h
theorem outs_snd (l : List Nd) (p : Nat) (ws : List (Nat × Nat)) : outsF l p ws = if (outsF l p ws).2 ≠ 0 then ([], (outsF l p ws).2) else ([] ++ (outsF l p ws).1, 0) := by
  cases ws with
  | nil => rfl
  | cons x R =>
    by_cases h1 : (outF l p x.1 x.2).2 = 0
    · by_cases h2 : (outsF l p R).2 = 0
      · rw [outs_ok h1 h2]; rfl
      · rw [outs_mid h1 h2, if_pos h2]
    · rw [outs_bad h1, if_pos h1]
set_option maxRecDepth 100000 in
set_option maxHeartbeats 16000000 in
theorem windows_any (A : Option Addr) (cap n : Nat) (l : List Nm) (hn : n = l.length) (hn5 : n ≤ 1048576) (hsz : Sized l) (hsh : ShortL (dat l)) (hu : Ups (dat l)) (i : Nat) (h0 : 0 < i) (hi : i < n) (w : World) (B : Nat) (hB : B ≤ w.heap.size) (hs : Nodes w B A l) :
    Calls Try.prog 34 #[.slice A n cap, .int .i64 (i : Nat)] w fun e w' => WinR 31 (windowsF (dat l) i) w.heap.size e w' ∧ Below w.heap.size w w' := by
  have hil : i < l.length := by rw [← hn]; exact hi
  have hup := ups_par hu h0 (by rw [dat_len]; exact hil)
  obtain ⟨p, hp⟩ : ∃ p, p = parN (dat l) i := ⟨_, rfl⟩
  rw [← hp] at hup
  have hwf : windowsF (dat l) i = match regF (dat l) i with
    | none => ([], 4)
    | some ws => outsF (dat l) p ws := by unfold windowsF; rw [← hp]; rfl
  rw [hwf]
  have RE := reg_any A cap n l hn hsz hsh i hi (by rw [hup.2]; omega) (by rw [hup.2]; omega) w B hB hs
  have hrl : ∀ ws, regF (dat l) i = some ws → _ := fun ws h => reg_lt h
  generalize regF (dat l) i = G at *
  have hii : (i : Int) < (n : Int) := by omega
  cases G with
  | none =>
    have RE' : Calls Try.prog 49 #[.slice A n cap, .int .i64 (i : Nat)] w fun e w' => e = .returned (.tuple #[.slice none 0 0, .int .i64 4]) ∧ Below w.heap.size w w' := RE
    have HRE := Lib.hid RE'
    clear RE RE' hrl hwf hp hup hn hsz hsh hu hs hB
    go_enter Try.func34, Try.ntmps34
    go_wp2_with (first
      | (go_at_call 49; refine HRE.out.mono ?_; rintro e w1 ⟨rfl, hb1⟩
         have HB1 := Lib.hid hb1
         clear hb1)
      | fail)
    go_ret2
    exact ⟨winR_no 4 _ _, HB1.out⟩
  | some ws =>
    have RE' : Calls Try.prog 49 #[.slice A n cap, .int .i64 (i : Nat)] w fun e w' => (∃ AL cL, e = .returned (.tuple #[.slice AL ws.length cL, .int .i64 0]) ∧ w'.ownsRow w.heap.size 31 2 (.slice AL ws.length cL) ws.length (winCells ws)) ∧ Below w.heap.size w w' := RE
    obtain ⟨N, hN⟩ : ∃ N, N = ws.length := ⟨_, rfl⟩
    rw [← hN] at RE'
    have HRE := Lib.hid RE'
    have HRL := Lib.hid (hrl ws rfl)
    obtain ⟨X, hX⟩ : ∃ X, X = outsF (dat l) p ws := ⟨_, rfl⟩
    show Calls Try.prog 34 _ _ fun e w' => WinR 31 (outsF (dat l) p ws) _ e w' ∧ _
    rw [← hX]
    have hX2 : X = if (outsF (dat l) p ws).2 ≠ 0 then ([], (outsF (dat l) p ws).2) else ([] ++ (outsF (dat l) p ws).1, 0) := by rw [hX]; exact outs_snd _ _ _
    have HX := Lib.hid hX2
    obtain ⟨b, off, rfl, hbB, x0, _⟩ := hs.at_ hil
    have hpj : l[i].d.p = (p : Nat) := by rw [← par_get l hil]; exact hup.2
    rw [hpj] at x0
    have hbw : b < w.heap.size := Nat.lt_of_lt_of_le hbB hB
    have CX : ∀ W, Below w.heap.size w W → W.cell? ⟨b, off + i * 3, none⟩ = some (.int .i64 (p : Int)) := fun W hW => (hW.cell (p := ⟨b, off + i * 3, none⟩) hbw).trans x0
    have WY : ∀ W, Below w.heap.size w W → _ := fun W (hW : Below w.heap.size w W) => way_any (some ⟨b, off, none⟩) cap n l hn (by omega) hu p (by omega) W B (Nat.le_trans hB hW.size) (hs.below (hW.mono hB))
    have hwl := way_len hu p (by rw [dat_len, ← hn]; omega)
    have hwm := way_mem hu p (by rw [dat_len, ← hn]; omega)
    have TH : ∀ W, Below w.heap.size w W → ∀ Aw cw, W.ownsRow w.heap.size 3 1 (.slice Aw (wayF (dat l) p).length cw) (wayF (dat l) p).length (nats (wayF (dat l) p)) → ∀ bq sq, bq < 18446744073709551616 → sq < 18446744073709551616 → Calls Try.prog 30 #[.slice (some ⟨b, off, none⟩) n cap, .slice Aw (wayF (dat l) p).length cw, .agg #[.int .u64 (bq : Nat), .int .u64 (sq : Nat)], .bool false] W fun e w' => e = .returned (.tuple #[.int .u64 ((outF (dat l) p bq sq).1 : Nat), .int .i64 (outF (dat l) p bq sq).2]) ∧ Below W.heap.size W w' := fun W hW Aw cw ho bq sq hbq hsq => by
      have := through_any (some ⟨b, off, none⟩) cap n l hn hsz hsh hu Aw cw (wayF (dat l) p).length (wayF (dat l) p) rfl (by omega) (fun y hy => by have := hwm y hy; omega) bq sq hbq hsq false W B W.heap.size (Nat.le_trans hB hW.size) (hs.below (hW.mono hB)) (Nat.le_refl _) (own_seg ho)
      rw [thr_out] at this
      exact this
    have HOL : ∀ bq sq, bq < 18446744073709551616 → (outF (dat l) p bq sq).1 < 18446744073709551616 := fun bq sq hbq => by
      have := thr_lt (l := dat l) (down := false) (wayF (dat l) p) bq sq hbq
      rw [thr_out] at this
      exact this
    have HOL := Lib.hid HOL
    have HN := Lib.hid hN
    have HCX := Lib.hid CX
    have HWY := Lib.hid WY
    have HTH := Lib.hid TH
    clear RE RE' hrl hwf hp hup hn hsz hsh hu hs hN hX hX2 x0 hpj CX WY TH hwl hwm
    generalize hWW : wayF (dat l) p = WW at HWY HTH
    clear hWW
    go_enter Try.func34, Try.ntmps34
    go_wp2_with (first
      | (go_at_call 49; refine HRE.out.mono ?_; rintro e w1 ⟨⟨AL, cL, rfl, hown⟩, hb1⟩
         have HB1 := Lib.hid hb1
         have HO := Lib.hid hown
         clear hb1 hown)
      | fail)
    have hNb : N ≤ maxLen := by
      rcases HO.out.2 with ⟨_, h⟩ | ⟨g, cap, cur, hv, h1, h2, h3, h4, _⟩
      · rw [h]; exact Nat.zero_le _
      · injection hv with _ hv
        exact Nat.le_trans h3 h4
    unfold maxLen at hNb
    go_loopw [21] (fun iv wx => ∃ (k : Nat) (D R : List (Nat × Nat)), k ≤ N ∧ iv = .int .i64 k ∧ D.length = k ∧ ws.drop k = R ∧ (X = if (outsF (dat l) p R).2 ≠ 0 then ([], (outsF (dat l) p R).2) else (D ++ (outsF (dat l) p R).1, 0)) ∧ wx.ownsRow w.heap.size 31 2 (.slice AL N cL) N (winCells (D ++ R)) ∧ Below w.heap.size w wx) (fun iv _ => N - (intOf iv).toNat)
    case atStart => exact ⟨0, [], ws, by omega, rfl, rfl, rfl, HX.out, HO.out, HB1.out⟩
    case round =>
      obtain ⟨k, D, R, hk, rfl, hD, hR, hXk, hown, hb⟩ := hrel
      have HD := Lib.hid hD
      have HXK := Lib.hid hXk
      have HOW := Lib.hid hown
      have HB := Lib.hid hb
      have hbs := hb.size
      clear hXk hD
      by_cases hkN : k < N
      · have hkL : k < ws.length := by rw [← HN.out]; exact hkN
        have hki : (k : Int) < (N : Int) := by omega
        have hdr : ws.drop k = ws[k] :: ws.drop (k + 1) := List.drop_eq_getElem_cons hkL
        have hxl := HRL.out ws[k] (List.getElem_mem hkL)
        obtain ⟨⟨bq, sq⟩, hxe⟩ : ∃ x, x = ws[k] := ⟨_, rfl⟩
        rw [← hxe] at hdr hxl
        obtain ⟨R2, hR2⟩ : ∃ R2, R2 = ws.drop (k + 1) := ⟨_, rfl⟩
        rw [← hR2] at hdr
        obtain rfl : R = (bq, sq) :: R2 := by rw [← hR, hdr]
        have HR2 := Lib.hid hR2
        obtain ⟨hbq, hsq⟩ : bq < 18446744073709551616 ∧ sq < 18446744073709551616 := hxl
        obtain ⟨g, eA, hg1, hg2, hrA⟩ := RowAt.of_own hown (Nat.lt_of_le_of_lt (Nat.zero_le _) hkN)
        have hDl : (D ++ (bq, sq) :: R2).length = N := by
          have h1 := hown.1
          unfold winCells at h1
          rw [flat_length wiCells 2 wi_len] at h1
          omega
        have hkD : k < (D ++ (bq, sq) :: R2).length := by rw [hDl]; exact hkN
        have hge : (D ++ (bq, sq) :: R2)[k] = (bq, sq) := by
          rw [List.getElem_append_right (by rw [HD.out]; exact Nat.le_refl _)]
          simp [HD.out]
        have hcell : ∀ j u, (wiCells (bq, sq))[j]? = some u → wr.cell? ⟨g, k * 2 + j, none⟩ = some u := fun j u hu => by
          have hj : j < 2 := (List.getElem?_eq_some_iff.1 hu).1
          have hlt : k * 2 + j < (winCells (D ++ (bq, sq) :: R2)).length := by rw [hown.1]; omega
          rw [hrA.cell hlt]
          unfold winCells
          rw [flat_get wiCells 2 wi_len _ k j hkD hj, hge]
          exact hu
        have x0 : wr.cell? ⟨g, k * 2, none⟩ = some (.int .u64 (bq : Int)) := hcell 0 _ rfl
        have x1 : wr.cell? ⟨g, k * 2 + 1, none⟩ = some (.int .u64 (sq : Int)) := hcell 1 _ rfl
        have hgf := hrA.frozen (k * 2)
        subst eA
        have hst := outs_step (dat l) p (bq, sq) R2 D ws X HXK.out
        have hOL := HOL.out bq sq hbq
        have TB := fun W hW Aw cw ho => HTH.out W hW Aw cw ho bq sq hbq hsq
        generalize hOO : outF (dat l) p bq sq = OO at TB hOL
        have hst1 : OO.2 ≠ 0 → X = ([], OO.2) := fun h => by have := hst.1; simp only [hOO] at this; exact this h
        have hst2 : OO.2 = 0 → X = if (outsF (dat l) p R2).2 ≠ 0 then ([], (outsF (dat l) p R2).2) else ((D ++ [(OO.1, sq)]) ++ (outsF (dat l) p R2).1, 0) := fun h => by have := hst.2; simp only [hOO] at this; exact this h
        obtain ⟨ob, oe⟩ := OO
        have HST1 := Lib.hid hst1
        have HST2 := Lib.hid hst2
        have HTB := Lib.hid TB
        have hOL : ob < 18446744073709551616 := hOL
        have c0 := HCX.out wr hb
        have hrt := hrA.lt
        clear hR hdr hxe hR2 hrA hcell hge hkD hst hst1 hst2 TB hOO hown hb
        go_wp2_with fail
        obtain ⟨wq, hwq⟩ : ∃ wq, wq = wr.alloc (.cells #[.int .u64 (bq : Int), .int .u64 (sq : Int)] 31) := ⟨_, rfl⟩
        have hbq9 : Below wr.heap.size wr wq := by rw [hwq]; exact (Below.refl _ wr).alloc (Nat.le_refl _) _
        have y0 : wq.cell? ⟨wr.heap.size, 0, none⟩ = some (.int .u64 (bq : Int)) := by rw [hwq]; exact cell_of_row _ _ _ _ _ _ (heap_alloc_new wr _)
        have y1 : wq.cell? ⟨wr.heap.size, 1, none⟩ = some (.int .u64 (sq : Int)) := by rw [hwq]; exact cell_of_row _ _ _ _ _ _ (heap_alloc_new wr _)
        have hqlt : wr.heap.size < wq.heap.size := by rw [hwq]; simp
        have HBQ := Lib.hid hbq9
        rw [← hwq]
        clear hwq hbq9
        refine wp_region_held_drew (S := fun W => W.cell? ⟨b, off + i * 3, none⟩ = some (.int .i64 (p : Int)) ∧ W.cell? ⟨wr.heap.size, 0, none⟩ = some (.int .u64 (bq : Int)) ∧ W.cell? ⟨wr.heap.size, 1, none⟩ = some (.int .u64 (sq : Int))) (by kernel_rfl) ⟨(HBQ.out.cell (p := ⟨b, off + i * 3, none⟩) (Nat.lt_of_lt_of_le hbw hbs)).trans c0, y0, y1⟩ (fun hHeld => ?_)
        (refine held_take (i := 0) rfl rfl (by kernel_rfl) (by kernel_rfl) (by kernel_rfl) (fun _ _ _ h => h) (by rfl) (by intro w hSw; obtain ⟨hS1, hS2, hS3⟩ := hSw; go_simp; first | done | with_reducible rfl) (by assumption) ?_; try simp only [Act.put, List.setIfInBounds_toArray, List.set_cons_zero, List.set_cons_succ])
        (refine held_take (i := 1) rfl rfl (by kernel_rfl) (by kernel_rfl) (by kernel_rfl) (fun _ _ _ h => h) (by rfl) (by intro w hSw; obtain ⟨hS1, hS2, hS3⟩ := hSw; go_simp; first | done | with_reducible rfl) (by assumption) ?_; try simp only [Act.put, List.setIfInBounds_toArray, List.set_cons_zero, List.set_cons_succ])
        (refine held_take (i := 2) rfl rfl (by kernel_rfl) (by kernel_rfl) (by kernel_rfl) (fun _ _ _ h => h) (by rfl) (by intro w hSw; obtain ⟨hS1, hS2, hS3⟩ := hSw; go_simp; first | done | with_reducible rfl) (by assumption) ?_; try simp only [Act.put, List.setIfInBounds_toArray, List.set_cons_zero, List.set_cons_succ])
        (refine held_take (i := 3) rfl rfl (by kernel_rfl) (by kernel_rfl) (by kernel_rfl) (fun _ _ _ h => h) (by rfl) (by intro w hSw; obtain ⟨hS1, hS2, hS3⟩ := hSw; go_simp; first | done | with_reducible rfl) (by assumption) ?_; try simp only [Act.put, List.setIfInBounds_toArray, List.set_cons_zero, List.set_cons_succ])
        (refine held_take (i := 4) rfl rfl (by kernel_rfl) (by kernel_rfl) (by kernel_rfl) (fun _ _ _ h => h) (by rfl) (by intro w hSw; obtain ⟨hS1, hS2, hS3⟩ := hSw; go_simp; first | done | with_reducible rfl) (by assumption) ?_; try simp only [Act.put, List.setIfInBounds_toArray, List.set_cons_zero, List.set_cons_succ])
        (refine held_take (i := 5) rfl rfl (by kernel_rfl) (by kernel_rfl) (by kernel_rfl) (fun _ _ _ h => h) (by rfl) (by intro w hSw; obtain ⟨hS1, hS2, hS3⟩ := hSw; go_simp; first | done | with_reducible rfl) (by assumption) ?_; try simp only [Act.put, List.setIfInBounds_toArray, List.set_cons_zero, List.set_cons_succ])
        (refine held_take (i := 6) rfl rfl (by kernel_rfl) (by kernel_rfl) (by kernel_rfl) (fun _ _ _ h => h) (by rfl) (by intro w hSw; obtain ⟨hS1, hS2, hS3⟩ := hSw; go_simp; first | done | with_reducible rfl) (by assumption) ?_; try simp only [Act.put, List.setIfInBounds_toArray, List.set_cons_zero, List.set_cons_succ])
        (refine held_take (i := 7) rfl rfl (by kernel_rfl) (by kernel_rfl) (by kernel_rfl) (fun _ _ _ h => h) (by rfl) (by intro w hSw; obtain ⟨hS1, hS2, hS3⟩ := hSw; go_simp; first | done | with_reducible rfl) (by assumption) ?_; try simp only [Act.put, List.setIfInBounds_toArray, List.set_cons_zero, List.set_cons_succ])
        (refine held_take (i := 8) rfl rfl (by kernel_rfl) (by kernel_rfl) (by kernel_rfl) (fun _ _ _ h => h) (by rfl) (by intro w hSw; obtain ⟨hS1, hS2, hS3⟩ := hSw; go_simp; first | done | with_reducible rfl) (by assumption) ?_; try simp only [Act.put, List.setIfInBounds_toArray, List.set_cons_zero, List.set_cons_succ])
        (refine held_take (i := 10) rfl rfl (by kernel_rfl) (by kernel_rfl) (by kernel_rfl) (fun _ _ _ h => h) (by rfl) (by intro w hSw; obtain ⟨hS1, hS2, hS3⟩ := hSw; go_simp; first | done | with_reducible rfl) (by assumption) ?_; try simp only [Act.put, List.setIfInBounds_toArray, List.set_cons_zero, List.set_cons_succ])
        refine wpAnyH_ready (rs := [9]) (by kernel_rfl) (by simp) ?_
        refine AllReadyH.cons rfl (fun K hK => ?_) AllReadyH.nil
        go_simp
        go_at_call 31
        refine (HWY.out _ ((HB.out.trans (HBQ.out.mono hbs)).drew)).mono ?_
        rintro e w2 ⟨⟨Aw, cw, rfl, hrow2⟩, hb2⟩
        have hb2' : Below wq.heap.size wq w2 := ⟨hb2.os, hb2.tape, hb2.output, hb2.size, hb2.block⟩
        have HB2 := Lib.hid (below_next HBQ.out hb2')
        have hsz2 := hb2'.size
        have y0' : w2.cell? ⟨wr.heap.size, 0, none⟩ = some (.int .u64 (bq : Int)) := (hb2'.cell (p := ⟨wr.heap.size, 0, none⟩) hqlt).trans y0
        have y1' : w2.cell? ⟨wr.heap.size, 1, none⟩ = some (.int .u64 (sq : Int)) := (hb2'.cell (p := ⟨wr.heap.size, 1, none⟩) hqlt).trans y1
        have hcx : ∀ W, Below wr.heap.size wr W → W.cell? ⟨b, off + i * 3, none⟩ = some (.int .i64 (p : Int)) := fun W hW => (hW.cell (p := ⟨b, off + i * 3, none⟩) (Nat.lt_of_lt_of_le hbw hbs)).trans c0
        have HROW2 := Lib.hid hrow2
        clear hb2 hrow2
        refine hK.out _ _ ⟨hcx _ HB2.out, y0', y1'⟩ (fun hHeld => ?_)
        clear hK K
        try simp only [Act.put, List.setIfInBounds_toArray, List.set_cons_zero, List.set_cons_succ]
        refine wpAnyH_ready (rs := [11]) (by kernel_rfl) (by simp) ?_
        refine AllReadyH.cons rfl (fun K hK => ?_) AllReadyH.nil
        go_simp
        go_at_call 30
        refine (HTB.out w2 (HB.out.trans (HB2.out.mono hbs)) Aw cw (own_base HROW2.out (HB.out.trans (HBQ.out.mono hbs)).size)).mono ?_
        rintro e w3 ⟨rfl, hb3⟩
        have HB3 := Lib.hid (below_next HB2.out hb3)
        have y03 : w3.cell? ⟨wr.heap.size, 0, none⟩ = some (.int .u64 (bq : Int)) := (hb3.cell (p := ⟨wr.heap.size, 0, none⟩) (Nat.lt_of_lt_of_le hqlt hsz2)).trans y0'
        have y13 : w3.cell? ⟨wr.heap.size, 1, none⟩ = some (.int .u64 (sq : Int)) := (hb3.cell (p := ⟨wr.heap.size, 1, none⟩) (Nat.lt_of_lt_of_le hqlt hsz2)).trans y1'
        refine hK.out _ _ ⟨hcx _ HB3.out, y03, y13⟩ (fun hHeld => ?_)
        clear hK K hb3
        try simp only [Act.put, List.setIfInBounds_toArray, List.set_cons_zero, List.set_cons_succ]
        (refine held_take (i := 12) rfl rfl (by kernel_rfl) (by kernel_rfl) (by kernel_rfl) (fun _ _ _ h => h) (by rfl) (by intro w hSw; obtain ⟨hS1, hS2, hS3⟩ := hSw; go_simp; first | done | with_reducible rfl) (by assumption) ?_; try simp only [Act.put, List.setIfInBounds_toArray, List.set_cons_zero, List.set_cons_succ])
        (refine held_take (i := 13) rfl rfl (by kernel_rfl) (by kernel_rfl) (by kernel_rfl) (fun _ _ _ h => h) (by rfl) (by intro w hSw; obtain ⟨hS1, hS2, hS3⟩ := hSw; go_simp; first | done | with_reducible rfl) (by assumption) ?_; try simp only [Act.put, List.setIfInBounds_toArray, List.set_cons_zero, List.set_cons_succ])
        (refine held_take (i := 15) rfl rfl (by kernel_rfl) (by kernel_rfl) (by kernel_rfl) (fun _ _ _ h => h) (by rfl) (by intro w hSw; obtain ⟨hS1, hS2, hS3⟩ := hSw; go_simp; first | done | with_reducible rfl) (by assumption) ?_; try simp only [Act.put, List.setIfInBounds_toArray, List.set_cons_zero, List.set_cons_succ])
        (refine held_take (i := 16) rfl rfl (by kernel_rfl) (by kernel_rfl) (by kernel_rfl) (fun _ _ _ h => h) (by rfl) (by intro w hSw; obtain ⟨hS1, hS2, hS3⟩ := hSw; go_simp; first | done | with_reducible rfl) (by assumption) ?_; try simp only [Act.put, List.setIfInBounds_toArray, List.set_cons_zero, List.set_cons_succ])
        (refine held_take (i := 14) rfl rfl (by kernel_rfl) (by kernel_rfl) (by kernel_rfl) (fun _ _ _ h => h) (by rfl) (by intro w hSw; obtain ⟨hS1, hS2, hS3⟩ := hSw; go_simp; first | done | with_reducible rfl) (by assumption) ?_; try simp only [Act.put, List.setIfInBounds_toArray, List.set_cons_zero, List.set_cons_succ])
        have x03 : w3.cell? ⟨g, k * 2, none⟩ = some (.int .u64 (bq : Int)) := (HB3.out.cell (p := ⟨g, k * 2, none⟩) hrt).trans x0
        have f03 : w3.frozen? ⟨g, k * 2, none⟩ = false := (HB3.out.frozen (p := ⟨g, k * 2, none⟩) hrt).trans hgf
        refine wpAnyH_ready (rs := [17]) (by kernel_rfl) (by simp) ?_
        refine AllReadyH.cons rfl (fun K hK => ?_) AllReadyH.nil
        go_simp
        have hgB : g ≠ b := by omega
        have hgq : g ≠ wr.heap.size := Nat.ne_of_lt hrt
        refine hK.out _ _ ⟨(World.cell?_setCell_other _ _ _ _ (by intro e; injection e with e; exact hgB e)).trans (hcx _ HB3.out), (World.cell?_setCell_other _ _ _ _ (by intro e; injection e with e; exact hgq e)).trans y03, (World.cell?_setCell_other _ _ _ _ (by intro e; injection e with e; exact hgq e)).trans y13⟩ (fun hHeld => ?_)
        clear hK K
        try simp only [Act.put, List.setIfInBounds_toArray, List.set_cons_zero, List.set_cons_succ]
        (refine held_take (i := 18) rfl rfl (by kernel_rfl) (by kernel_rfl) (by kernel_rfl) (fun _ _ _ h => h) (by rfl) (by intro w hSw; obtain ⟨hS1, hS2, hS3⟩ := hSw; go_simp; first | done | with_reducible rfl) (by assumption) ?_; try simp only [Act.put, List.setIfInBounds_toArray, List.set_cons_zero, List.set_cons_succ])
        refine wpAnyH_done (by kernel_rfl) ?_ _
        have hown3 : w3.ownsRow w.heap.size 31 2 (.slice (some ⟨g, 0, none⟩) N cL) N (winCells (D ++ (bq, sq) :: R2)) := own_keep HOW.out fun g' _ hlt => HB3.out.block g' hlt
        have hset := own_set hown3 (k * 2) (.int .u64 (ob : Int))
        rw [show k * 2 = D.length * 2 from by rw [HD.out], win_set] at hset
        rw [show D.length * 2 = k * 2 from by rw [HD.out]] at hset
        have HSET := Lib.hid hset
        have HBS := Lib.hid ((HB.out.trans (HB3.out.mono hbs)).setCell (p := ⟨g, k * 2, none⟩) hg1 (.int .u64 (ob : Int)))
        clear hown3 hset x03 f03 y03 y13 hcx y0' y1' hHeld
        by_cases hoe : oe = 0
        · subst hoe
          have HX3 := Lib.hid (HST2.out rfl)
          have HD3 := Lib.hid (show (D ++ [(ob, sq)]).length = k + 1 by rw [List.length_append, HD.out]; rfl)
          go_wp2_with fail
          exact ⟨⟨k + 1, D ++ [(ob, sq)], R2, by omega, by go_num, HD3.out, HR2.out.symm, HX3.out, HSET.out, HBS.out⟩, by simp [intOf]; omega⟩
        · have d1 : (oe == 0) = false := by rw [beq_eq_false_iff_ne]; exact hoe
          obtain rfl := HST1.out hoe
          go_wp2_with fail
          go_ret2
          exact ⟨winR_no oe _ _, HBS.out⟩
      · obtain rfl : k = N := by omega
        obtain rfl : R = [] := by rw [← hR]; exact List.drop_eq_nil_of_le (by rw [HN.out]; exact Nat.le_refl _)
        have hX3 : X = (D, 0) := by rw [HXK.out]; show (if (0 : Int) ≠ 0 then _ else _) = _; rw [if_neg (fun h => h rfl)]; show (D ++ [], (0 : Int)) = _; rw [List.append_nil]
        subst hX3
        have HO2 := HOW.out
        rw [List.append_nil] at HO2
        have HO3 := Lib.hid HO2
        have HB4 := Lib.hid hb
        clear hR hown hb HO2 HXK HX
        go_wp2_with fail
        go_ret2
        refine ⟨?_, HB4.out⟩
        show ∃ A c, _ = Ending.returned (.tuple #[.slice A D.length c, .int .i64 0]) ∧ _
        rw [HD.out]
        exact ⟨AL, cL, rfl, HO3.out⟩
end Go.Proofs.Ytndocngkganpdaa
