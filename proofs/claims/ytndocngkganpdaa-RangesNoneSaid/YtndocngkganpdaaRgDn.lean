/- The document's down: the contract. -/
import Derived.Test.YtndocngkganpdaaRgUp
set_option linter.unusedVariables false
namespace Go.Proofs.Ytndocngkganpdaa
open Go.RowKit
theorem down_zero (l : List Nd) (b : Nat) : downF l 0 b = (b, 0) := rfl
theorem downL_snoc (l : List Nd) (i : Nat) : ∀ (W : List Nat) (b : Nat), downL l (W ++ [i]) b = if (downL l W b).2 ≠ 0 then (0, (downL l W b).2) else downL l [i] (downL l W b).1
  | [], b => by show downL l [i] b = if (0 : Int) ≠ 0 then _ else _; rw [if_neg (fun h => h rfl)]; rfl
  | x :: r, b => by
    rw [List.cons_append, downL, downL]
    by_cases h : (downM (mapsF l x) b).2 ≠ 0
    · rw [if_pos h, if_pos h, if_pos h]
    · rw [if_neg h, if_neg h]
      exact downL_snoc l i r _
theorem down_err {m : List Mp × Bool × Int} {b : Nat} (h : (downM m b).2 ≠ 0) : downM m b = (0, (downM m b).2) := by
  unfold downM at h ⊢
  by_cases h1 : m.2.2 ≠ 0
  · rw [if_pos h1]
  · rw [if_neg h1] at h ⊢
    cases hm : m.2.1
    · rw [hm] at h
      simp only [Bool.false_eq_true, if_false] at h ⊢
      cases hf : m.1.find? fun x => withinB b 1 x.a x.s with
      | none => rfl
      | some x => rw [hf] at h; exact absurd rfl h
    · rw [hm] at h; exact absurd rfl h
theorem down_one (l : List Nd) (i b : Nat) : downL l [i] b = downM (mapsF l i) b := by
  rw [downL]
  by_cases h : (downM (mapsF l i) b).2 ≠ 0
  · rw [if_pos h, ← down_err h]
  · rw [if_neg h]
    show ((downM (mapsF l i) b).1, (0 : Int)) = _
    have : (downM (mapsF l i) b).2 = 0 := by omega
    rw [← this]
theorem down_step {l : List Nd} (h : Ups l) {i : Nat} (h0 : 0 < i) (hi : i < l.length) (b : Nat) : downF l i b = if (downF l (parN l i) b).2 ≠ 0 then (0, (downF l (parN l i) b).2) else downM (mapsF l i) (downF l (parN l i) b).1 := by
  unfold downF
  rw [way_step h h0 hi, List.reverse_cons, downL_snoc, down_one]
theorem down_lt (l : List Nd) (i b : Nat) (hb : b < 18446744073709551616) : (downF l i b).1 < 18446744073709551616 := by
  unfold downF
  rw [← thr_down]
  exact thr_lt _ _ _ hb
set_option maxRecDepth 100000 in
set_option maxHeartbeats 16000000 in
theorem rdown_any (A : Option Addr) (cap n : Nat) (l : List Nm) (hn : n = l.length) (hsz : Sized l) (hsh : ShortL (dat l)) (hu : Ups (dat l)) (b0 : Nat) (hb64 : b0 < 18446744073709551616) (B : Nat) : ∀ (i : Nat) (hi : i < n) (w : World) (hB : B ≤ w.heap.size) (hs : Nodes w B A l),
    Calls Try.prog 60 #[.slice A n cap, .int .i64 (i : Nat), .int .u64 (b0 : Nat)] w fun e w' => e = .returned (.tuple #[.int .u64 ((downF (dat l) i b0).1 : Nat), .int .i64 (downF (dat l) i b0).2]) ∧ Below w.heap.size w w' := by
  intro i
  induction i using Nat.strongRecOn with
  | ind i ih =>
  intro hi w hB hs
  rcases Nat.eq_zero_or_pos i with rfl | h0
  · rw [down_zero]
    clear ih hs hn hsz hsh hu
    go_enter Try.func60, Try.ntmps60
    go_wp2_with fail
    go_ret2
    exact ⟨rfl, Below.refl _ _⟩
  have hil : i < l.length := by rw [← hn]; exact hi
  have hup := ups_par hu h0 (by rw [dat_len]; exact hil)
  have hst := down_step hu h0 (by rw [dat_len]; exact hil) b0
  rw [hst]
  have hpj : l[i].d.p = (parN (dat l) i : Nat) := by rw [← par_get l hil]; exact hup.2
  obtain ⟨q, hq⟩ : ∃ q, q = parN (dat l) i := ⟨_, rfl⟩
  rw [← hq] at hup hpj ⊢
  have IH := ih q hup.1 (by omega) w hB hs
  have hlt := down_lt (dat l) q b0 hb64
  have MA := fun W (hW : Below w.heap.size w W) => rmaps_any A cap n l hn hsz hsh i hi (by rw [hup.2]; omega) (by rw [hup.2]; omega) W B (Nat.le_trans hB hW.size) (hs.below (hW.mono hB))
  have hgm := maps_goodM (dat l) i
  have hii : (i : Int) < (n : Int) := by omega
  have hi0 : ¬ (i : Int) = 0 := by omega
  obtain ⟨b9, off, eA, hbB, z0, _⟩ := hs.at_ hil
  rw [hpj] at z0
  subst eA
  have hnb : n ≤ 2932031007403 := by have := hsz.n; omega
  clear hst hq hpj hup ih hsz hsh hu hs hn
  generalize downF (dat l) q b0 = D at *
  generalize mapsF (dat l) i = M at *
  obtain ⟨b, de⟩ := D
  have HIH := Lib.hid IH
  clear IH
  by_cases hde : de = 0
  case neg =>
    rw [if_pos hde]
    have d1 : (de == 0) = false := by rw [beq_eq_false_iff_ne]; exact hde
    clear MA hgm
    go_enter Try.func60, Try.ntmps60
    go_wp2_with (first
      | (go_at_call 60; refine HIH.out.mono ?_; rintro e w1 ⟨rfl, hb1⟩
         have HB1 := Lib.hid hb1
         clear hb1)
      | fail)
    go_ret2
    exact ⟨rfl, HB1.out⟩
  subst hde
  rw [if_neg (fun h => h rfl)]
  have hbq : b < 18446744073709551616 := hlt
  show Calls Try.prog 60 _ _ fun e w' => e = .returned (.tuple #[.int .u64 ((downM M b).1 : Nat), .int .i64 (downM M b).2]) ∧ _
  obtain ⟨L, same, er⟩ := M
  have MA' : ∀ W, Below w.heap.size w W → Calls Try.prog 52 #[.slice (some ⟨b9, off, none⟩) n cap, .int .i64 (i : Nat)] W fun e w' => (∃ AL cL, e = .returned (.tuple #[.slice AL L.length cL, .bool same, .int .i64 er]) ∧ w'.ownsRow W.heap.size 84 3 (.slice AL L.length cL) L.length (mpCells L)) ∧ Below W.heap.size W w' := fun W hW => MA W hW
  obtain ⟨N, hN⟩ : ∃ N, N = L.length := ⟨_, rfl⟩
  rw [← hN] at MA'
  have HMA := Lib.hid MA'
  have HGM := Lib.hid hgm
  have HN := Lib.hid hN
  obtain ⟨res, hres⟩ : ∃ res, res = downM (L, same, er) b := ⟨_, rfl⟩
  rw [← hres]
  have HRES := Lib.hid hres
  clear MA MA' hgm hlt hN hres
  by_cases her : er = 0
  case neg =>
    have d1 : (er == 0) = false := by rw [beq_eq_false_iff_ne]; exact her
    obtain rfl : res = (0, er) := by rw [HRES.out]; unfold downM; rw [if_pos her]
    clear HRES
    go_enter Try.func60, Try.ntmps60
    go_wp2_with (first
      | (go_at_call 60; refine HIH.out.mono ?_; rintro e w1 ⟨rfl, hb1⟩
         have HB1 := Lib.hid hb1
         clear hb1)
      | (go_at_call 52; refine (HMA.out _ HB1.out).mono ?_; rintro e w2 ⟨⟨AL, cL, rfl, hown⟩, hb2⟩
         have HB2 := Lib.hid (below_next HB1.out hb2)
         clear hb2 hown)
      | fail)
    go_ret2
    exact ⟨rfl, HB2.out⟩
  subst her
  cases same with
  | true =>
    obtain rfl : res = (b, 0) := by rw [HRES.out]; unfold downM; rfl
    clear HRES
    go_enter Try.func60, Try.ntmps60
    go_wp2_with (first
      | (go_at_call 60; refine HIH.out.mono ?_; rintro e w1 ⟨rfl, hb1⟩
         have HB1 := Lib.hid hb1
         clear hb1)
      | (go_at_call 52; refine (HMA.out _ HB1.out).mono ?_; rintro e w2 ⟨⟨AL, cL, rfl, hown⟩, hb2⟩
         have HB2 := Lib.hid (below_next HB1.out hb2)
         clear hb2 hown)
      | fail)
    go_ret2
    exact ⟨rfl, HB2.out⟩
  | false =>
    have hr2 : res = match L.find? fun x => withinB b 1 x.a x.s with
        | some x => (x.k + (b - x.a), 0)
        | none => (0, 150) := HRES.out
    have HR2 := Lib.hid hr2
    clear HRES hr2
    go_enter Try.func60, Try.ntmps60
    go_wp2_with (first
      | (go_at_call 60; refine HIH.out.mono ?_; rintro e w1 ⟨rfl, hb1⟩
         have HB1 := Lib.hid hb1
         clear hb1)
      | (go_at_call 52; refine (HMA.out _ HB1.out).mono ?_; rintro e w2 ⟨⟨AL, cL, rfl, hown⟩, hb2⟩
         have HB2 := Lib.hid (below_next HB1.out hb2)
         have HO := Lib.hid (own_base hown HB1.out.size)
         clear hb2 hown)
      | fail)
    have hNb : N ≤ maxLen := by
      rcases HO.out.2 with ⟨_, h⟩ | ⟨g, cap, cur, hv, h1, h2, h3, h4, _⟩
      · rw [h]; exact Nat.zero_le _
      · injection hv with _ hv
        exact Nat.le_trans h3 h4
    unfold maxLen at hNb
    go_loopw [11] (fun iv wx => ∃ k : Nat, k ≤ N ∧ iv = .int .i64 k ∧ (∀ j (hj : j < L.length), j < k → withinB b 1 L[j].a L[j].s = false) ∧ wx.ownsRow w.heap.size 84 3 (.slice AL N cL) N (mpCells L) ∧ Below w.heap.size w wx) (fun iv _ => N - (intOf iv).toNat)
    case atStart => exact ⟨0, by omega, rfl, fun j _ h => absurd h (Nat.not_lt_zero j), HO.out, HB2.out⟩
    case round =>
      obtain ⟨k, hk, rfl, hno, hown, hb⟩ := hrel
      have HNO := Lib.hid hno
      have HOW := Lib.hid hown
      have HB := Lib.hid hb
      clear hno hown hb
      by_cases hkN : k < N
      · have hkL : k < L.length := by rw [← HN.out]; exact hkN
        have hki : (k : Int) < (N : Int) := by omega
        obtain ⟨g, off, eA, hg, xa⟩ := (own_seg HOW.out).thing (f := mpOne) (m := 3) mp_len (by omega) hkL
        subst eA
        have x0 : wr.cell? ⟨g, off + k * 3, none⟩ = some (.int .u64 (L[k].k : Int)) := xa 0 _ rfl
        have x1 : wr.cell? ⟨g, off + k * 3 + 1, none⟩ = some (.int .u64 (L[k].a : Int)) := xa 1 _ rfl
        have x2 : wr.cell? ⟨g, off + k * 3 + 2, none⟩ = some (.int .u64 (L[k].s : Int)) := xa 2 _ rfl
        obtain ⟨hx1, hx2, hx3, hx4⟩ := HGM.out L[k] (List.getElem_mem hkL)
        have hgt := fun h => good_to HGM.out (List.getElem_mem hkL) true (b := b) (s := 1) h
        have hhit := fun h => find_hit (p := fun x => withinB b 1 x.a x.s) hkL h (fun j hj hjk => HNO.out j hj hjk)
        obtain ⟨kx, hkx⟩ : ∃ q, q = L[k].k := ⟨_, rfl⟩
        obtain ⟨ax, hax⟩ : ∃ q, q = L[k].a := ⟨_, rfl⟩
        obtain ⟨sx, hsx⟩ : ∃ q, q = L[k].s := ⟨_, rfl⟩
        have hfx : frmF true L[k] = ax := by rw [hax]; rfl
        have htx : toF true L[k] = kx := by rw [hkx]; rfl
        rw [← hkx] at x0 hx2
        rw [← hax] at x1 hx3
        rw [← hsx] at x2 hx4
        rw [hfx, htx, ← hsx] at hgt
        have hsame : withinB b 1 (frmF true L[k]) L[k].s = withinB b 1 ax sx := by rw [hfx, ← hsx]
        have hres : withinB b 1 ax sx = true → res = (kx + (b - ax), 0) := fun h => by
          rw [HR2.out, hhit (hsame.trans h)]
          show (toF true L[k] + (b - frmF true L[k]), (0 : Int)) = _
          rw [htx, hfx]
        have HS := Lib.hid hsame
        have HRS := Lib.hid hres
        have HGT := Lib.hid hgt
        clear xa hx1 hhit hkx hax hsx hfx htx hsame hres hgt
        have WI := fun W => rwithin_any b 1 ax sx hbq (by omega) hx3 hx4 W
        obtain ⟨X, hX⟩ : ∃ X, X = withinB b 1 ax sx := ⟨_, rfl⟩
        rw [← hX] at HS HRS HGT WI
        have HWI := Lib.hid WI
        clear hX WI
        go_wp2_with fail
        refine still_tail 12 (by kernel_rfl) (by kernel_rfl) ?_
        simp only [List.take_succ_cons, List.take_zero, List.drop_succ_cons, List.drop_zero]
        repeat still_step
        try refine wpStill_nil ?_
        cases X with
        | true =>
          obtain rfl := HRS.out rfl
          obtain ⟨g1, g2⟩ := HGT.out rfl
          have k0 : (0 : Int) ≤ (b : Int) - (ax : Int) := by omega
          have k1 : IntKind.u64.wrap ((b : Int) - (ax : Int)) = (b : Int) - (ax : Int) := by rw [IntKind.wrap_u64]; omega
          have k2 : IntKind.u64.wrap ((kx : Int) + ((b : Int) - (ax : Int))) = (kx : Int) + ((b : Int) - (ax : Int)) := by rw [IntKind.wrap_u64]; omega
          have k3 : (kx : Int) + ((b : Int) - (ax : Int)) = ((kx + (b - ax) : Nat) : Int) := by omega
          have K3 := Lib.hid k3
          clear k3
          go_wp2_with (first
            | (go_at_call 68; refine (HWI.out _).mono ?_; rintro e w2 ⟨rfl, hb2⟩
               have hb3 : Below wr.heap.size wr w2 := ⟨hb2.os, hb2.tape, hb2.output, hb2.size, hb2.block⟩
               have HB2 := Lib.hid (below_next HB.out hb3)
               have y0 : w2.cell? ⟨g, off + k * 3, none⟩ = some (.int .u64 (kx : Int)) := (hb3.cell (p := ⟨g, off + k * 3, none⟩) hg).trans x0
               have y1 : w2.cell? ⟨g, off + k * 3 + 1, none⟩ = some (.int .u64 (ax : Int)) := (hb3.cell (p := ⟨g, off + k * 3 + 1, none⟩) hg).trans x1
               clear hb2 hb3)
            | fail)
          go_quiet (fail)
          go_wp2_with fail
          go_ret2
          exact ⟨ret_int2 K3.out rfl, below_drewN HB2.out _⟩
        | false =>
          have hno2 : ∀ j (hj : j < L.length), j < k + 1 → withinB b 1 L[j].a L[j].s = false := fun j hj hjk => by
            rcases (show j < k ∨ j = k by omega) with h2 | rfl
            · exact HNO.out j hj h2
            · exact HS.out
          have HNO2 := Lib.hid hno2
          clear hno2
          go_wp2_with (first
            | (go_at_call 68; refine (HWI.out _).mono ?_; rintro e w2 ⟨rfl, hb2⟩
               have hb3 : Below wr.heap.size wr w2 := ⟨hb2.os, hb2.tape, hb2.output, hb2.size, hb2.block⟩
               have HB2 := Lib.hid (below_next HB.out hb3)
               have HO2 := Lib.hid (own_keep HOW.out fun g _ hlt => hb3.block g hlt)
               clear hb2 hb3)
            | fail)
          exact ⟨⟨k + 1, by omega, by go_num, HNO2.out, HO2.out, HB2.out⟩, by simp [intOf]; omega⟩
      · obtain rfl : k = N := by omega
        have HM := find_miss (p := fun x => withinB b 1 x.a x.s) (L := L) (fun j hj => HNO.out j hj (by rw [HN.out]; exact hj))
        obtain rfl : res = (0, 150) := by rw [HR2.out, HM]
        clear HR2 HM
        go_wp2_with fail
        go_ret2
        exact ⟨rfl, HB.out⟩
end Go.Proofs.Ytndocngkganpdaa
