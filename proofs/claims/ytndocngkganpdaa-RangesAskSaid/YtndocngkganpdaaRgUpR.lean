/- The document's up, out, down, windows: the contracts. -/
import Derived.Test.YtndocngkganpdaaRgWin
set_option linter.unusedVariables false
namespace Go.Proofs.Ytndocngkganpdaa
open Go.RowKit
set_option maxRecDepth 100000 in
set_option maxHeartbeats 16000000 in
theorem rup_any (A : Option Addr) (cap n : Nat) (l : List Nm) (hn : n = l.length) (hsz : Sized l) (hsh : ShortL (dat l)) (i : Nat) (hi : i < n) (hp : 0 ≤ parAt (dat l) i) (hp2 : parAt (dat l) i < n) (b s : Nat) (hb64 : b < 18446744073709551616) (hs64 : s < 18446744073709551616) (w : World) (B : Nat) (hB : B ≤ w.heap.size) (hs : Nodes w B A l) :
    Calls Try.prog 58 #[.slice A n cap, .int .i64 (i : Nat), .agg #[.int .u64 (b : Nat), .int .u64 (s : Nat)]] w fun e w' => e = .returned (.tuple #[.int .u64 ((upF (dat l) i b s).1 : Nat), .int .i64 (upF (dat l) i b s).2]) ∧ Below w.heap.size w w' := by
  obtain ⟨w0, hw0⟩ : ∃ w0, w0 = w.alloc (.cells #[.int .u64 (b : Int), .int .u64 (s : Int)] 37) := ⟨_, rfl⟩
  have hb0 : Below w.heap.size w w0 := by rw [hw0]; exact (Below.refl _ w).alloc (Nat.le_refl _) _
  have z0 : w0.heap[w.heap.size]? = some (.cells #[.int .u64 (b : Int), .int .u64 (s : Int)] 37) := by rw [hw0]; exact heap_alloc_new _ _
  have hlt0 : w.heap.size < w0.heap.size := by rw [hw0]; simp
  have MA := rmaps_any A cap n l hn hsz hsh i hi hp hp2 w0 B (Nat.le_trans hB hb0.size) (hs.below (hb0.mono hB))
  have hgm := maps_goodM (dat l) i
  unfold upF
  generalize mapsF (dat l) i = M at *
  obtain ⟨L, same, er⟩ := M
  have MA' : Calls Try.prog 52 #[.slice A n cap, .int .i64 (i : Nat)] w0 fun e w' => (∃ AL cL, e = .returned (.tuple #[.slice AL L.length cL, .bool same, .int .i64 er]) ∧ w'.ownsRow w0.heap.size 84 3 (.slice AL L.length cL) L.length (mpCells L)) ∧ Below w0.heap.size w0 w' := MA
  have HMA := Lib.hid MA'
  have HB0 := Lib.hid hb0
  have Z0 := Lib.hid z0
  have HGM := Lib.hid hgm
  obtain ⟨res, hres⟩ : ∃ res, res = upM (L, same, er) b s := ⟨_, rfl⟩
  rw [← hres]
  have HRES := Lib.hid hres
  clear MA MA' hgm hn hsz hsh hp hp2 hs z0 hb0 hres
  by_cases her : er = 0
  case neg =>
    have d1 : (er == 0) = false := by rw [beq_eq_false_iff_ne]; exact her
    obtain rfl : res = (0, er) := by rw [HRES.out]; unfold upM; rw [if_pos her]
    clear HRES
    subst hw0
    go_enter Try.func58, Try.ntmps58
    go_wp2_with (first
      | (go_at_call 52; refine HMA.out.mono ?_; rintro e w1 ⟨⟨AL, cL, rfl, hown⟩, hb1⟩
         have HB1 := Lib.hid (HB0.out.trans (hb1.mono HB0.out.size))
         have z1 : w1.heap[w.heap.size]? = some (.cells #[.int .u64 (b : Int), .int .u64 (s : Int)] 37) := (hb1.block _ hlt0).trans Z0.out
         have c0 : w1.cell? ⟨w.heap.size, 0, none⟩ = some (.int .u64 (b : Int)) := (by rw [cell_of_row _ _ _ _ _ _ z1]; rfl)
         have HO := Lib.hid hown
         clear hb1 z1 hown)
      | fail)
    go_ret2
    exact ⟨rfl, HB1.out⟩
  subst her
  cases same with
  | true =>
    obtain rfl : res = (b, 0) := by rw [HRES.out]; unfold upM; rfl
    clear HRES
    subst hw0
    go_enter Try.func58, Try.ntmps58
    go_wp2_with (first
      | (go_at_call 52; refine HMA.out.mono ?_; rintro e w1 ⟨⟨AL, cL, rfl, hown⟩, hb1⟩
         have HB1 := Lib.hid (HB0.out.trans (hb1.mono HB0.out.size))
         have z1 : w1.heap[w.heap.size]? = some (.cells #[.int .u64 (b : Int), .int .u64 (s : Int)] 37) := (hb1.block _ hlt0).trans Z0.out
         have c0 : w1.cell? ⟨w.heap.size, 0, none⟩ = some (.int .u64 (b : Int)) := (by rw [cell_of_row _ _ _ _ _ _ z1]; rfl)
         have HO := Lib.hid hown
         clear hb1 z1 hown)
      | fail)
    go_ret2
    exact ⟨rfl, HB1.out⟩
  | false =>
    have hr2 : res = match L.find? fun x => withinB b s x.k x.s with
        | some x => (x.a + (b - x.k), 0)
        | none => (0, 150) := HRES.out
    have HR2 := Lib.hid hr2
    clear HRES hr2
    obtain ⟨N, hN⟩ : ∃ N, N = L.length := ⟨_, rfl⟩
    rw [← hN] at HMA
    have HN := Lib.hid hN
    clear hN
    subst hw0
    go_enter Try.func58, Try.ntmps58
    go_wp2_with (first
      | (go_at_call 52; refine HMA.out.mono ?_; rintro e w1 ⟨⟨AL, cL, rfl, hown⟩, hb1⟩
         have HB1 := Lib.hid (HB0.out.trans (hb1.mono HB0.out.size))
         have z1 : w1.heap[w.heap.size]? = some (.cells #[.int .u64 (b : Int), .int .u64 (s : Int)] 37) := (hb1.block _ hlt0).trans Z0.out
         have HO := Lib.hid hown
         have HZ := Lib.hid z1
         have hlt1 : w.heap.size < w1.heap.size := Nat.lt_of_lt_of_le hlt0 hb1.size
         clear hb1 z1 hown)
      | fail)
    obtain ⟨bs, hbs0⟩ : ∃ bs, bs = (w.alloc (.cells #[.int .u64 (b : Int), .int .u64 (s : Int)] 37)).heap.size := ⟨_, rfl⟩
    rw [← hbs0] at HO
    have hbs1 : w.heap.size < bs := by rw [hbs0]; exact hlt0
    clear hbs0 hlt0 HB0 Z0 HMA
    have hNb : N ≤ maxLen := by
      rcases HO.out.2 with ⟨_, h⟩ | ⟨g, cap, cur, hv, h1, h2, h3, h4, _⟩
      · rw [h]; exact Nat.zero_le _
      · injection hv with _ hv
        exact Nat.le_trans h3 h4
    unfold maxLen at hNb
    go_loopw [11] (fun iv wx => ∃ k : Nat, k ≤ N ∧ iv = .int .i64 k ∧ (∀ j (hj : j < L.length), j < k → withinB b s (L[j].k) L[j].s = false) ∧ wx.heap[w.heap.size]? = some (.cells #[.int .u64 (b : Int), .int .u64 (s : Int)] 37) ∧ wx.ownsRow bs 84 3 (.slice AL N cL) N (mpCells L) ∧ Below w.heap.size w wx) (fun iv _ => N - (intOf iv).toNat)
    case atStart => exact ⟨0, by omega, rfl, fun j _ h => absurd h (Nat.not_lt_zero j), HZ.out, HO.out, HB1.out⟩
    case round =>
      obtain ⟨k, hk, rfl, hno, hz, hown, hb⟩ := hrel
      have HNO := Lib.hid hno
      have HZ := Lib.hid hz
      have HOW := Lib.hid hown
      have HB := Lib.hid hb
      have hltz : w.heap.size < wr.heap.size := lt_of_heap hz
      clear hno hz hown hb
      by_cases hkN : k < N
      · have hkL : k < L.length := by rw [← HN.out]; exact hkN
        have hki : (k : Int) < (N : Int) := by omega
        obtain ⟨g, off, eA, hg, xa⟩ := (own_seg HOW.out).thing (f := mpOne) (m := 3) mp_len (by omega) hkL
        subst eA
        have x0 : wr.cell? ⟨g, off + k * 3, none⟩ = some (.int .u64 (L[k].k : Int)) := xa 0 _ rfl
        have x1 : wr.cell? ⟨g, off + k * 3 + 1, none⟩ = some (.int .u64 (L[k].a : Int)) := xa 1 _ rfl
        have x2 : wr.cell? ⟨g, off + k * 3 + 2, none⟩ = some (.int .u64 (L[k].s : Int)) := xa 2 _ rfl
        obtain ⟨hx1, hx2, hx3, hx4⟩ := HGM.out L[k] (List.getElem_mem hkL)
        have hgt := fun h => good_to HGM.out (List.getElem_mem hkL) false (b := b) (s := s) h
        have hhit := fun h => find_hit (p := fun x => withinB b s x.k x.s) hkL h (fun j hj hjk => HNO.out j hj hjk)
        obtain ⟨kx, hkx⟩ : ∃ q, q = L[k].k := ⟨_, rfl⟩
        obtain ⟨ax, hax⟩ : ∃ q, q = L[k].a := ⟨_, rfl⟩
        obtain ⟨sx, hsx⟩ : ∃ q, q = L[k].s := ⟨_, rfl⟩
        have hfx : frmF false L[k] = kx := by rw [hkx]; rfl
        have htx : toF false L[k] = ax := by rw [hax]; rfl
        rw [← hkx] at x0 hx2
        rw [← hax] at x1 hx3
        rw [← hsx] at x2 hx4
        rw [hfx, htx, ← hsx] at hgt
        have hsame : withinB b s (frmF false L[k]) L[k].s = withinB b s kx sx := by rw [hfx, ← hsx]
        have hres : withinB b s kx sx = true → res = (ax + (b - kx), 0) := fun h => by
          rw [HR2.out, hhit (hsame.trans h)]
          show (toF false L[k] + (b - frmF false L[k]), (0 : Int)) = _
          rw [htx, hfx]
        have HS := Lib.hid hsame
        have HRS := Lib.hid hres
        have HGT := Lib.hid hgt
        clear xa hx1 hhit hkx hax hsx hfx htx hsame hres hgt
        have WI := fun W => rwithin_any b s kx sx hb64 hs64 hx2 hx4 W
        obtain ⟨X, hX⟩ : ∃ X, X = withinB b s kx sx := ⟨_, rfl⟩
        rw [← hX] at HS HRS HGT WI
        have HWI := Lib.hid WI
        clear hX WI
        have c0 : wr.cell? ⟨w.heap.size, 0, none⟩ = some (.int .u64 (b : Int)) := by rw [cell_of_row _ _ _ _ _ _ HZ.out]; rfl
        have c1 : wr.cell? ⟨w.heap.size, 1, none⟩ = some (.int .u64 (s : Int)) := by rw [cell_of_row _ _ _ _ _ _ HZ.out]; rfl
        go_wp2_with fail
        refine still_tail 11 (by kernel_rfl) (by kernel_rfl) ?_
        simp only [List.take_succ_cons, List.take_zero, List.drop_succ_cons, List.drop_zero]
        repeat still_step
        try refine wpStill_nil ?_
        cases X with
        | true =>
          obtain rfl := HRS.out rfl
          obtain ⟨g1, g2⟩ := HGT.out rfl
          have k0 : (0 : Int) ≤ (b : Int) - (kx : Int) := by omega
          have k1 : IntKind.u64.wrap ((b : Int) - (kx : Int)) = (b : Int) - (kx : Int) := by rw [IntKind.wrap_u64]; omega
          have k2 : IntKind.u64.wrap ((ax : Int) + ((b : Int) - (kx : Int))) = (ax : Int) + ((b : Int) - (kx : Int)) := by rw [IntKind.wrap_u64]; omega
          have k3 : (ax : Int) + ((b : Int) - (kx : Int)) = ((ax + (b - kx) : Nat) : Int) := by omega
          have K3 := Lib.hid k3
          clear k3
          go_wp2_with (first
            | (go_at_call 68; refine (HWI.out _).mono ?_; rintro e w2 ⟨rfl, hb2⟩
               have hb3 : Below wr.heap.size wr w2 := ⟨hb2.os, hb2.tape, hb2.output, hb2.size, hb2.block⟩
               have HB2 := Lib.hid (below_next HB.out hb3)
               have c2 : w2.cell? ⟨w.heap.size, 0, none⟩ = some (.int .u64 (b : Int)) := (hb3.cell (p := ⟨w.heap.size, 0, none⟩) hltz).trans c0
               have y0 : w2.cell? ⟨g, off + k * 3, none⟩ = some (.int .u64 (kx : Int)) := (hb3.cell (p := ⟨g, off + k * 3, none⟩) hg).trans x0
               have y1 : w2.cell? ⟨g, off + k * 3 + 1, none⟩ = some (.int .u64 (ax : Int)) := (hb3.cell (p := ⟨g, off + k * 3 + 1, none⟩) hg).trans x1
               clear hb2 hb3)
            | fail)
          go_quiet (fail)
          go_wp2_with fail
          go_ret2
          exact ⟨ret_int2 K3.out rfl, below_drewN HB2.out _⟩
        | false =>
          have hno2 : ∀ j (hj : j < L.length), j < k + 1 → withinB b s (L[j].k) L[j].s = false := fun j hj hjk => by
            rcases (show j < k ∨ j = k by omega) with h2 | rfl
            · exact HNO.out j hj h2
            · exact HS.out
          have HNO2 := Lib.hid hno2
          clear hno2
          go_wp2_with (first
            | (go_at_call 68; refine (HWI.out _).mono ?_; rintro e w2 ⟨rfl, hb2⟩
               have hb3 : Below wr.heap.size wr w2 := ⟨hb2.os, hb2.tape, hb2.output, hb2.size, hb2.block⟩
               have HB2 := Lib.hid (below_next HB.out hb3)
               have HZ2 := Lib.hid ((hb3.block _ hltz).trans HZ.out)
               have HO2 := Lib.hid (own_keep HOW.out fun g _ hlt => hb3.block g hlt)
               clear hb2 hb3)
            | fail)
          exact ⟨⟨k + 1, by omega, by go_num, HNO2.out, HZ2.out, HO2.out, HB2.out⟩, by simp [intOf]; omega⟩
      · obtain rfl : k = N := by omega
        have HM := find_miss (p := fun x => withinB b s x.k x.s) (L := L) (fun j hj => HNO.out j hj (by rw [HN.out]; exact hj))
        obtain rfl : res = (0, 150) := by rw [HR2.out, HM]
        clear HR2 HM
        go_wp2_with fail
        go_ret2
        exact ⟨rfl, HB.out⟩
theorem up_lt {m : List Mp × Bool × Int} (h : GoodM m.1) {b s : Nat} (hb : b < 18446744073709551616) : (upM m b s).1 < 18446744073709551616 := by
  obtain ⟨_, h2, h3⟩ := car_up m b s
  by_cases he : (upM m b s).2 = 0
  · rw [← h2 he]; exact car_lt h hb false
  · rw [h3 he]; omega
theorem out_zero (l : List Nd) (b s : Nat) : outF l 0 b s = (b, 0) := rfl
theorem out_step {l : List Nd} (h : Ups l) {i : Nat} (h0 : 0 < i) (hi : i < l.length) (b s : Nat) : outF l i b s = if (upF l i b s).2 ≠ 0 then (0, (upF l i b s).2) else outF l (parN l i) (upF l i b s).1 s := by
  unfold outF
  rw [way_step h h0 hi]
  rfl
set_option maxRecDepth 100000 in
set_option maxHeartbeats 16000000 in
theorem rout_any (A : Option Addr) (cap n : Nat) (l : List Nm) (hn : n = l.length) (hsz : Sized l) (hsh : ShortL (dat l)) (hu : Ups (dat l)) (i : Nat) (hi : i < n) (b s : Nat) (hb64 : b < 18446744073709551616) (hs64 : s < 18446744073709551616) (w : World) (B : Nat) (hB : B ≤ w.heap.size) (hs : Nodes w B A l) :
    Calls Try.prog 59 #[.slice A n cap, .int .i64 (i : Nat), .agg #[.int .u64 (b : Nat), .int .u64 (s : Nat)]] w fun e w' => e = .returned (.tuple #[.int .u64 ((outF (dat l) i b s).1 : Nat), .int .i64 (outF (dat l) i b s).2]) ∧ Below w.heap.size w w' := by
  obtain ⟨res, hres⟩ : ∃ res, res = outF (dat l) i b s := ⟨_, rfl⟩
  rw [← hres]
  have HRES := Lib.hid hres
  have CA : ∀ (i : Nat), 0 < i → i < n → ∀ (b : Nat), b < 18446744073709551616 → ∀ W, Below w.heap.size w W → Calls Try.prog 58 #[.slice A n cap, .int .i64 (i : Nat), .agg #[.int .u64 (b : Nat), .int .u64 (s : Nat)]] W fun e w' => e = .returned (.tuple #[.int .u64 ((upF (dat l) i b s).1 : Nat), .int .i64 (upF (dat l) i b s).2]) ∧ Below W.heap.size W w' := fun i h0 hi b hb W hW => by
    have hp := hu i h0 (by rw [dat_len, ← hn]; exact hi)
    exact rup_any A cap n l hn hsz hsh i hi hp.1 (by omega) b s hb hs64 W B (Nat.le_trans hB hW.size) (hs.below (hW.mono hB))
  have HCA := Lib.hid CA
  have HN := Lib.hid hn
  have HS := Lib.hid hs
  have HU := Lib.hid hu
  have hb0 : Below w.heap.size w (w.alloc (.cells #[.int .u64 (b : Int), .int .u64 (s : Int)] 37)) := (Below.refl _ w).alloc (Nat.le_refl _) _
  have HR0 := Lib.hid (rowAt_box w 37 [.int .u64 (b : Int), .int .u64 (s : Int)])
  have HB0 := Lib.hid hb0
  clear hres CA hsz hsh hb0 hn hs hu
  go_enter Try.func59, Try.ntmps59
  go_wp2_with fail
  go_loopw [1] (fun iv wx => ∃ j bk : Nat, j ≤ i ∧ iv = .int .i64 j ∧ bk < 18446744073709551616 ∧ outF (dat l) j bk s = res ∧ RowAt wx w.heap.size 37 [.int .u64 (bk : Int), .int .u64 (s : Int)] ∧ Below w.heap.size w wx) (fun iv _ => (intOf iv).toNat)
  case atStart => exact ⟨i, b, Nat.le_refl _, rfl, hb64, HRES.out.symm, HR0.out, HB0.out⟩
  case round =>
    obtain ⟨j, bk, hj, rfl, hbk, hth, hro, hb⟩ := hrel
    have HTH := Lib.hid hth
    have HRO := Lib.hid hro
    have HB := Lib.hid hb
    have hltz : w.heap.size < wr.heap.size := hro.lt
    have c0 := hro.cell (k := 0) (by simp)
    have c1 := hro.cell (k := 1) (by simp)
    simp only [List.getElem?_cons_zero, List.getElem?_cons_succ] at c0 c1
    by_cases h0 : 0 < j
    · have hji : (0 : Int) < (j : Int) := by omega
      have hjn : j < n := by omega
      have hjl : j < l.length := by rw [← HN.out]; exact hjn
      have hjn2 : (j : Int) < (n : Int) := by omega
      have hup := ups_par HU.out h0 (by rw [dat_len]; exact hjl)
      have hst := out_step HU.out h0 (by rw [dat_len]; exact hjl) bk s
      rw [hth] at hst
      have hpj : l[j].d.p = (parN (dat l) j : Nat) := by rw [← par_get l hjl]; exact hup.2
      have hup1 := hup.1
      obtain ⟨q, hq⟩ : ∃ q, q = parN (dat l) j := ⟨_, rfl⟩
      rw [← hq] at hst hpj hup1
      obtain ⟨b9, off, eA, hbB, x0, _⟩ := (HS.out.below (hb.mono hB)).at_ hjl
      rw [hpj] at x0
      subst eA
      have hb9 : b9 < wr.heap.size := by omega
      have CB := HCA.out j h0 hjn bk hbk wr hb
      have hcl := up_lt (maps_goodM (dat l) j) (s := s) hbk
      unfold upF at CB hst
      generalize upM (mapsF (dat l) j) bk s = C at *
      obtain ⟨cb, ce⟩ := C
      have HCB := Lib.hid CB
      clear hup hq hpj hro hb CB hth
      by_cases hce : ce = 0
      · subst hce
        rw [if_neg (fun h => h rfl)] at hst
        have HT2 := Lib.hid hst
        have hcl : cb < 18446744073709551616 := hcl
        clear hst
        go_wp2_with (first
          | (go_at_call 58; refine HCB.out.mono ?_; rintro e w2 ⟨rfl, hb2⟩
             have HB2 := Lib.hid (below_next HB.out hb2)
             have r2 : RowAt w2 w.heap.size 37 [.int .u64 (bk : Int), .int .u64 (s : Int)] := HRO.out.keep (hb2.block _ hltz)
             have HST := Lib.hid (r2.store 0 (.int .u64 (cb : Int)))
             have d0 := r2.cell (k := 0) (by simp)
             have d1 := r2.frozen 0
             simp only [List.getElem?_cons_zero] at d0
             have hne : b9 ≠ w.heap.size := by omega
             have y0 : w2.cell? ⟨b9, off + j * 3, none⟩ = some (.int .i64 (q : Int)) := (hb2.cell (p := ⟨b9, off + j * 3, none⟩) hb9).trans x0
             have y1 : (w2.setCell ⟨w.heap.size, 0, none⟩ (.int .u64 (cb : Int))).cell? ⟨b9, off + j * 3, none⟩ = some (.int .i64 (q : Int)) := (World.cell?_setCell_other _ _ _ _ (by intro e; injection e with e; first | exact hne e | exact hne e.symm)).trans y0
             clear hb2 r2 y0)
          | fail)
        refine ⟨⟨q, cb, by omega, rfl, hcl, HT2.out.symm, HST.out, HB2.out.setCell (Nat.le_refl _) _⟩, by simp [intOf]; omega⟩
      · have d1 : (ce == 0) = false := by rw [beq_eq_false_iff_ne]; exact hce
        rw [if_pos hce] at hst
        obtain rfl : res = (0, ce) := hst
        clear HTH HRES
        go_wp2_with (first
          | (go_at_call 58; refine HCB.out.mono ?_; rintro e w2 ⟨rfl, hb2⟩
             have HB2 := Lib.hid (below_next HB.out hb2)
             clear hb2)
          | fail)
        go_ret2
        exact ⟨rfl, HB2.out⟩
    · obtain rfl : j = 0 := by omega
      rw [out_zero] at hth
      obtain rfl : res = (bk, 0) := hth.symm
      clear hth HTH HRES hro hb
      go_wp2_with fail
      go_ret2
      exact ⟨rfl, HB.out⟩
end Go.Proofs.Ytndocngkganpdaa

set_option linter.unusedVariables false
namespace Go.Proofs.Ytndocngkganpdaa
open Go.RowKit
theorem down_zero (l : List Nd) (b : Nat) : downF l 0 b = (b, 0) := rfl
theorem downL_snoc (l : List Nd) (i : Nat) : ∀ (W : List Nat) (b : Nat), downL l (W ++ [i]) b = if (downL l W b).2 ≠ 0 then (0, (downL l W b).2) else downL l [i] (downL l W b).1
  | [], b => by show downL l [i] b = if (0 : Int) ≠ 0 then _ else _; rw [if_neg (fun h => h rfl)]; rfl
  | x :: r, b => by
    rw [List.cons_append, downL, downL]
    by_cases h : (downM (mapsF l x) b).2 ≠ 0
    · rw [if_pos h, if_pos h, if_pos h]
    · rw [if_neg h, if_neg h]
      exact downL_snoc l i r _
theorem down_err {m : List Mp × Bool × Int} {b : Nat} (h : (downM m b).2 ≠ 0) : downM m b = (0, (downM m b).2) := by
  unfold downM at h ⊢
  by_cases h1 : m.2.2 ≠ 0
  · rw [if_pos h1]
  · rw [if_neg h1] at h ⊢
    cases hm : m.2.1
    · rw [hm] at h
      simp only [Bool.false_eq_true, if_false] at h ⊢
      cases hf : m.1.find? fun x => withinB b 1 x.a x.s with
      | none => rfl
      | some x => rw [hf] at h; exact absurd rfl h
    · rw [hm] at h; exact absurd rfl h
theorem down_one (l : List Nd) (i b : Nat) : downL l [i] b = downM (mapsF l i) b := by
  rw [downL]
  by_cases h : (downM (mapsF l i) b).2 ≠ 0
  · rw [if_pos h, ← down_err h]
  · rw [if_neg h]
    show ((downM (mapsF l i) b).1, (0 : Int)) = _
    have : (downM (mapsF l i) b).2 = 0 := by omega
    rw [← this]
theorem down_step {l : List Nd} (h : Ups l) {i : Nat} (h0 : 0 < i) (hi : i < l.length) (b : Nat) : downF l i b = if (downF l (parN l i) b).2 ≠ 0 then (0, (downF l (parN l i) b).2) else downM (mapsF l i) (downF l (parN l i) b).1 := by
  unfold downF
  rw [way_step h h0 hi, List.reverse_cons, downL_snoc, down_one]
theorem down_lt (l : List Nd) (i b : Nat) (hb : b < 18446744073709551616) : (downF l i b).1 < 18446744073709551616 := by
  unfold downF
  rw [← thr_down]
  exact thr_lt _ _ _ hb
set_option maxRecDepth 100000 in
set_option maxHeartbeats 16000000 in
theorem rdown_any (A : Option Addr) (cap n : Nat) (l : List Nm) (hn : n = l.length) (hsz : Sized l) (hsh : ShortL (dat l)) (hu : Ups (dat l)) (b0 : Nat) (hb64 : b0 < 18446744073709551616) (B : Nat) : ∀ (i : Nat) (hi : i < n) (w : World) (hB : B ≤ w.heap.size) (hs : Nodes w B A l),
    Calls Try.prog 60 #[.slice A n cap, .int .i64 (i : Nat), .int .u64 (b0 : Nat)] w fun e w' => e = .returned (.tuple #[.int .u64 ((downF (dat l) i b0).1 : Nat), .int .i64 (downF (dat l) i b0).2]) ∧ Below w.heap.size w w' := by
  intro i
  induction i using Nat.strongRecOn with
  | ind i ih =>
  intro hi w hB hs
  rcases Nat.eq_zero_or_pos i with rfl | h0
  · rw [down_zero]
    clear ih hs hn hsz hsh hu
    go_enter Try.func60, Try.ntmps60
    go_wp2_with fail
    go_ret2
    exact ⟨rfl, Below.refl _ _⟩
  have hil : i < l.length := by rw [← hn]; exact hi
  have hup := ups_par hu h0 (by rw [dat_len]; exact hil)
  have hst := down_step hu h0 (by rw [dat_len]; exact hil) b0
  rw [hst]
  have hpj : l[i].d.p = (parN (dat l) i : Nat) := by rw [← par_get l hil]; exact hup.2
  obtain ⟨q, hq⟩ : ∃ q, q = parN (dat l) i := ⟨_, rfl⟩
  rw [← hq] at hup hpj ⊢
  have IH := ih q hup.1 (by omega) w hB hs
  have hlt := down_lt (dat l) q b0 hb64
  have MA := fun W (hW : Below w.heap.size w W) => rmaps_any A cap n l hn hsz hsh i hi (by rw [hup.2]; omega) (by rw [hup.2]; omega) W B (Nat.le_trans hB hW.size) (hs.below (hW.mono hB))
  have hgm := maps_goodM (dat l) i
  have hii : (i : Int) < (n : Int) := by omega
  have hi0 : ¬ (i : Int) = 0 := by omega
  obtain ⟨b9, off, eA, hbB, z0, _⟩ := hs.at_ hil
  rw [hpj] at z0
  subst eA
  have hnb : n ≤ 2932031007403 := by have := hsz.n; omega
  clear hst hq hpj hup ih hsz hsh hu hs hn
  generalize downF (dat l) q b0 = D at *
  generalize mapsF (dat l) i = M at *
  obtain ⟨b, de⟩ := D
  have HIH := Lib.hid IH
  clear IH
  by_cases hde : de = 0
  case neg =>
    rw [if_pos hde]
    have d1 : (de == 0) = false := by rw [beq_eq_false_iff_ne]; exact hde
    clear MA hgm
    go_enter Try.func60, Try.ntmps60
    go_wp2_with (first
      | (go_at_call 60; refine HIH.out.mono ?_; rintro e w1 ⟨rfl, hb1⟩
         have HB1 := Lib.hid hb1
         clear hb1)
      | fail)
    go_ret2
    exact ⟨rfl, HB1.out⟩
  subst hde
  rw [if_neg (fun h => h rfl)]
  have hbq : b < 18446744073709551616 := hlt
  show Calls Try.prog 60 _ _ fun e w' => e = .returned (.tuple #[.int .u64 ((downM M b).1 : Nat), .int .i64 (downM M b).2]) ∧ _
  obtain ⟨L, same, er⟩ := M
  have MA' : ∀ W, Below w.heap.size w W → Calls Try.prog 52 #[.slice (some ⟨b9, off, none⟩) n cap, .int .i64 (i : Nat)] W fun e w' => (∃ AL cL, e = .returned (.tuple #[.slice AL L.length cL, .bool same, .int .i64 er]) ∧ w'.ownsRow W.heap.size 84 3 (.slice AL L.length cL) L.length (mpCells L)) ∧ Below W.heap.size W w' := fun W hW => MA W hW
  obtain ⟨N, hN⟩ : ∃ N, N = L.length := ⟨_, rfl⟩
  rw [← hN] at MA'
  have HMA := Lib.hid MA'
  have HGM := Lib.hid hgm
  have HN := Lib.hid hN
  obtain ⟨res, hres⟩ : ∃ res, res = downM (L, same, er) b := ⟨_, rfl⟩
  rw [← hres]
  have HRES := Lib.hid hres
  clear MA MA' hgm hlt hN hres
  by_cases her : er = 0
  case neg =>
    have d1 : (er == 0) = false := by rw [beq_eq_false_iff_ne]; exact her
    obtain rfl : res = (0, er) := by rw [HRES.out]; unfold downM; rw [if_pos her]
    clear HRES
    go_enter Try.func60, Try.ntmps60
    go_wp2_with (first
      | (go_at_call 60; refine HIH.out.mono ?_; rintro e w1 ⟨rfl, hb1⟩
         have HB1 := Lib.hid hb1
         clear hb1)
      | (go_at_call 52; refine (HMA.out _ HB1.out).mono ?_; rintro e w2 ⟨⟨AL, cL, rfl, hown⟩, hb2⟩
         have HB2 := Lib.hid (below_next HB1.out hb2)
         clear hb2 hown)
      | fail)
    go_ret2
    exact ⟨rfl, HB2.out⟩
  subst her
  cases same with
  | true =>
    obtain rfl : res = (b, 0) := by rw [HRES.out]; unfold downM; rfl
    clear HRES
    go_enter Try.func60, Try.ntmps60
    go_wp2_with (first
      | (go_at_call 60; refine HIH.out.mono ?_; rintro e w1 ⟨rfl, hb1⟩
         have HB1 := Lib.hid hb1
         clear hb1)
      | (go_at_call 52; refine (HMA.out _ HB1.out).mono ?_; rintro e w2 ⟨⟨AL, cL, rfl, hown⟩, hb2⟩
         have HB2 := Lib.hid (below_next HB1.out hb2)
         clear hb2 hown)
      | fail)
    go_ret2
    exact ⟨rfl, HB2.out⟩
  | false =>
    have hr2 : res = match L.find? fun x => withinB b 1 x.a x.s with
        | some x => (x.k + (b - x.a), 0)
        | none => (0, 150) := HRES.out
    have HR2 := Lib.hid hr2
    clear HRES hr2
    go_enter Try.func60, Try.ntmps60
    go_wp2_with (first
      | (go_at_call 60; refine HIH.out.mono ?_; rintro e w1 ⟨rfl, hb1⟩
         have HB1 := Lib.hid hb1
         clear hb1)
      | (go_at_call 52; refine (HMA.out _ HB1.out).mono ?_; rintro e w2 ⟨⟨AL, cL, rfl, hown⟩, hb2⟩
         have HB2 := Lib.hid (below_next HB1.out hb2)
         have HO := Lib.hid (own_base hown HB1.out.size)
         clear hb2 hown)
      | fail)
    have hNb : N ≤ maxLen := by
      rcases HO.out.2 with ⟨_, h⟩ | ⟨g, cap, cur, hv, h1, h2, h3, h4, _⟩
      · rw [h]; exact Nat.zero_le _
      · injection hv with _ hv
        exact Nat.le_trans h3 h4
    unfold maxLen at hNb
    go_loopw [11] (fun iv wx => ∃ k : Nat, k ≤ N ∧ iv = .int .i64 k ∧ (∀ j (hj : j < L.length), j < k → withinB b 1 L[j].a L[j].s = false) ∧ wx.ownsRow w.heap.size 84 3 (.slice AL N cL) N (mpCells L) ∧ Below w.heap.size w wx) (fun iv _ => N - (intOf iv).toNat)
    case atStart => exact ⟨0, by omega, rfl, fun j _ h => absurd h (Nat.not_lt_zero j), HO.out, HB2.out⟩
    case round =>
      obtain ⟨k, hk, rfl, hno, hown, hb⟩ := hrel
      have HNO := Lib.hid hno
      have HOW := Lib.hid hown
      have HB := Lib.hid hb
      clear hno hown hb
      by_cases hkN : k < N
      · have hkL : k < L.length := by rw [← HN.out]; exact hkN
        have hki : (k : Int) < (N : Int) := by omega
        obtain ⟨g, off, eA, hg, xa⟩ := (own_seg HOW.out).thing (f := mpOne) (m := 3) mp_len (by omega) hkL
        subst eA
        have x0 : wr.cell? ⟨g, off + k * 3, none⟩ = some (.int .u64 (L[k].k : Int)) := xa 0 _ rfl
        have x1 : wr.cell? ⟨g, off + k * 3 + 1, none⟩ = some (.int .u64 (L[k].a : Int)) := xa 1 _ rfl
        have x2 : wr.cell? ⟨g, off + k * 3 + 2, none⟩ = some (.int .u64 (L[k].s : Int)) := xa 2 _ rfl
        obtain ⟨hx1, hx2, hx3, hx4⟩ := HGM.out L[k] (List.getElem_mem hkL)
        have hgt := fun h => good_to HGM.out (List.getElem_mem hkL) true (b := b) (s := 1) h
        have hhit := fun h => find_hit (p := fun x => withinB b 1 x.a x.s) hkL h (fun j hj hjk => HNO.out j hj hjk)
        obtain ⟨kx, hkx⟩ : ∃ q, q = L[k].k := ⟨_, rfl⟩
        obtain ⟨ax, hax⟩ : ∃ q, q = L[k].a := ⟨_, rfl⟩
        obtain ⟨sx, hsx⟩ : ∃ q, q = L[k].s := ⟨_, rfl⟩
        have hfx : frmF true L[k] = ax := by rw [hax]; rfl
        have htx : toF true L[k] = kx := by rw [hkx]; rfl
        rw [← hkx] at x0 hx2
        rw [← hax] at x1 hx3
        rw [← hsx] at x2 hx4
        rw [hfx, htx, ← hsx] at hgt
        have hsame : withinB b 1 (frmF true L[k]) L[k].s = withinB b 1 ax sx := by rw [hfx, ← hsx]
        have hres : withinB b 1 ax sx = true → res = (kx + (b - ax), 0) := fun h => by
          rw [HR2.out, hhit (hsame.trans h)]
          show (toF true L[k] + (b - frmF true L[k]), (0 : Int)) = _
          rw [htx, hfx]
        have HS := Lib.hid hsame
        have HRS := Lib.hid hres
        have HGT := Lib.hid hgt
        clear xa hx1 hhit hkx hax hsx hfx htx hsame hres hgt
        have WI := fun W => rwithin_any b 1 ax sx hbq (by omega) hx3 hx4 W
        obtain ⟨X, hX⟩ : ∃ X, X = withinB b 1 ax sx := ⟨_, rfl⟩
        rw [← hX] at HS HRS HGT WI
        have HWI := Lib.hid WI
        clear hX WI
        go_wp2_with fail
        refine still_tail 12 (by kernel_rfl) (by kernel_rfl) ?_
        simp only [List.take_succ_cons, List.take_zero, List.drop_succ_cons, List.drop_zero]
        repeat still_step
        try refine wpStill_nil ?_
        cases X with
        | true =>
          obtain rfl := HRS.out rfl
          obtain ⟨g1, g2⟩ := HGT.out rfl
          have k0 : (0 : Int) ≤ (b : Int) - (ax : Int) := by omega
          have k1 : IntKind.u64.wrap ((b : Int) - (ax : Int)) = (b : Int) - (ax : Int) := by rw [IntKind.wrap_u64]; omega
          have k2 : IntKind.u64.wrap ((kx : Int) + ((b : Int) - (ax : Int))) = (kx : Int) + ((b : Int) - (ax : Int)) := by rw [IntKind.wrap_u64]; omega
          have k3 : (kx : Int) + ((b : Int) - (ax : Int)) = ((kx + (b - ax) : Nat) : Int) := by omega
          have K3 := Lib.hid k3
          clear k3
          go_wp2_with (first
            | (go_at_call 68; refine (HWI.out _).mono ?_; rintro e w2 ⟨rfl, hb2⟩
               have hb3 : Below wr.heap.size wr w2 := ⟨hb2.os, hb2.tape, hb2.output, hb2.size, hb2.block⟩
               have HB2 := Lib.hid (below_next HB.out hb3)
               have y0 : w2.cell? ⟨g, off + k * 3, none⟩ = some (.int .u64 (kx : Int)) := (hb3.cell (p := ⟨g, off + k * 3, none⟩) hg).trans x0
               have y1 : w2.cell? ⟨g, off + k * 3 + 1, none⟩ = some (.int .u64 (ax : Int)) := (hb3.cell (p := ⟨g, off + k * 3 + 1, none⟩) hg).trans x1
               clear hb2 hb3)
            | fail)
          go_quiet (fail)
          go_wp2_with fail
          go_ret2
          exact ⟨ret_int2 K3.out rfl, below_drewN HB2.out _⟩
        | false =>
          have hno2 : ∀ j (hj : j < L.length), j < k + 1 → withinB b 1 L[j].a L[j].s = false := fun j hj hjk => by
            rcases (show j < k ∨ j = k by omega) with h2 | rfl
            · exact HNO.out j hj h2
            · exact HS.out
          have HNO2 := Lib.hid hno2
          clear hno2
          go_wp2_with (first
            | (go_at_call 68; refine (HWI.out _).mono ?_; rintro e w2 ⟨rfl, hb2⟩
               have hb3 : Below wr.heap.size wr w2 := ⟨hb2.os, hb2.tape, hb2.output, hb2.size, hb2.block⟩
               have HB2 := Lib.hid (below_next HB.out hb3)
               have HO2 := Lib.hid (own_keep HOW.out fun g _ hlt => hb3.block g hlt)
               clear hb2 hb3)
            | fail)
          exact ⟨⟨k + 1, by omega, by go_num, HNO2.out, HO2.out, HB2.out⟩, by simp [intOf]; omega⟩
      · obtain rfl : k = N := by omega
        have HM := find_miss (p := fun x => withinB b 1 x.a x.s) (L := L) (fun j hj => HNO.out j hj (by rw [HN.out]; exact hj))
        obtain rfl : res = (0, 150) := by rw [HR2.out, HM]
        clear HR2 HM
        go_wp2_with fail
        go_ret2
        exact ⟨rfl, HB.out⟩
end Go.Proofs.Ytndocngkganpdaa

set_option linter.unusedVariables false
namespace Go.Proofs.Ytndocngkganpdaa
open Go.RowKit
set_option maxRecDepth 100000 in
set_option maxHeartbeats 16000000 in
theorem rwindows_any (A : Option Addr) (cap n : Nat) (l : List Nm) (hn : n = l.length) (hn5 : n ≤ 1048576) (hsz : Sized l) (hsh : ShortL (dat l)) (hu : Ups (dat l)) (i : Nat) (h0 : 0 < i) (hi : i < n) (w : World) (B : Nat) (hB : B ≤ w.heap.size) (hs : Nodes w B A l) :
    Calls Try.prog 46 #[.slice A n cap, .int .i64 (i : Nat)] w fun e w' => WinR 37 (windowsF (dat l) i) w.heap.size e w' ∧ Below w.heap.size w w' := by
  have hil : i < l.length := by rw [← hn]; exact hi
  have hup := ups_par hu h0 (by rw [dat_len]; exact hil)
  obtain ⟨p, hp⟩ : ∃ p, p = parN (dat l) i := ⟨_, rfl⟩
  rw [← hp] at hup
  have hwf : windowsF (dat l) i = match regF (dat l) i with
    | none => ([], 4)
    | some ws => outsF (dat l) p ws := by unfold windowsF; rw [← hp]; rfl
  rw [hwf]
  have RE := rreg_any A cap n l hn hsz hsh i hi (by rw [hup.2]; omega) (by rw [hup.2]; omega) w B hB hs
  have hrl : ∀ ws, regF (dat l) i = some ws → _ := fun ws h => reg_lt h
  generalize regF (dat l) i = G at *
  have hii : (i : Int) < (n : Int) := by omega
  cases G with
  | none =>
    have RE' : Calls Try.prog 56 #[.slice A n cap, .int .i64 (i : Nat)] w fun e w' => e = .returned (.tuple #[.slice none 0 0, .int .i64 4]) ∧ Below w.heap.size w w' := RE
    have HRE := Lib.hid RE'
    clear RE RE' hrl hwf hp hup hn hsz hsh hu hs hB
    go_enter Try.func46, Try.ntmps46
    go_wp2_with (first
      | (go_at_call 56; refine HRE.out.mono ?_; rintro e w1 ⟨rfl, hb1⟩
         have HB1 := Lib.hid hb1
         clear hb1)
      | fail)
    go_ret2
    exact ⟨winR_no 4 _ _, HB1.out⟩
  | some ws =>
    have RE' : Calls Try.prog 56 #[.slice A n cap, .int .i64 (i : Nat)] w fun e w' => (∃ AL cL, e = .returned (.tuple #[.slice AL ws.length cL, .int .i64 0]) ∧ w'.ownsRow w.heap.size 37 2 (.slice AL ws.length cL) ws.length (winCells ws)) ∧ Below w.heap.size w w' := RE
    obtain ⟨N, hN⟩ : ∃ N, N = ws.length := ⟨_, rfl⟩
    rw [← hN] at RE'
    have HRE := Lib.hid RE'
    have HRL := Lib.hid (hrl ws rfl)
    obtain ⟨X, hX⟩ : ∃ X, X = outsF (dat l) p ws := ⟨_, rfl⟩
    show Calls Try.prog 46 _ _ fun e w' => WinR 37 (outsF (dat l) p ws) _ e w' ∧ _
    rw [← hX]
    have hX2 : X = if (outsF (dat l) p ws).2 ≠ 0 then ([], (outsF (dat l) p ws).2) else ([] ++ (outsF (dat l) p ws).1, 0) := by rw [hX]; exact outs_snd _ _ _
    have HX := Lib.hid hX2
    obtain ⟨b, off, rfl, hbB, x0, _⟩ := hs.at_ hil
    have hpj : l[i].d.p = (p : Nat) := by rw [← par_get l hil]; exact hup.2
    rw [hpj] at x0
    have hbw : b < w.heap.size := Nat.lt_of_lt_of_le hbB hB
    have CX : ∀ W, Below w.heap.size w W → W.cell? ⟨b, off + i * 3, none⟩ = some (.int .i64 (p : Int)) := fun W hW => (hW.cell (p := ⟨b, off + i * 3, none⟩) hbw).trans x0
    have TH : ∀ W, Below w.heap.size w W → ∀ bq sq, bq < 18446744073709551616 → sq < 18446744073709551616 → Calls Try.prog 59 #[.slice (some ⟨b, off, none⟩) n cap, .int .i64 (p : Nat), .agg #[.int .u64 (bq : Nat), .int .u64 (sq : Nat)]] W fun e w' => e = .returned (.tuple #[.int .u64 ((outF (dat l) p bq sq).1 : Nat), .int .i64 (outF (dat l) p bq sq).2]) ∧ Below W.heap.size W w' := fun W hW bq sq hbq hsq =>
      rout_any (some ⟨b, off, none⟩) cap n l hn hsz hsh hu p (by omega) bq sq hbq hsq W B (Nat.le_trans hB hW.size) (hs.below (hW.mono hB))
    have HOL : ∀ bq sq, bq < 18446744073709551616 → (outF (dat l) p bq sq).1 < 18446744073709551616 := fun bq sq hbq => by
      have := thr_lt (l := dat l) (down := false) (wayF (dat l) p) bq sq hbq
      rw [thr_out] at this
      exact this
    have HOL := Lib.hid HOL
    have HN := Lib.hid hN
    have HCX := Lib.hid CX
    have HTH := Lib.hid TH
    clear RE RE' hrl hwf hp hup hn hsz hsh hu hs hN hX hX2 x0 hpj CX TH
    go_enter Try.func46, Try.ntmps46
    go_wp2_with (first
      | (go_at_call 56; refine HRE.out.mono ?_; rintro e w1 ⟨⟨AL, cL, rfl, hown⟩, hb1⟩
         have HB1 := Lib.hid hb1
         have HO := Lib.hid hown
         clear hb1 hown)
      | fail)
    have hNb : N ≤ maxLen := by
      rcases HO.out.2 with ⟨_, h⟩ | ⟨g, cap, cur, hv, h1, h2, h3, h4, _⟩
      · rw [h]; exact Nat.zero_le _
      · injection hv with _ hv
        exact Nat.le_trans h3 h4
    unfold maxLen at hNb
    go_loopw [8] (fun iv wx => ∃ (k : Nat) (D R : List (Nat × Nat)), k ≤ N ∧ iv = .int .i64 k ∧ D.length = k ∧ ws.drop k = R ∧ (X = if (outsF (dat l) p R).2 ≠ 0 then ([], (outsF (dat l) p R).2) else (D ++ (outsF (dat l) p R).1, 0)) ∧ wx.ownsRow w.heap.size 37 2 (.slice AL N cL) N (winCells (D ++ R)) ∧ Below w.heap.size w wx) (fun iv _ => N - (intOf iv).toNat)
    case atStart => exact ⟨0, [], ws, by omega, rfl, rfl, rfl, HX.out, HO.out, HB1.out⟩
    case round =>
      obtain ⟨k, D, R, hk, rfl, hD, hR, hXk, hown, hb⟩ := hrel
      have HD := Lib.hid hD
      have HXK := Lib.hid hXk
      have HOW := Lib.hid hown
      have HB := Lib.hid hb
      have hbs := hb.size
      clear hXk hD
      by_cases hkN : k < N
      · have hkL : k < ws.length := by rw [← HN.out]; exact hkN
        have hki : (k : Int) < (N : Int) := by omega
        have hdr : ws.drop k = ws[k] :: ws.drop (k + 1) := List.drop_eq_getElem_cons hkL
        have hxl := HRL.out ws[k] (List.getElem_mem hkL)
        obtain ⟨⟨bq, sq⟩, hxe⟩ : ∃ x, x = ws[k] := ⟨_, rfl⟩
        rw [← hxe] at hdr hxl
        obtain ⟨R2, hR2⟩ : ∃ R2, R2 = ws.drop (k + 1) := ⟨_, rfl⟩
        rw [← hR2] at hdr
        obtain rfl : R = (bq, sq) :: R2 := by rw [← hR, hdr]
        have HR2 := Lib.hid hR2
        obtain ⟨hbq, hsq⟩ : bq < 18446744073709551616 ∧ sq < 18446744073709551616 := hxl
        obtain ⟨g, eA, hg1, hg2, hrA⟩ := RowAt.of_own hown (Nat.lt_of_le_of_lt (Nat.zero_le _) hkN)
        have hDl : (D ++ (bq, sq) :: R2).length = N := by
          have h1 := hown.1
          unfold winCells at h1
          rw [flat_length wiCells 2 wi_len] at h1
          omega
        have hkD : k < (D ++ (bq, sq) :: R2).length := by rw [hDl]; exact hkN
        have hge : (D ++ (bq, sq) :: R2)[k] = (bq, sq) := by
          rw [List.getElem_append_right (by rw [HD.out]; exact Nat.le_refl _)]
          simp [HD.out]
        have hcell : ∀ j u, (wiCells (bq, sq))[j]? = some u → wr.cell? ⟨g, k * 2 + j, none⟩ = some u := fun j u hu => by
          have hj : j < 2 := (List.getElem?_eq_some_iff.1 hu).1
          have hlt : k * 2 + j < (winCells (D ++ (bq, sq) :: R2)).length := by rw [hown.1]; omega
          rw [hrA.cell hlt]
          unfold winCells
          rw [flat_get wiCells 2 wi_len _ k j hkD hj, hge]
          exact hu
        have x0 : wr.cell? ⟨g, k * 2, none⟩ = some (.int .u64 (bq : Int)) := hcell 0 _ rfl
        have x1 : wr.cell? ⟨g, k * 2 + 1, none⟩ = some (.int .u64 (sq : Int)) := hcell 1 _ rfl
        have hgf := hrA.frozen (k * 2)
        subst eA
        have hst := outs_step (dat l) p (bq, sq) R2 D ws X HXK.out
        have hOL := HOL.out bq sq hbq
        have TB := fun W hW => HTH.out W hW bq sq hbq hsq
        generalize hOO : outF (dat l) p bq sq = OO at TB hOL
        have hst1 : OO.2 ≠ 0 → X = ([], OO.2) := fun h => by have := hst.1; simp only [hOO] at this; exact this h
        have hst2 : OO.2 = 0 → X = if (outsF (dat l) p R2).2 ≠ 0 then ([], (outsF (dat l) p R2).2) else ((D ++ [(OO.1, sq)]) ++ (outsF (dat l) p R2).1, 0) := fun h => by have := hst.2; simp only [hOO] at this; exact this h
        obtain ⟨ob, oe⟩ := OO
        have HST1 := Lib.hid hst1
        have HST2 := Lib.hid hst2
        have HTB := Lib.hid TB
        have hOL : ob < 18446744073709551616 := hOL
        have c0 := HCX.out wr hb
        have hrt := hrA.lt
        clear hR hdr hxe hR2 hrA hcell hge hkD hst hst1 hst2 TB hOO hown hb
        go_wp2_with fail
        refine wp_region_held_drew (S := fun W => W.cell? ⟨b, off + i * 3, none⟩ = some (.int .i64 (p : Int)) ∧ W.cell? ⟨g, k * 2, none⟩ = some (.int .u64 (bq : Int)) ∧ W.cell? ⟨g, k * 2 + 1, none⟩ = some (.int .u64 (sq : Int))) (by kernel_rfl) ⟨c0, x0, x1⟩ (fun hHeld => ?_)
        (refine held_take (i := 0) rfl rfl (by kernel_rfl) (by kernel_rfl) (by kernel_rfl) (fun _ _ _ h => h) (by rfl) (by intro w hSw; obtain ⟨hS1, hS2, hS3⟩ := hSw; go_simp; first | done | with_reducible rfl) (by assumption) ?_; try simp only [Act.put, List.setIfInBounds_toArray, List.set_cons_zero, List.set_cons_succ])
        (refine held_take (i := 1) rfl rfl (by kernel_rfl) (by kernel_rfl) (by kernel_rfl) (fun _ _ _ h => h) (by rfl) (by intro w hSw; obtain ⟨hS1, hS2, hS3⟩ := hSw; go_simp; first | done | with_reducible rfl) (by assumption) ?_; try simp only [Act.put, List.setIfInBounds_toArray, List.set_cons_zero, List.set_cons_succ])
        (refine held_take (i := 2) rfl rfl (by kernel_rfl) (by kernel_rfl) (by kernel_rfl) (fun _ _ _ h => h) (by rfl) (by intro w hSw; obtain ⟨hS1, hS2, hS3⟩ := hSw; go_simp; first | done | with_reducible rfl) (by assumption) ?_; try simp only [Act.put, List.setIfInBounds_toArray, List.set_cons_zero, List.set_cons_succ])
        (refine held_take (i := 3) rfl rfl (by kernel_rfl) (by kernel_rfl) (by kernel_rfl) (fun _ _ _ h => h) (by rfl) (by intro w hSw; obtain ⟨hS1, hS2, hS3⟩ := hSw; go_simp; first | done | with_reducible rfl) (by assumption) ?_; try simp only [Act.put, List.setIfInBounds_toArray, List.set_cons_zero, List.set_cons_succ])
        (refine held_take (i := 4) rfl rfl (by kernel_rfl) (by kernel_rfl) (by kernel_rfl) (fun _ _ _ h => h) (by rfl) (by intro w hSw; obtain ⟨hS1, hS2, hS3⟩ := hSw; go_simp; first | done | with_reducible rfl) (by assumption) ?_; try simp only [Act.put, List.setIfInBounds_toArray, List.set_cons_zero, List.set_cons_succ])
        (refine held_take (i := 5) rfl rfl (by kernel_rfl) (by kernel_rfl) (by kernel_rfl) (fun _ _ _ h => h) (by rfl) (by intro w hSw; obtain ⟨hS1, hS2, hS3⟩ := hSw; go_simp; first | done | with_reducible rfl) (by assumption) ?_; try simp only [Act.put, List.setIfInBounds_toArray, List.set_cons_zero, List.set_cons_succ])
        (refine held_take (i := 6) rfl rfl (by kernel_rfl) (by kernel_rfl) (by kernel_rfl) (fun _ _ _ h => h) (by rfl) (by intro w hSw; obtain ⟨hS1, hS2, hS3⟩ := hSw; go_simp; first | done | with_reducible rfl) (by assumption) ?_; try simp only [Act.put, List.setIfInBounds_toArray, List.set_cons_zero, List.set_cons_succ])
        (refine held_take (i := 7) rfl rfl (by kernel_rfl) (by kernel_rfl) (by kernel_rfl) (fun _ _ _ h => h) (by rfl) (by intro w hSw; obtain ⟨hS1, hS2, hS3⟩ := hSw; go_simp; first | done | with_reducible rfl) (by assumption) ?_; try simp only [Act.put, List.setIfInBounds_toArray, List.set_cons_zero, List.set_cons_succ])
        (refine held_take (i := 8) rfl rfl (by kernel_rfl) (by kernel_rfl) (by kernel_rfl) (fun _ _ _ h => h) (by rfl) (by intro w hSw; obtain ⟨hS1, hS2, hS3⟩ := hSw; go_simp; first | done | with_reducible rfl) (by assumption) ?_; try simp only [Act.put, List.setIfInBounds_toArray, List.set_cons_zero, List.set_cons_succ])
        (refine held_take (i := 9) rfl rfl (by kernel_rfl) (by kernel_rfl) (by kernel_rfl) (fun _ _ _ h => h) (by rfl) (by intro w hSw; obtain ⟨hS1, hS2, hS3⟩ := hSw; go_simp; first | done | with_reducible rfl) (by assumption) ?_; try simp only [Act.put, List.setIfInBounds_toArray, List.set_cons_zero, List.set_cons_succ])
        refine wpAnyH_ready (rs := [10]) (by kernel_rfl) (by simp) ?_
        refine AllReadyH.cons rfl (fun K hK => ?_) AllReadyH.nil
        go_simp
        go_at_call 59
        refine (HTB.out _ HB.out.drew).mono ?_
        rintro e w3 ⟨rfl, hb3⟩
        have hb4 : Below wr.heap.size wr w3 := ⟨hb3.os, hb3.tape, hb3.output, hb3.size, hb3.block⟩
        have HB3 := Lib.hid hb4
        have x03 : w3.cell? ⟨g, k * 2, none⟩ = some (.int .u64 (bq : Int)) := (hb4.cell (p := ⟨g, k * 2, none⟩) hrt).trans x0
        have x13 : w3.cell? ⟨g, k * 2 + 1, none⟩ = some (.int .u64 (sq : Int)) := (hb4.cell (p := ⟨g, k * 2 + 1, none⟩) hrt).trans x1
        have f03 : w3.frozen? ⟨g, k * 2, none⟩ = false := (hb4.frozen (p := ⟨g, k * 2, none⟩) hrt).trans hgf
        refine hK.out _ _ ⟨(hb4.cell (p := ⟨b, off + i * 3, none⟩) (Nat.lt_of_lt_of_le hbw hbs)).trans c0, x03, x13⟩ (fun hHeld => ?_)
        clear hK K hb3 hb4
        try simp only [Act.put, List.setIfInBounds_toArray, List.set_cons_zero, List.set_cons_succ]
        (refine held_take (i := 11) rfl rfl (by kernel_rfl) (by kernel_rfl) (by kernel_rfl) (fun _ _ _ h => h) (by rfl) (by intro w hSw; obtain ⟨hS1, hS2, hS3⟩ := hSw; go_simp; first | done | with_reducible rfl) (by assumption) ?_; try simp only [Act.put, List.setIfInBounds_toArray, List.set_cons_zero, List.set_cons_succ])
        (refine held_take (i := 12) rfl rfl (by kernel_rfl) (by kernel_rfl) (by kernel_rfl) (fun _ _ _ h => h) (by rfl) (by intro w hSw; obtain ⟨hS1, hS2, hS3⟩ := hSw; go_simp; first | done | with_reducible rfl) (by assumption) ?_; try simp only [Act.put, List.setIfInBounds_toArray, List.set_cons_zero, List.set_cons_succ])
        (refine held_take (i := 13) rfl rfl (by kernel_rfl) (by kernel_rfl) (by kernel_rfl) (fun _ _ _ h => h) (by rfl) (by intro w hSw; obtain ⟨hS1, hS2, hS3⟩ := hSw; go_simp; first | done | with_reducible rfl) (by assumption) ?_; try simp only [Act.put, List.setIfInBounds_toArray, List.set_cons_zero, List.set_cons_succ])
        (refine held_take (i := 14) rfl rfl (by kernel_rfl) (by kernel_rfl) (by kernel_rfl) (fun _ _ _ h => h) (by rfl) (by intro w hSw; obtain ⟨hS1, hS2, hS3⟩ := hSw; go_simp; first | done | with_reducible rfl) (by assumption) ?_; try simp only [Act.put, List.setIfInBounds_toArray, List.set_cons_zero, List.set_cons_succ])
        (refine held_take (i := 15) rfl rfl (by kernel_rfl) (by kernel_rfl) (by kernel_rfl) (fun _ _ _ h => h) (by rfl) (by intro w hSw; obtain ⟨hS1, hS2, hS3⟩ := hSw; go_simp; first | done | with_reducible rfl) (by assumption) ?_; try simp only [Act.put, List.setIfInBounds_toArray, List.set_cons_zero, List.set_cons_succ])
        refine wpAnyH_done (by kernel_rfl) ?_ _
        by_cases hoe : oe = 0
        · subst hoe
          have HX3 := Lib.hid (HST2.out rfl)
          have HD3 := Lib.hid (show (D ++ [(ob, sq)]).length = k + 1 by rw [List.length_append, HD.out]; rfl)
          go_wp2_with fail
          have hown3 : w3.ownsRow w.heap.size 37 2 (.slice (some ⟨g, 0, none⟩) N cL) N (winCells (D ++ (bq, sq) :: R2)) := own_keep HOW.out fun g' _ hlt => HB3.out.block g' hlt
          have hset := own_set hown3 (k * 2) (.int .u64 (ob : Int))
          rw [show k * 2 = D.length * 2 from by rw [HD.out], win_set] at hset
          rw [show D.length * 2 = k * 2 from by rw [HD.out]] at hset
          have HSET := Lib.hid hset
          have HBS := Lib.hid ((HB.out.trans (HB3.out.mono hbs)).setCell (p := ⟨g, k * 2, none⟩) hg1 (.int .u64 (ob : Int)))
          clear hown3 hset x03 f03
          exact ⟨⟨k + 1, D ++ [(ob, sq)], R2, by omega, by go_num, HD3.out, HR2.out.symm, HX3.out, HSET.out, HBS.out⟩, by simp [intOf]; omega⟩
        · have d1 : (oe == 0) = false := by rw [beq_eq_false_iff_ne]; exact hoe
          obtain rfl := HST1.out hoe
          go_wp2_with fail
          go_ret2
          exact ⟨winR_no oe _ _, HB.out.trans (HB3.out.mono hbs)⟩
      · obtain rfl : k = N := by omega
        obtain rfl : R = [] := by rw [← hR]; exact List.drop_eq_nil_of_le (by rw [HN.out]; exact Nat.le_refl _)
        have hX3 : X = (D, 0) := by rw [HXK.out]; show (if (0 : Int) ≠ 0 then _ else _) = _; rw [if_neg (fun h => h rfl)]; show (D ++ [], (0 : Int)) = _; rw [List.append_nil]
        subst hX3
        have HO2 := HOW.out
        rw [List.append_nil] at HO2
        have HO3 := Lib.hid HO2
        have HB4 := Lib.hid hb
        clear hR hown hb HO2 HXK HX
        go_wp2_with fail
        go_ret2
        refine ⟨?_, HB4.out⟩
        show ∃ A c, _ = Ending.returned (.tuple #[.slice A D.length c, .int .i64 0]) ∧ _
        rw [HD.out]
        exact ⟨AL, cL, rfl, HO3.out⟩
end Go.Proofs.Ytndocngkganpdaa
