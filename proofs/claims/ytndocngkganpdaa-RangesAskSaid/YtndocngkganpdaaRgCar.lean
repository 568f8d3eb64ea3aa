/- ranges.carried: the contract. -/
import Derived.Test.YtndocngkganpdaaRgRMaps
set_option linter.unusedVariables false
namespace Go.Proofs.Ytndocngkganpdaa
open Go.RowKit
def frmF (down : Bool) (x : Mp) : Nat := if down then x.a else x.k
def toF (down : Bool) (x : Mp) : Nat := if down then x.k else x.a
/-- What carried gives. -/
def carM (m : List Mp × Bool × Int) (b s : Nat) (down : Bool) : Nat × Int :=
  if m.2.2 ≠ 0 then (b, m.2.2) else if m.2.1 then (b, 0) else match m.1.find? fun x => withinB b s (frmF down x) x.s with
    | some x => (toF down x + (b - frmF down x), 0)
    | none => (0, 150)
/-- Maps that fit, of numbers of 64 bits. -/
def GoodM (L : List Mp) : Prop := ∀ x ∈ L, mpFits x = true ∧ x.k < 18446744073709551616 ∧ x.a < 18446744073709551616 ∧ x.s < 18446744073709551616
theorem mps_goodM (a c b : Nat) (v : ByteArray) (ha : a ≤ 2) (hc : c ≤ 2) (hb : b ≤ 2) : GoodM (mpsF a c b v).1 := by
  unfold mpsF
  split
  · intro x hx; cases hx
  · split
    · rename_i h
      intro x hx
      refine ⟨List.all_eq_true.1 h x hx, ?_⟩
      obtain ⟨r, hr, rfl⟩ := List.mem_map.1 hx
      have hlt := rowsF_lt [a, c, b] (nl v) (nl_lt v) (by intro x hx; simp at hx; omega) r hr
      have h3 : r.length = 3 := row_three _ _ hr
      match r, h3 with
      | [x, y, z], _ => exact ⟨hlt x (by simp), hlt y (by simp), hlt z (by simp)⟩
    · intro x hx; cases hx
theorem maps_goodM (l : List Nd) (i : Nat) : GoodM (mapsF l i).1 := by
  cases hv : valF (psAt l i) kRng with
  | none => rw [maps_none hv]; intro x hx; cases hx
  | some v =>
    cases ha : cellsF (psAt l i) with
    | none => rw [maps_form hv (.inl ha)]; intro x hx; cases hx
    | some ab =>
      cases hb : cellsF (psAt l (parN l i)) with
      | none => rw [maps_form hv (.inr hb)]; intro x hx; cases hx
      | some cd =>
        obtain ⟨a, b⟩ := ab
        obtain ⟨c, d⟩ := cd
        rw [maps_some hv ha hb]
        obtain ⟨_, h1, h2⟩ := cells_bd ha
        obtain ⟨_, h3, _⟩ := cells_bd hb
        exact mps_goodM a c b v h1 h3 h2
theorem good_to {L : List Mp} (h : GoodM L) {x : Mp} (hx : x ∈ L) (down : Bool) {b s : Nat} (hw : withinB b s (frmF down x) x.s = true) : frmF down x ≤ b ∧ toF down x + (b - frmF down x) < 18446744073709551616 := by
  obtain ⟨h1, _⟩ := h x hx
  unfold withinB at hw
  simp only [Bool.and_eq_true, decide_eq_true_eq] at hw
  unfold mpFits fitsB at h1
  simp only [Bool.and_eq_true, Bool.or_eq_true, beq_iff_eq, decide_eq_true_eq] at h1
  refine ⟨hw.1.1, ?_⟩
  cases down
  · show x.a + (b - x.k) < _
    have : b - x.k < x.s := hw.1.2
    omega
  · show x.k + (b - x.a) < _
    have : b - x.a < x.s := hw.1.2
    omega
theorem find_hit {L : List Mp} {p : Mp → Bool} {k : Nat} (hk : k < L.length) (h : p L[k] = true) (hno : ∀ (j : Nat) (hj : j < L.length), j < k → p L[j] = false) : L.find? p = some L[k] := by
  rw [List.find?_eq_some_iff_getElem]
  exact ⟨h, k, hk, rfl, fun j hj => by rw [hno j (by omega) hj]; rfl⟩
theorem find_miss {L : List Mp} {p : Mp → Bool} (hno : ∀ (j : Nat) (hj : j < L.length), p L[j] = false) : L.find? p = none := by
  rw [List.find?_eq_none]
  intro x hx
  obtain ⟨j, hj, rfl⟩ := List.mem_iff_getElem.1 hx
  rw [hno j hj]; simp
set_option maxRecDepth 100000 in
set_option maxHeartbeats 16000000 in
theorem carried_any (A : Option Addr) (cap n : Nat) (l : List Nm) (hn : n = l.length) (hsz : Sized l) (hsh : ShortL (dat l)) (i : Nat) (hi : i < n) (hp : 0 ≤ parAt (dat l) i) (hp2 : parAt (dat l) i < n) (b s : Nat) (hb64 : b < 18446744073709551616) (hs64 : s < 18446744073709551616) (down : Bool) (w : World) (B : Nat) (hB : B ≤ w.heap.size) (hs : Nodes w B A l) :
    Calls Try.prog 36 #[.slice A n cap, .int .i64 (i : Nat), .agg #[.int .u64 (b : Nat), .int .u64 (s : Nat)], .bool down] w fun e w' => e = .returned (.tuple #[.int .u64 ((carM (mapsF (dat l) i) b s down).1 : Nat), .int .i64 (carM (mapsF (dat l) i) b s down).2]) ∧ Below w.heap.size w w' := by
  obtain ⟨w0, hw0⟩ : ∃ w0, w0 = w.alloc (.cells #[.int .u64 (b : Int), .int .u64 (s : Int)] 31) := ⟨_, rfl⟩
  have hb0 : Below w.heap.size w w0 := by rw [hw0]; exact (Below.refl _ w).alloc (Nat.le_refl _) _
  have z0 : w0.heap[w.heap.size]? = some (.cells #[.int .u64 (b : Int), .int .u64 (s : Int)] 31) := by rw [hw0]; exact heap_alloc_new _ _
  have hlt0 : w.heap.size < w0.heap.size := by rw [hw0]; simp
  have MA := maps_any A cap n l hn hsz hsh i hi hp hp2 w0 B (Nat.le_trans hB hb0.size) (hs.below (hb0.mono hB))
  have hgm := maps_goodM (dat l) i
  generalize mapsF (dat l) i = M at *
  obtain ⟨L, same, er⟩ := M
  have MA' : Calls Try.prog 50 #[.slice A n cap, .int .i64 (i : Nat)] w0 fun e w' => (∃ AL cL, e = .returned (.tuple #[.slice AL L.length cL, .bool same, .int .i64 er]) ∧ w'.ownsRow w0.heap.size 79 3 (.slice AL L.length cL) L.length (mpCells L)) ∧ Below w0.heap.size w0 w' := MA
  have HMA := Lib.hid MA'
  have HB0 := Lib.hid hb0
  have Z0 := Lib.hid z0
  have HGM := Lib.hid hgm
  obtain ⟨res, hres⟩ : ∃ res, res = carM (L, same, er) b s down := ⟨_, rfl⟩
  rw [← hres]
  have HRES := Lib.hid hres
  clear MA MA' hgm hn hsz hsh hp hp2 hs z0 hb0 hres
  by_cases her : er = 0
  case neg =>
    have d1 : (er == 0) = false := by rw [beq_eq_false_iff_ne]; exact her
    obtain rfl : res = (b, er) := by rw [HRES.out]; unfold carM; rw [if_pos her]
    clear HRES
    subst hw0
    go_enter Try.func36, Try.ntmps36
    go_wp2_with (first
      | (go_at_call 50; refine HMA.out.mono ?_; rintro e w1 ⟨⟨AL, cL, rfl, hown⟩, hb1⟩
         have HB1 := Lib.hid (HB0.out.trans (hb1.mono HB0.out.size))
         have z1 : w1.heap[w.heap.size]? = some (.cells #[.int .u64 (b : Int), .int .u64 (s : Int)] 31) := (hb1.block _ hlt0).trans Z0.out
         have c0 : w1.cell? ⟨w.heap.size, 0, none⟩ = some (.int .u64 (b : Int)) := (by rw [cell_of_row _ _ _ _ _ _ z1]; rfl)
         have HO := Lib.hid hown
         clear hb1 z1 hown)
      | fail)
    go_ret2
    exact ⟨rfl, HB1.out⟩
  subst her
  cases same with
  | true =>
    obtain rfl : res = (b, 0) := by rw [HRES.out]; unfold carM; rfl
    clear HRES
    subst hw0
    go_enter Try.func36, Try.ntmps36
    go_wp2_with (first
      | (go_at_call 50; refine HMA.out.mono ?_; rintro e w1 ⟨⟨AL, cL, rfl, hown⟩, hb1⟩
         have HB1 := Lib.hid (HB0.out.trans (hb1.mono HB0.out.size))
         have z1 : w1.heap[w.heap.size]? = some (.cells #[.int .u64 (b : Int), .int .u64 (s : Int)] 31) := (hb1.block _ hlt0).trans Z0.out
         have c0 : w1.cell? ⟨w.heap.size, 0, none⟩ = some (.int .u64 (b : Int)) := (by rw [cell_of_row _ _ _ _ _ _ z1]; rfl)
         have HO := Lib.hid hown
         clear hb1 z1 hown)
      | fail)
    go_ret2
    exact ⟨rfl, HB1.out⟩
  | false =>
    have hr2 : res = match L.find? fun x => withinB b s (frmF down x) x.s with
        | some x => (toF down x + (b - frmF down x), 0)
        | none => (0, 150) := HRES.out
    have HR2 := Lib.hid hr2
    clear HRES hr2
    obtain ⟨N, hN⟩ : ∃ N, N = L.length := ⟨_, rfl⟩
    rw [← hN] at HMA
    have HN := Lib.hid hN
    clear hN
    subst hw0
    cases down
    · go_enter Try.func36, Try.ntmps36
      go_wp2_with (first
        | (go_at_call 50; refine HMA.out.mono ?_; rintro e w1 ⟨⟨AL, cL, rfl, hown⟩, hb1⟩
           have HB1 := Lib.hid (HB0.out.trans (hb1.mono HB0.out.size))
           have z1 : w1.heap[w.heap.size]? = some (.cells #[.int .u64 (b : Int), .int .u64 (s : Int)] 31) := (hb1.block _ hlt0).trans Z0.out
           have HO := Lib.hid hown
           have HZ := Lib.hid z1
           have hlt1 : w.heap.size < w1.heap.size := Nat.lt_of_lt_of_le hlt0 hb1.size
           clear hb1 z1 hown)
        | fail)
      obtain ⟨bs, hbs0⟩ : ∃ bs, bs = (w.alloc (.cells #[.int .u64 (b : Int), .int .u64 (s : Int)] 31)).heap.size := ⟨_, rfl⟩
      rw [← hbs0] at HO
      have hbs1 : w.heap.size < bs := by rw [hbs0]; exact hlt0
      clear hbs0 hlt0 HB0 Z0 HMA
      have hNb : N ≤ maxLen := by
        rcases HO.out.2 with ⟨_, h⟩ | ⟨g, cap, cur, hv, h1, h2, h3, h4, _⟩
        · rw [h]; exact Nat.zero_le _
        · injection hv with _ hv
          exact Nat.le_trans h3 h4
      unfold maxLen at hNb
      go_loopw [34] (fun iv wx => ∃ k : Nat, k ≤ N ∧ iv = .int .i64 k ∧ (∀ j (hj : j < L.length), j < k → withinB b s (frmF false L[j]) L[j].s = false) ∧ wx.heap[w.heap.size]? = some (.cells #[.int .u64 (b : Int), .int .u64 (s : Int)] 31) ∧ wx.ownsRow bs 79 3 (.slice AL N cL) N (mpCells L) ∧ Below w.heap.size w wx) (fun iv _ => N - (intOf iv).toNat)
      case atStart => exact ⟨0, by omega, rfl, fun j _ h => absurd h (Nat.not_lt_zero j), HZ.out, HO.out, HB1.out⟩
      case round =>
        obtain ⟨k, hk, rfl, hno, hz, hown, hb⟩ := hrel
        have HNO := Lib.hid hno
        have HZ := Lib.hid hz
        have HOW := Lib.hid hown
        have HB := Lib.hid hb
        have hltz : w.heap.size < wr.heap.size := lt_of_heap hz
        clear hno hz hown hb
        by_cases hkN : k < N
        · have hkL : k < L.length := by rw [← HN.out]; exact hkN
          have hki : (k : Int) < (N : Int) := by omega
          obtain ⟨g, off, eA, hg, xa⟩ := (own_seg HOW.out).thing (f := mpOne) (m := 3) mp_len (by omega) hkL
          subst eA
          have x0 : wr.cell? ⟨g, off + k * 3, none⟩ = some (.int .u64 (L[k].k : Int)) := xa 0 _ rfl
          have x1 : wr.cell? ⟨g, off + k * 3 + 1, none⟩ = some (.int .u64 (L[k].a : Int)) := xa 1 _ rfl
          have x2 : wr.cell? ⟨g, off + k * 3 + 2, none⟩ = some (.int .u64 (L[k].s : Int)) := xa 2 _ rfl
          obtain ⟨hx1, hx2, hx3, hx4⟩ := HGM.out L[k] (List.getElem_mem hkL)
          have hgt := fun h => good_to HGM.out (List.getElem_mem hkL) false (b := b) (s := s) h
          have hhit := fun h => find_hit (p := fun x => withinB b s (frmF false x) x.s) hkL h (fun j hj hjk => HNO.out j hj hjk)
          obtain ⟨kx, hkx⟩ : ∃ q, q = L[k].k := ⟨_, rfl⟩
          obtain ⟨ax, hax⟩ : ∃ q, q = L[k].a := ⟨_, rfl⟩
          obtain ⟨sx, hsx⟩ : ∃ q, q = L[k].s := ⟨_, rfl⟩
          have hfx : frmF false L[k] = kx := by rw [hkx]; rfl
          have htx : toF false L[k] = ax := by rw [hax]; rfl
          rw [← hkx] at x0 hx2
          rw [← hax] at x1 hx3
          rw [← hsx] at x2 hx4
          rw [hfx, htx, ← hsx] at hgt
          have hsame : withinB b s (frmF false L[k]) L[k].s = withinB b s kx sx := by rw [hfx, ← hsx]
          have hres : withinB b s kx sx = true → res = (ax + (b - kx), 0) := fun h => by
            rw [HR2.out, hhit (by rw [hsame]; exact h)]
            show (toF false L[k] + (b - frmF false L[k]), (0 : Int)) = _
            rw [htx, hfx]
          have HS := Lib.hid hsame
          have HRS := Lib.hid hres
          have HGT := Lib.hid hgt
          clear xa hx1 hhit hkx hax hsx hfx htx hsame hres hgt
          have WI := fun W => within_any b s kx sx hb64 hs64 hx2 hx4 W
          obtain ⟨X, hX⟩ : ∃ X, X = withinB b s kx sx := ⟨_, rfl⟩
          rw [← hX] at HS HRS HGT WI
          have HWI := Lib.hid WI
          clear hX WI
          have c0 : (wr.alloc (.cells #[.int .u64 (kx : Int), .int .u64 (ax : Int), .int .u64 (sx : Int)] 79)).cell? ⟨w.heap.size, 0, none⟩ = some (.int .u64 (b : Int)) := by
            rw [World.cell?_alloc_lt _ _ _ (by exact hltz), cell_of_row _ _ _ _ _ _ HZ.out]; rfl
          have c1 : (wr.alloc (.cells #[.int .u64 (kx : Int), .int .u64 (ax : Int), .int .u64 (sx : Int)] 79)).cell? ⟨w.heap.size, 1, none⟩ = some (.int .u64 (s : Int)) := by
            rw [World.cell?_alloc_lt _ _ _ (by exact hltz), cell_of_row _ _ _ _ _ _ HZ.out]; rfl
          go_wp2_with fail
          go_quiet (fail)
          cases X with
          | true =>
            obtain rfl := HRS.out rfl
            obtain ⟨g1, g2⟩ := HGT.out rfl
            have k1 : (0 : Int) ≤ (b : Int) - (kx : Int) := by omega
            have k2 : (ax : Int) + ((b : Int) - (kx : Int)) < 18446744073709551616 := by omega
            have k3 : (ax : Int) + ((b : Int) - (kx : Int)) = ((ax + (b - kx) : Nat) : Int) := by omega
            have K3 := Lib.hid k3
            clear k3
            go_wp2_with (first
              | (go_at_call 35; refine (HWI.out _).mono ?_; rintro e w2 ⟨rfl, hb2⟩
                 have HB2 := Lib.hid (below_next (below_drewN (HB.out.alloc (Nat.le_of_lt hltz) (.cells #[.int .u64 (kx : Int), .int .u64 (ax : Int), .int .u64 (sx : Int)] 79)) nq) hb2)
                 have c2 : w2.cell? ⟨w.heap.size, 0, none⟩ = some (.int .u64 (b : Int)) := (hb2.cell (by show _ < (wr.alloc _).heap.size; rw [World.size_alloc]; exact Nat.lt_succ_of_lt hltz)).trans c0
                 clear hb2)
              | fail)
            go_ret2
            exact ⟨ret_int2 K3.out rfl, HB2.out⟩
          | false =>
            have hno2 : ∀ j (hj : j < L.length), j < k + 1 → withinB b s (frmF false L[j]) L[j].s = false := fun j hj hjk => by
              rcases (show j < k ∨ j = k by omega) with h2 | rfl
              · exact HNO.out j hj h2
              · exact HS.out
            have HNO2 := Lib.hid hno2
            clear hno2
            go_wp2_with (first
              | (go_at_call 35; refine (HWI.out _).mono ?_; rintro e w2 ⟨rfl, hb2⟩
                 have hb3 : Below wr.heap.size wr w2 := (below_drewN ((Below.refl _ wr).alloc (Nat.le_refl _) (.cells #[.int .u64 (kx : Int), .int .u64 (ax : Int), .int .u64 (sx : Int)] 79)) nq).trans (hb2.mono (by show _ ≤ (wr.alloc _).heap.size; rw [World.size_alloc]; exact Nat.le_succ _))
                 have HB2 := Lib.hid (below_next HB.out hb3)
                 have HZ2 := Lib.hid ((hb3.block _ hltz).trans HZ.out)
                 have HO2 := Lib.hid (own_keep HOW.out fun g _ hlt => hb3.block g hlt)
                 clear hb2 hb3)
              | fail)
            exact ⟨⟨k + 1, by omega, by go_num, HNO2.out, HZ2.out, HO2.out, HB2.out⟩, by simp [intOf]; omega⟩
        · obtain rfl : k = N := by omega
          have HM := find_miss (p := fun x => withinB b s (frmF false x) x.s) (L := L) (fun j hj => HNO.out j hj (by rw [HN.out]; exact hj))
          obtain rfl : res = (0, 150) := by rw [HR2.out, HM]
          clear HR2 HM
          go_wp2_with fail
          go_ret2
          exact ⟨rfl, HB.out⟩
    · go_enter Try.func36, Try.ntmps36
      go_wp2_with (first
        | (go_at_call 50; refine HMA.out.mono ?_; rintro e w1 ⟨⟨AL, cL, rfl, hown⟩, hb1⟩
           have HB1 := Lib.hid (HB0.out.trans (hb1.mono HB0.out.size))
           have z1 : w1.heap[w.heap.size]? = some (.cells #[.int .u64 (b : Int), .int .u64 (s : Int)] 31) := (hb1.block _ hlt0).trans Z0.out
           have HO := Lib.hid hown
           have HZ := Lib.hid z1
           have hlt1 : w.heap.size < w1.heap.size := Nat.lt_of_lt_of_le hlt0 hb1.size
           clear hb1 z1 hown)
        | fail)
      obtain ⟨bs, hbs0⟩ : ∃ bs, bs = (w.alloc (.cells #[.int .u64 (b : Int), .int .u64 (s : Int)] 31)).heap.size := ⟨_, rfl⟩
      rw [← hbs0] at HO
      have hbs1 : w.heap.size < bs := by rw [hbs0]; exact hlt0
      clear hbs0 hlt0 HB0 Z0 HMA
      have hNb : N ≤ maxLen := by
        rcases HO.out.2 with ⟨_, h⟩ | ⟨g, cap, cur, hv, h1, h2, h3, h4, _⟩
        · rw [h]; exact Nat.zero_le _
        · injection hv with _ hv
          exact Nat.le_trans h3 h4
      unfold maxLen at hNb
      go_loopw [34] (fun iv wx => ∃ k : Nat, k ≤ N ∧ iv = .int .i64 k ∧ (∀ j (hj : j < L.length), j < k → withinB b s (frmF true L[j]) L[j].s = false) ∧ wx.heap[w.heap.size]? = some (.cells #[.int .u64 (b : Int), .int .u64 (s : Int)] 31) ∧ wx.ownsRow bs 79 3 (.slice AL N cL) N (mpCells L) ∧ Below w.heap.size w wx) (fun iv _ => N - (intOf iv).toNat)
      case atStart => exact ⟨0, by omega, rfl, fun j _ h => absurd h (Nat.not_lt_zero j), HZ.out, HO.out, HB1.out⟩
      case round =>
        obtain ⟨k, hk, rfl, hno, hz, hown, hb⟩ := hrel
        have HNO := Lib.hid hno
        have HZ := Lib.hid hz
        have HOW := Lib.hid hown
        have HB := Lib.hid hb
        have hltz : w.heap.size < wr.heap.size := lt_of_heap hz
        clear hno hz hown hb
        by_cases hkN : k < N
        · have hkL : k < L.length := by rw [← HN.out]; exact hkN
          have hki : (k : Int) < (N : Int) := by omega
          obtain ⟨g, off, eA, hg, xa⟩ := (own_seg HOW.out).thing (f := mpOne) (m := 3) mp_len (by omega) hkL
          subst eA
          have x0 : wr.cell? ⟨g, off + k * 3, none⟩ = some (.int .u64 (L[k].k : Int)) := xa 0 _ rfl
          have x1 : wr.cell? ⟨g, off + k * 3 + 1, none⟩ = some (.int .u64 (L[k].a : Int)) := xa 1 _ rfl
          have x2 : wr.cell? ⟨g, off + k * 3 + 2, none⟩ = some (.int .u64 (L[k].s : Int)) := xa 2 _ rfl
          obtain ⟨hx1, hx2, hx3, hx4⟩ := HGM.out L[k] (List.getElem_mem hkL)
          have hgt := fun h => good_to HGM.out (List.getElem_mem hkL) true (b := b) (s := s) h
          have hhit := fun h => find_hit (p := fun x => withinB b s (frmF true x) x.s) hkL h (fun j hj hjk => HNO.out j hj hjk)
          obtain ⟨kx, hkx⟩ : ∃ q, q = L[k].k := ⟨_, rfl⟩
          obtain ⟨ax, hax⟩ : ∃ q, q = L[k].a := ⟨_, rfl⟩
          obtain ⟨sx, hsx⟩ : ∃ q, q = L[k].s := ⟨_, rfl⟩
          have hfx : frmF true L[k] = ax := by rw [hax]; rfl
          have htx : toF true L[k] = kx := by rw [hkx]; rfl
          rw [← hkx] at x0 hx2
          rw [← hax] at x1 hx3
          rw [← hsx] at x2 hx4
          rw [hfx, htx, ← hsx] at hgt
          have hsame : withinB b s (frmF true L[k]) L[k].s = withinB b s ax sx := by rw [hfx, ← hsx]
          have hres : withinB b s ax sx = true → res = (kx + (b - ax), 0) := fun h => by
            rw [HR2.out, hhit (by rw [hsame]; exact h)]
            show (toF true L[k] + (b - frmF true L[k]), (0 : Int)) = _
            rw [htx, hfx]
          have HS := Lib.hid hsame
          have HRS := Lib.hid hres
          have HGT := Lib.hid hgt
          clear xa hx1 hhit hkx hax hsx hfx htx hsame hres hgt
          have WI := fun W => within_any b s ax sx hb64 hs64 hx3 hx4 W
          obtain ⟨X, hX⟩ : ∃ X, X = withinB b s ax sx := ⟨_, rfl⟩
          rw [← hX] at HS HRS HGT WI
          have HWI := Lib.hid WI
          clear hX WI
          have c0 : (wr.alloc (.cells #[.int .u64 (kx : Int), .int .u64 (ax : Int), .int .u64 (sx : Int)] 79)).cell? ⟨w.heap.size, 0, none⟩ = some (.int .u64 (b : Int)) := by
            rw [World.cell?_alloc_lt _ _ _ (by exact hltz), cell_of_row _ _ _ _ _ _ HZ.out]; rfl
          have c1 : (wr.alloc (.cells #[.int .u64 (kx : Int), .int .u64 (ax : Int), .int .u64 (sx : Int)] 79)).cell? ⟨w.heap.size, 1, none⟩ = some (.int .u64 (s : Int)) := by
            rw [World.cell?_alloc_lt _ _ _ (by exact hltz), cell_of_row _ _ _ _ _ _ HZ.out]; rfl
          go_wp2_with fail
          go_quiet (fail)
          cases X with
          | true =>
            obtain rfl := HRS.out rfl
            obtain ⟨g1, g2⟩ := HGT.out rfl
            have k1 : (0 : Int) ≤ (b : Int) - (ax : Int) := by omega
            have k2 : (kx : Int) + ((b : Int) - (ax : Int)) < 18446744073709551616 := by omega
            have k3 : (kx : Int) + ((b : Int) - (ax : Int)) = ((kx + (b - ax) : Nat) : Int) := by omega
            have K3 := Lib.hid k3
            clear k3
            go_wp2_with (first
              | (go_at_call 35; refine (HWI.out _).mono ?_; rintro e w2 ⟨rfl, hb2⟩
                 have HB2 := Lib.hid (below_next (below_drewN (HB.out.alloc (Nat.le_of_lt hltz) (.cells #[.int .u64 (kx : Int), .int .u64 (ax : Int), .int .u64 (sx : Int)] 79)) nq) hb2)
                 have c2 : w2.cell? ⟨w.heap.size, 0, none⟩ = some (.int .u64 (b : Int)) := (hb2.cell (by show _ < (wr.alloc _).heap.size; rw [World.size_alloc]; exact Nat.lt_succ_of_lt hltz)).trans c0
                 clear hb2)
              | fail)
            go_ret2
            exact ⟨ret_int2 K3.out rfl, HB2.out⟩
          | false =>
            have hno2 : ∀ j (hj : j < L.length), j < k + 1 → withinB b s (frmF true L[j]) L[j].s = false := fun j hj hjk => by
              rcases (show j < k ∨ j = k by omega) with h2 | rfl
              · exact HNO.out j hj h2
              · exact HS.out
            have HNO2 := Lib.hid hno2
            clear hno2
            go_wp2_with (first
              | (go_at_call 35; refine (HWI.out _).mono ?_; rintro e w2 ⟨rfl, hb2⟩
                 have hb3 : Below wr.heap.size wr w2 := (below_drewN ((Below.refl _ wr).alloc (Nat.le_refl _) (.cells #[.int .u64 (kx : Int), .int .u64 (ax : Int), .int .u64 (sx : Int)] 79)) nq).trans (hb2.mono (by show _ ≤ (wr.alloc _).heap.size; rw [World.size_alloc]; exact Nat.le_succ _))
                 have HB2 := Lib.hid (below_next HB.out hb3)
                 have HZ2 := Lib.hid ((hb3.block _ hltz).trans HZ.out)
                 have HO2 := Lib.hid (own_keep HOW.out fun g _ hlt => hb3.block g hlt)
                 clear hb2 hb3)
              | fail)
            exact ⟨⟨k + 1, by omega, by go_num, HNO2.out, HZ2.out, HO2.out, HB2.out⟩, by simp [intOf]; omega⟩
        · obtain rfl : k = N := by omega
          have HM := find_miss (p := fun x => withinB b s (frmF true x) x.s) (L := L) (fun j hj => HNO.out j hj (by rw [HN.out]; exact hj))
          obtain rfl : res = (0, 150) := by rw [HR2.out, HM]
          clear HR2 HM
          go_wp2_with fail
          go_ret2
          exact ⟨rfl, HB.out⟩
end Go.Proofs.Ytndocngkganpdaa
