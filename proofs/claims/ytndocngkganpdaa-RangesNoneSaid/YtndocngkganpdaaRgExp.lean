/- Cells, Reg, Maps, Windows, Up, Out, Down, of the program and of the document: the contracts. -/
import Derived.Test.YtndocngkganpdaaRgRWin
import Derived.Test.YtndocngkganpdaaRgPReg
set_option linter.unusedVariables false
namespace Go.Proofs.Ytndocngkganpdaa
open Go.RowKit
theorem tree_ups {l : List Nd} (h : treeB l = true) : Ups l := fun k h0 hk => by
  have := fine_par (tree_fine h) (j := k) hk hk
  exact ⟨this.2.2 h0, this.1⟩
theorem tree_len {l : List Nd} (h : treeB l = true) : l.length ≤ 512 := by
  rcases Nat.lt_or_ge 512 l.length with h1 | h1
  · rw [tree_big h1] at h; cases h
  · exact h1
theorem tree_short {l : List Nd} (h : treeB l = true) : ShortL l := fun x hx y hy => by
  obtain ⟨i, hi, rfl⟩ := List.mem_iff_getElem.1 hx
  have hn := tree_fine h i hi
  have hp : propsB l[i].ps = true := by
    rcases Nat.eq_zero_or_pos i with rfl | h0
    · rw [node_zero hi, Bool.and_eq_true] at hn; exact hn.1
    · rw [node_some hi (by omega), Bool.and_eq_true, Bool.and_eq_true] at hn; exact hn.1.2
  unfold propsB at hp
  rw [Bool.and_eq_true, all_range] at hp
  obtain ⟨j, hj, rfl⟩ := List.mem_iff_getElem.1 hy
  have := hp.2 j hj
  rw [prop_some hj, Bool.and_eq_true, Bool.and_eq_true, decide_eq_true_eq] at this
  have := this.1.2
  omega
/-- What follows where a place may be asked for. -/
structure Plc (l : List Nm) (n : Nat) (k : Nat) : Prop where
  lt : k < n
  len : n ≤ 512
  ups : Ups (dat l)
  short : ShortL (dat l)
theorem place {l : List Nm} {n : Nat} (hn : n = l.length) {i least : Int} (h : wrongF (dat l) i least = 0) (h0 : 0 ≤ least) : ∃ k : Nat, i = k ∧ least ≤ k ∧ Plc l n k := by
  obtain ⟨ht, h1, h2⟩ := wrong_zero h
  rw [dat_len, ← hn] at h2
  have h3 := tree_len ht
  rw [dat_len, ← hn] at h3
  exact ⟨i.toNat, by omega, by omega, by omega, h3, tree_ups ht, tree_short ht⟩
def cellsE (l : List Nd) (i : Int) : Nat × Nat × Int := if wrongF l i 0 ≠ 0 then (0, 0, wrongF l i 0) else ((spcF (psAt l i.toNat)).1, (spcF (psAt l i.toNat)).2.1, ((spcF (psAt l i.toNat)).2.2 : Nat))
def regX (o : Option (List (Nat × Nat))) : List (Nat × Nat) × Int := match o with
  | none => ([], 4)
  | some L => (L, 0)
def regE (l : List Nd) (i : Int) : List (Nat × Nat) × Int := if wrongF l i 1 ≠ 0 then ([], wrongF l i 1) else regX (regF l i.toNat)
def mapsE (l : List Nd) (i : Int) : List Mp × Bool × Int := if wrongF l i 1 ≠ 0 then ([], false, wrongF l i 1) else mapsF l i.toNat
def winE (l : List Nd) (i : Int) : List (Nat × Nat) × Int := if wrongF l i 1 ≠ 0 then ([], wrongF l i 1) else windowsF l i.toNat
def upE (l : List Nd) (i : Int) (b s : Nat) : Nat × Int := if wrongF l i 1 ≠ 0 then (0, wrongF l i 1) else if fitsB b s then upF l i.toNat b s else (0, 1)
def outE (l : List Nd) (i : Int) (b s : Nat) : Nat × Int := if wrongF l i 0 ≠ 0 then (0, wrongF l i 0) else if fitsB b s then outF l i.toNat b s else (0, 1)
def downE (l : List Nd) (i : Int) (b : Nat) : Nat × Int := if wrongF l i 0 ≠ 0 then (0, wrongF l i 0) else downF l i.toNat b
theorem regR_x {o : Option (List (Nat × Nat))} {base : Nat} {e : Ending} {w' : World} (h : RegR o base e w') : WinR 31 (regX o) base e w' := by
  cases o with
  | none => obtain rfl : e = _ := h; exact winR_no 4 _ _
  | some L => exact h
theorem regT_x {t : TypeId} {o : Option (List (Nat × Nat))} {base : Nat} {e : Ending} {w' : World} (h : RegT t o base e w') : WinR t (regX o) base e w' := by
  cases o with
  | none => obtain rfl : e = _ := h; exact winR_no 4 _ _
  | some L => exact h
theorem winR_base {t : TypeId} {X : List (Nat × Nat) × Int} {base b : Nat} {e : Ending} {w' : World} (h : WinR t X base e w') (hb : b ≤ base) : WinR t X b e w' := by
  obtain ⟨A, c, h1, h2⟩ := h
  exact ⟨A, c, h1, own_base h2 hb⟩
theorem mapsR_base {t : TypeId} {X : List Mp × Bool × Int} {base b : Nat} {e : Ending} {w' : World} (h : MapsR t X base e w') (hb : b ≤ base) : MapsR t X b e w' := by
  obtain ⟨A, c, h1, h2⟩ := h
  exact ⟨A, c, h1, own_base h2 hb⟩
set_option maxRecDepth 100000 in
set_option maxHeartbeats 16000000 in
theorem pcells_any (A : Option Addr) (cap n : Nat) (l : List Nm) (hn : n = l.length) (hsz : Sized l) (i : Int) (w : World) (B : Nat) (hB : B ≤ w.heap.size) (hs : Nodes w B A l) :
    Calls Try.prog 21 #[.slice A n cap, .int .i64 i] w fun e w' => e = .returned (.tuple #[.int .i64 ((cellsE (dat l) i).1 : Nat), .int .i64 ((cellsE (dat l) i).2.1 : Nat), .int .i64 (cellsE (dat l) i).2.2]) ∧ Below w.heap.size w w' := by
  have NO := node_any A cap n l hn hsz i 0 w B hB hs
  unfold cellsE
  by_cases h0 : wrongF (dat l) i 0 = 0
  case neg =>
    obtain ⟨x, hx⟩ : ∃ x, x = wrongF (dat l) i 0 := ⟨_, rfl⟩
    rw [← hx] at NO h0 ⊢
    rw [if_pos h0]
    have HNO := Lib.hid NO
    have d1 : (x == 0) = false := by rw [beq_eq_false_iff_ne]; exact h0
    clear NO hx hn hsz hs
    go_enter Try.func21, Try.ntmps21
    go_wp2_with (first
      | (go_at_call 28; refine HNO.out.mono ?_; rintro e w1 ⟨rfl, hb1⟩
         have HB1 := Lib.hid (hb1)
         clear hb1)
      | fail)
    go_ret3
    exact ⟨rfl, HB1.out⟩
  rw [if_neg (fun h => h h0)]
  obtain ⟨k, rfl, _, hpl⟩ := place hn h0 (by omega)
  rw [h0] at NO
  have HNO := Lib.hid NO
  have hkl : k < l.length := by rw [← hn]; exact hpl.lt
  have hki : (k : Int) < (n : Int) := by have := hpl.lt; omega
  have hnb := hpl.len
  have hps : psAt (dat l) (k : Int).toNat = l[k].d.ps := ps_get l hkl
  rw [hps]
  obtain ⟨b, off, rfl, hbB, x0, x1, x2, hq⟩ := hs.at_ hkl
  have hbw : b < w.heap.size := by omega
  have SP := fun W (hW : Below w.heap.size w W) => space_any l[k].d.p l[k].d.n l[k].A l[k].c l[k].d.ps.length l[k].d.ps rfl (by have := hsz.props l[k] (List.getElem_mem hkl); omega) (hpl.short l[k].d (List.mem_map_of_mem (List.getElem_mem hkl))) W B (Nat.le_trans hB hW.size) (hq.below (hW.mono hB))
  have HSP := Lib.hid SP
  generalize l[k].d.p = px at *
  generalize l[k].d.n = nx at *
  generalize l[k].d.ps = qx at *
  generalize l[k].A = ax at *
  generalize l[k].c = cx at *
  clear NO hn hsz hs SP hpl hps h0 hq
  go_enter Try.func21, Try.ntmps21
  go_wp2_with (first
    | (go_at_call 28; refine HNO.out.mono ?_; rintro e w1 ⟨rfl, hb1⟩
       have HB1 := Lib.hid hb1
       have z0 := (hb1.cell (p := ⟨b, off + k * 3, none⟩) hbw).trans x0
       have z1 := (hb1.cell (p := ⟨b, off + k * 3 + 1, none⟩) hbw).trans x1
       have z2 := (hb1.cell (p := ⟨b, off + k * 3 + 2, none⟩) hbw).trans x2
       clear hb1)
    | (go_at_call 48; refine (HSP.out _ HB1.out).mono ?_; rintro e w2 ⟨rfl, hb2⟩
       have HB2 := Lib.hid (below_next HB1.out hb2)
       clear hb2)
    | fail)
  go_ret3
  exact ⟨rfl, HB2.out⟩
set_option maxRecDepth 100000 in
set_option maxHeartbeats 16000000 in
theorem rcells_any (A : Option Addr) (cap n : Nat) (l : List Nm) (hn : n = l.length) (hsz : Sized l) (i : Int) (w : World) (B : Nat) (hB : B ≤ w.heap.size) (hs : Nodes w B A l) :
    Calls Try.prog 37 #[.slice A n cap, .int .i64 i] w fun e w' => e = .returned (.tuple #[.int .i64 ((cellsE (dat l) i).1 : Nat), .int .i64 ((cellsE (dat l) i).2.1 : Nat), .int .i64 (cellsE (dat l) i).2.2]) ∧ Below w.heap.size w w' := by
  have NO := wrong_true A cap n l hn hsz i w B hB hs
  unfold cellsE
  by_cases h0 : wrongF (dat l) i 0 = 0
  case neg =>
    obtain ⟨x, hx⟩ : ∃ x, x = wrongF (dat l) i 0 := ⟨_, rfl⟩
    rw [← hx] at NO h0 ⊢
    rw [if_pos h0]
    have HNO := Lib.hid NO
    have d1 : (x == 0) = false := by rw [beq_eq_false_iff_ne]; exact h0
    clear NO hx hn hsz hs
    go_enter Try.func37, Try.ntmps37
    go_wp2_with (first
      | (go_at_call 54; refine HNO.out.mono ?_; rintro e w1 ⟨rfl, hb1⟩
         have HB1 := Lib.hid (hb1)
         clear hb1)
      | fail)
    go_ret3
    exact ⟨rfl, HB1.out⟩
  rw [if_neg (fun h => h h0)]
  obtain ⟨k, rfl, _, hpl⟩ := place hn h0 (by omega)
  rw [h0] at NO
  have HNO := Lib.hid NO
  have hkl : k < l.length := by rw [← hn]; exact hpl.lt
  have hki : (k : Int) < (n : Int) := by have := hpl.lt; omega
  have hnb := hpl.len
  have hps : psAt (dat l) (k : Int).toNat = l[k].d.ps := ps_get l hkl
  rw [hps]
  obtain ⟨b, off, rfl, hbB, x0, x1, x2, hq⟩ := hs.at_ hkl
  have hbw : b < w.heap.size := by omega
  have SP := fun W (hW : Below w.heap.size w W) => cells_any l[k].d.p l[k].d.n l[k].A l[k].c l[k].d.ps.length l[k].d.ps rfl (by have := hsz.props l[k] (List.getElem_mem hkl); omega) W B (Nat.le_trans hB hW.size) (hq.below (hW.mono hB))
  have HSP := Lib.hid SP
  generalize l[k].d.p = px at *
  generalize l[k].d.n = nx at *
  generalize l[k].d.ps = qx at *
  generalize l[k].A = ax at *
  generalize l[k].c = cx at *
  clear NO hn hsz hs SP hpl hps h0 hq
  go_enter Try.func37, Try.ntmps37
  go_wp2_with (first
    | (go_at_call 54; refine HNO.out.mono ?_; rintro e w1 ⟨rfl, hb1⟩
       have HB1 := Lib.hid hb1
       have z0 := (hb1.cell (p := ⟨b, off + k * 3, none⟩) hbw).trans x0
       have z1 := (hb1.cell (p := ⟨b, off + k * 3 + 1, none⟩) hbw).trans x1
       have z2 := (hb1.cell (p := ⟨b, off + k * 3 + 2, none⟩) hbw).trans x2
       clear hb1)
    | (go_at_call 55; refine (HSP.out _ HB1.out).mono ?_; rintro e w2 ⟨rfl, hb2⟩
       have HB2 := Lib.hid (below_next HB1.out hb2)
       clear hb2)
    | fail)
  go_ret3
  exact ⟨rfl, HB2.out⟩
set_option maxRecDepth 100000 in
set_option maxHeartbeats 16000000 in
theorem preg2_any (A : Option Addr) (cap n : Nat) (l : List Nm) (hn : n = l.length) (hsz : Sized l) (i : Int) (w : World) (B : Nat) (hB : B ≤ w.heap.size) (hs : Nodes w B A l) :
    Calls Try.prog 22 #[.slice A n cap, .int .i64 i] w fun e w' => WinR 31 (regE (dat l) i) w.heap.size e w' ∧ Below w.heap.size w w' := by
  have NO := node_any A cap n l hn hsz i 1 w B hB hs
  unfold regE
  by_cases h0 : wrongF (dat l) i 1 = 0
  case neg =>
    obtain ⟨x, hx⟩ : ∃ x, x = wrongF (dat l) i 1 := ⟨_, rfl⟩
    rw [← hx] at NO h0 ⊢
    rw [if_pos h0]
    have HNO := Lib.hid NO
    have d1 : (x == 0) = false := by rw [beq_eq_false_iff_ne]; exact h0
    clear NO hx hn hsz hs
    go_enter Try.func22, Try.ntmps22
    go_wp2_with (first
      | (go_at_call 28; refine HNO.out.mono ?_; rintro e w1 ⟨rfl, hb1⟩
         have HB1 := Lib.hid (hb1)
         clear hb1)
      | fail)
    go_ret2
    exact ⟨winR_no x _ _, HB1.out⟩
  rw [if_neg (fun h => h h0)]
  obtain ⟨k, rfl, hk1, hpl⟩ := place hn h0 (by omega)
  rw [h0] at NO
  have HNO := Lib.hid NO
  have hk0 : 0 < k := by omega
  have hup := hpl.ups k hk0 (by rw [dat_len, ← hn]; exact hpl.lt)
  have hlt := hpl.lt
  have hlen := hpl.len
  show Calls Try.prog 22 _ _ fun e w' => WinR 31 (regX (regF (dat l) k)) _ e w' ∧ _
  have IN : ∀ W, Below w.heap.size w W → Calls Try.prog 49 #[.slice A n cap, .int .i64 (k : Nat)] W fun e w' => WinR 31 (regX (regF (dat l) k)) W.heap.size e w' ∧ Below W.heap.size W w' := fun W hW => (reg_any A cap n l hn hsz hpl.short k hlt hup.1 (by omega) W B (Nat.le_trans hB hW.size) (hs.below (hW.mono hB))).mono fun e w' h => ⟨regR_x h.1, h.2⟩
  generalize regX (regF (dat l) k) = X at *
  have HIN := Lib.hid IN
  clear NO hn hsz hs IN hpl h0 hup hk1
  go_enter Try.func22, Try.ntmps22
  go_wp2_with (first
    | (go_at_call 28; refine HNO.out.mono ?_; rintro e w1 ⟨rfl, hb1⟩
       have HB1 := Lib.hid hb1
       clear hb1)
    | (go_at_call 49; refine (HIN.out _ HB1.out).mono ?_; rintro e w2 ⟨⟨A2, c2, rfl, hown⟩, hb2⟩
       have HB2 := Lib.hid (below_next HB1.out hb2)
       have HO := Lib.hid (own_base hown HB1.out.size)
       clear hb2 hown)
    | fail)
  go_ret2
  exact ⟨⟨A2, c2, rfl, HO.out⟩, HB2.out⟩
set_option maxRecDepth 100000 in
set_option maxHeartbeats 16000000 in
theorem rreg2_any (A : Option Addr) (cap n : Nat) (l : List Nm) (hn : n = l.length) (hsz : Sized l) (i : Int) (w : World) (B : Nat) (hB : B ≤ w.heap.size) (hs : Nodes w B A l) :
    Calls Try.prog 38 #[.slice A n cap, .int .i64 i] w fun e w' => WinR 37 (regE (dat l) i) w.heap.size e w' ∧ Below w.heap.size w w' := by
  have NO := wrong_false A cap n l hn hsz i w B hB hs
  unfold regE
  by_cases h0 : wrongF (dat l) i 1 = 0
  case neg =>
    obtain ⟨x, hx⟩ : ∃ x, x = wrongF (dat l) i 1 := ⟨_, rfl⟩
    rw [← hx] at NO h0 ⊢
    rw [if_pos h0]
    have HNO := Lib.hid NO
    have d1 : (x == 0) = false := by rw [beq_eq_false_iff_ne]; exact h0
    clear NO hx hn hsz hs
    go_enter Try.func38, Try.ntmps38
    go_wp2_with (first
      | (go_at_call 54; refine HNO.out.mono ?_; rintro e w1 ⟨rfl, hb1⟩
         have HB1 := Lib.hid (hb1)
         clear hb1)
      | fail)
    go_ret2
    exact ⟨winR_no x _ _, HB1.out⟩
  rw [if_neg (fun h => h h0)]
  obtain ⟨k, rfl, hk1, hpl⟩ := place hn h0 (by omega)
  rw [h0] at NO
  have HNO := Lib.hid NO
  have hk0 : 0 < k := by omega
  have hup := hpl.ups k hk0 (by rw [dat_len, ← hn]; exact hpl.lt)
  have hlt := hpl.lt
  have hlen := hpl.len
  show Calls Try.prog 38 _ _ fun e w' => WinR 37 (regX (regF (dat l) k)) _ e w' ∧ _
  have IN : ∀ W, Below w.heap.size w W → Calls Try.prog 56 #[.slice A n cap, .int .i64 (k : Nat)] W fun e w' => WinR 37 (regX (regF (dat l) k)) W.heap.size e w' ∧ Below W.heap.size W w' := fun W hW => (rreg_any A cap n l hn hsz hpl.short k hlt hup.1 (by omega) W B (Nat.le_trans hB hW.size) (hs.below (hW.mono hB))).mono fun e w' h => ⟨regT_x h.1, h.2⟩
  generalize regX (regF (dat l) k) = X at *
  have HIN := Lib.hid IN
  clear NO hn hsz hs IN hpl h0 hup hk1
  go_enter Try.func38, Try.ntmps38
  go_wp2_with (first
    | (go_at_call 54; refine HNO.out.mono ?_; rintro e w1 ⟨rfl, hb1⟩
       have HB1 := Lib.hid hb1
       clear hb1)
    | (go_at_call 56; refine (HIN.out _ HB1.out).mono ?_; rintro e w2 ⟨⟨A2, c2, rfl, hown⟩, hb2⟩
       have HB2 := Lib.hid (below_next HB1.out hb2)
       have HO := Lib.hid (own_base hown HB1.out.size)
       clear hb2 hown)
    | fail)
  go_ret2
  exact ⟨⟨A2, c2, rfl, HO.out⟩, HB2.out⟩
set_option maxRecDepth 100000 in
set_option maxHeartbeats 16000000 in
theorem pmaps_any (A : Option Addr) (cap n : Nat) (l : List Nm) (hn : n = l.length) (hsz : Sized l) (i : Int) (w : World) (B : Nat) (hB : B ≤ w.heap.size) (hs : Nodes w B A l) :
    Calls Try.prog 23 #[.slice A n cap, .int .i64 i] w fun e w' => MapsR 79 (mapsE (dat l) i) w.heap.size e w' ∧ Below w.heap.size w w' := by
  have NO := node_any A cap n l hn hsz i 1 w B hB hs
  unfold mapsE
  by_cases h0 : wrongF (dat l) i 1 = 0
  case neg =>
    obtain ⟨x, hx⟩ : ∃ x, x = wrongF (dat l) i 1 := ⟨_, rfl⟩
    rw [← hx] at NO h0 ⊢
    rw [if_pos h0]
    have HNO := Lib.hid NO
    have d1 : (x == 0) = false := by rw [beq_eq_false_iff_ne]; exact h0
    clear NO hx hn hsz hs
    go_enter Try.func23, Try.ntmps23
    go_wp2_with (first
      | (go_at_call 28; refine HNO.out.mono ?_; rintro e w1 ⟨rfl, hb1⟩
         have HB1 := Lib.hid (hb1)
         clear hb1)
      | fail)
    go_ret3
    exact ⟨mapsR_no x _ _, HB1.out⟩
  rw [if_neg (fun h => h h0)]
  obtain ⟨k, rfl, hk1, hpl⟩ := place hn h0 (by omega)
  rw [h0] at NO
  have HNO := Lib.hid NO
  have hk0 : 0 < k := by omega
  have hup := hpl.ups k hk0 (by rw [dat_len, ← hn]; exact hpl.lt)
  have hlt := hpl.lt
  have hlen := hpl.len
  show Calls Try.prog 23 _ _ fun e w' => MapsR 79 (mapsF (dat l) k) _ e w' ∧ _
  have IN : ∀ W, Below w.heap.size w W → Calls Try.prog 50 #[.slice A n cap, .int .i64 (k : Nat)] W fun e w' => MapsR 79 (mapsF (dat l) k) W.heap.size e w' ∧ Below W.heap.size W w' := fun W hW => maps_any A cap n l hn hsz hpl.short k hlt hup.1 (by omega) W B (Nat.le_trans hB hW.size) (hs.below (hW.mono hB))
  generalize mapsF (dat l) k = X at *
  have HIN := Lib.hid IN
  clear NO hn hsz hs IN hpl h0 hup hk1
  go_enter Try.func23, Try.ntmps23
  go_wp2_with (first
    | (go_at_call 28; refine HNO.out.mono ?_; rintro e w1 ⟨rfl, hb1⟩
       have HB1 := Lib.hid hb1
       clear hb1)
    | (go_at_call 50; refine (HIN.out _ HB1.out).mono ?_; rintro e w2 ⟨⟨A2, c2, rfl, hown⟩, hb2⟩
       have HB2 := Lib.hid (below_next HB1.out hb2)
       have HO := Lib.hid (own_base hown HB1.out.size)
       clear hb2 hown)
    | fail)
  go_ret3
  exact ⟨⟨A2, c2, rfl, HO.out⟩, HB2.out⟩
set_option maxRecDepth 100000 in
set_option maxHeartbeats 16000000 in
theorem rmaps2_any (A : Option Addr) (cap n : Nat) (l : List Nm) (hn : n = l.length) (hsz : Sized l) (i : Int) (w : World) (B : Nat) (hB : B ≤ w.heap.size) (hs : Nodes w B A l) :
    Calls Try.prog 40 #[.slice A n cap, .int .i64 i] w fun e w' => MapsR 84 (mapsE (dat l) i) w.heap.size e w' ∧ Below w.heap.size w w' := by
  have NO := wrong_false A cap n l hn hsz i w B hB hs
  unfold mapsE
  by_cases h0 : wrongF (dat l) i 1 = 0
  case neg =>
    obtain ⟨x, hx⟩ : ∃ x, x = wrongF (dat l) i 1 := ⟨_, rfl⟩
    rw [← hx] at NO h0 ⊢
    rw [if_pos h0]
    have HNO := Lib.hid NO
    have d1 : (x == 0) = false := by rw [beq_eq_false_iff_ne]; exact h0
    clear NO hx hn hsz hs
    go_enter Try.func40, Try.ntmps40
    go_wp2_with (first
      | (go_at_call 54; refine HNO.out.mono ?_; rintro e w1 ⟨rfl, hb1⟩
         have HB1 := Lib.hid (hb1)
         clear hb1)
      | fail)
    go_ret3
    exact ⟨mapsR_no x _ _, HB1.out⟩
  rw [if_neg (fun h => h h0)]
  obtain ⟨k, rfl, hk1, hpl⟩ := place hn h0 (by omega)
  rw [h0] at NO
  have HNO := Lib.hid NO
  have hk0 : 0 < k := by omega
  have hup := hpl.ups k hk0 (by rw [dat_len, ← hn]; exact hpl.lt)
  have hlt := hpl.lt
  have hlen := hpl.len
  show Calls Try.prog 40 _ _ fun e w' => MapsR 84 (mapsF (dat l) k) _ e w' ∧ _
  have IN : ∀ W, Below w.heap.size w W → Calls Try.prog 52 #[.slice A n cap, .int .i64 (k : Nat)] W fun e w' => MapsR 84 (mapsF (dat l) k) W.heap.size e w' ∧ Below W.heap.size W w' := fun W hW => rmaps_any A cap n l hn hsz hpl.short k hlt hup.1 (by omega) W B (Nat.le_trans hB hW.size) (hs.below (hW.mono hB))
  generalize mapsF (dat l) k = X at *
  have HIN := Lib.hid IN
  clear NO hn hsz hs IN hpl h0 hup hk1
  go_enter Try.func40, Try.ntmps40
  go_wp2_with (first
    | (go_at_call 54; refine HNO.out.mono ?_; rintro e w1 ⟨rfl, hb1⟩
       have HB1 := Lib.hid hb1
       clear hb1)
    | (go_at_call 52; refine (HIN.out _ HB1.out).mono ?_; rintro e w2 ⟨⟨A2, c2, rfl, hown⟩, hb2⟩
       have HB2 := Lib.hid (below_next HB1.out hb2)
       have HO := Lib.hid (own_base hown HB1.out.size)
       clear hb2 hown)
    | fail)
  go_ret3
  exact ⟨⟨A2, c2, rfl, HO.out⟩, HB2.out⟩
set_option maxRecDepth 100000 in
set_option maxHeartbeats 16000000 in
theorem pwindows_any (A : Option Addr) (cap n : Nat) (l : List Nm) (hn : n = l.length) (hsz : Sized l) (i : Int) (w : World) (B : Nat) (hB : B ≤ w.heap.size) (hs : Nodes w B A l) :
    Calls Try.prog 15 #[.slice A n cap, .int .i64 i] w fun e w' => WinR 31 (winE (dat l) i) w.heap.size e w' ∧ Below w.heap.size w w' := by
  have NO := node_any A cap n l hn hsz i 1 w B hB hs
  unfold winE
  by_cases h0 : wrongF (dat l) i 1 = 0
  case neg =>
    obtain ⟨x, hx⟩ : ∃ x, x = wrongF (dat l) i 1 := ⟨_, rfl⟩
    rw [← hx] at NO h0 ⊢
    rw [if_pos h0]
    have HNO := Lib.hid NO
    have d1 : (x == 0) = false := by rw [beq_eq_false_iff_ne]; exact h0
    clear NO hx hn hsz hs
    go_enter Try.func15, Try.ntmps15
    go_wp2_with (first
      | (go_at_call 28; refine HNO.out.mono ?_; rintro e w1 ⟨rfl, hb1⟩
         have HB1 := Lib.hid (hb1)
         clear hb1)
      | fail)
    go_ret2
    exact ⟨winR_no x _ _, HB1.out⟩
  rw [if_neg (fun h => h h0)]
  obtain ⟨k, rfl, hk1, hpl⟩ := place hn h0 (by omega)
  rw [h0] at NO
  have HNO := Lib.hid NO
  have hk0 : 0 < k := by omega
  have hup := hpl.ups k hk0 (by rw [dat_len, ← hn]; exact hpl.lt)
  have hlt := hpl.lt
  have hlen := hpl.len
  show Calls Try.prog 15 _ _ fun e w' => WinR 31 (windowsF (dat l) k) _ e w' ∧ _
  have IN : ∀ W, Below w.heap.size w W → Calls Try.prog 34 #[.slice A n cap, .int .i64 (k : Nat)] W fun e w' => WinR 31 (windowsF (dat l) k) W.heap.size e w' ∧ Below W.heap.size W w' := fun W hW => windows_any A cap n l hn (by omega) hsz hpl.short hpl.ups k hk0 hlt W B (Nat.le_trans hB hW.size) (hs.below (hW.mono hB))
  generalize windowsF (dat l) k = X at *
  have HIN := Lib.hid IN
  clear NO hn hsz hs IN hpl h0 hup hk1
  go_enter Try.func15, Try.ntmps15
  go_wp2_with (first
    | (go_at_call 28; refine HNO.out.mono ?_; rintro e w1 ⟨rfl, hb1⟩
       have HB1 := Lib.hid hb1
       clear hb1)
    | (go_at_call 34; refine (HIN.out _ HB1.out).mono ?_; rintro e w2 ⟨⟨A2, c2, rfl, hown⟩, hb2⟩
       have HB2 := Lib.hid (below_next HB1.out hb2)
       have HO := Lib.hid (own_base hown HB1.out.size)
       clear hb2 hown)
    | fail)
  go_ret2
  exact ⟨⟨A2, c2, rfl, HO.out⟩, HB2.out⟩
set_option maxRecDepth 100000 in
set_option maxHeartbeats 16000000 in
theorem rwindows2_any (A : Option Addr) (cap n : Nat) (l : List Nm) (hn : n = l.length) (hsz : Sized l) (i : Int) (w : World) (B : Nat) (hB : B ≤ w.heap.size) (hs : Nodes w B A l) :
    Calls Try.prog 41 #[.slice A n cap, .int .i64 i] w fun e w' => WinR 37 (winE (dat l) i) w.heap.size e w' ∧ Below w.heap.size w w' := by
  have NO := wrong_false A cap n l hn hsz i w B hB hs
  unfold winE
  by_cases h0 : wrongF (dat l) i 1 = 0
  case neg =>
    obtain ⟨x, hx⟩ : ∃ x, x = wrongF (dat l) i 1 := ⟨_, rfl⟩
    rw [← hx] at NO h0 ⊢
    rw [if_pos h0]
    have HNO := Lib.hid NO
    have d1 : (x == 0) = false := by rw [beq_eq_false_iff_ne]; exact h0
    clear NO hx hn hsz hs
    go_enter Try.func41, Try.ntmps41
    go_wp2_with (first
      | (go_at_call 54; refine HNO.out.mono ?_; rintro e w1 ⟨rfl, hb1⟩
         have HB1 := Lib.hid (hb1)
         clear hb1)
      | fail)
    go_ret2
    exact ⟨winR_no x _ _, HB1.out⟩
  rw [if_neg (fun h => h h0)]
  obtain ⟨k, rfl, hk1, hpl⟩ := place hn h0 (by omega)
  rw [h0] at NO
  have HNO := Lib.hid NO
  have hk0 : 0 < k := by omega
  have hup := hpl.ups k hk0 (by rw [dat_len, ← hn]; exact hpl.lt)
  have hlt := hpl.lt
  have hlen := hpl.len
  show Calls Try.prog 41 _ _ fun e w' => WinR 37 (windowsF (dat l) k) _ e w' ∧ _
  have IN : ∀ W, Below w.heap.size w W → Calls Try.prog 46 #[.slice A n cap, .int .i64 (k : Nat)] W fun e w' => WinR 37 (windowsF (dat l) k) W.heap.size e w' ∧ Below W.heap.size W w' := fun W hW => rwindows_any A cap n l hn (by omega) hsz hpl.short hpl.ups k hk0 hlt W B (Nat.le_trans hB hW.size) (hs.below (hW.mono hB))
  generalize windowsF (dat l) k = X at *
  have HIN := Lib.hid IN
  clear NO hn hsz hs IN hpl h0 hup hk1
  go_enter Try.func41, Try.ntmps41
  go_wp2_with (first
    | (go_at_call 54; refine HNO.out.mono ?_; rintro e w1 ⟨rfl, hb1⟩
       have HB1 := Lib.hid hb1
       clear hb1)
    | (go_at_call 46; refine (HIN.out _ HB1.out).mono ?_; rintro e w2 ⟨⟨A2, c2, rfl, hown⟩, hb2⟩
       have HB2 := Lib.hid (below_next HB1.out hb2)
       have HO := Lib.hid (own_base hown HB1.out.size)
       clear hb2 hown)
    | fail)
  go_ret2
  exact ⟨⟨A2, c2, rfl, HO.out⟩, HB2.out⟩
end Go.Proofs.Ytndocngkganpdaa
