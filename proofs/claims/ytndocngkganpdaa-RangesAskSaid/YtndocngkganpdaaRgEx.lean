/- The exported functions of ranges and of the document: the contracts. -/
import Derived.Test.YtndocngkganpdaaRgUpR
import Derived.Test.YtndocngkganpdaaRgPReg
set_option linter.unusedVariables false
namespace Go.Proofs.Ytndocngkganpdaa
open Go.RowKit
theorem tree_ups {l : List Nd} (h : treeB l = true) : Ups l := fun k h0 hk => by
  have := fine_par (tree_fine h) (j := k) hk hk
  exact ⟨this.2.2 h0, this.1⟩
theorem tree_len {l : List Nd} (h : treeB l = true) : l.length ≤ 512 := by
  rcases Nat.lt_or_ge 512 l.length with h1 | h1
  · rw [tree_big h1] at h; cases h
  · exact h1
theorem tree_short {l : List Nd} (h : treeB l = true) : ShortL l := fun x hx y hy => by
  obtain ⟨i, hi, rfl⟩ := List.mem_iff_getElem.1 hx
  have hn := tree_fine h i hi
  have hp : propsB l[i].ps = true := by
    rcases Nat.eq_zero_or_pos i with rfl | h0
    · rw [node_zero hi, Bool.and_eq_true] at hn; exact hn.1
    · rw [node_some hi (by omega), Bool.and_eq_true, Bool.and_eq_true] at hn; exact hn.1.2
  unfold propsB at hp
  rw [Bool.and_eq_true, all_range] at hp
  obtain ⟨j, hj, rfl⟩ := List.mem_iff_getElem.1 hy
  have := hp.2 j hj
  rw [prop_some hj, Bool.and_eq_true, Bool.and_eq_true, decide_eq_true_eq] at this
  have := this.1.2
  omega
/-- What follows where a place may be asked for. -/
structure Plc (l : List Nm) (n : Nat) (k : Nat) : Prop where
  lt : k < n
  len : n ≤ 512
  ups : Ups (dat l)
  short : ShortL (dat l)
theorem place {l : List Nm} {n : Nat} (hn : n = l.length) {i least : Int} (h : wrongF (dat l) i least = 0) (h0 : 0 ≤ least) : ∃ k : Nat, i = k ∧ least ≤ k ∧ Plc l n k := by
  obtain ⟨ht, h1, h2⟩ := wrong_zero h
  rw [dat_len, ← hn] at h2
  have h3 := tree_len ht
  rw [dat_len, ← hn] at h3
  exact ⟨i.toNat, by omega, by omega, by omega, h3, tree_ups ht, tree_short ht⟩
def cellsE (l : List Nd) (i : Int) : Nat × Nat × Int := if wrongF l i 0 ≠ 0 then (0, 0, wrongF l i 0) else ((spcF (psAt l i.toNat)).1, (spcF (psAt l i.toNat)).2.1, ((spcF (psAt l i.toNat)).2.2 : Nat))
def regX (o : Option (List (Nat × Nat))) : List (Nat × Nat) × Int := match o with
  | none => ([], 4)
  | some L => (L, 0)
def regE (l : List Nd) (i : Int) : List (Nat × Nat) × Int := if wrongF l i 1 ≠ 0 then ([], wrongF l i 1) else regX (regF l i.toNat)
def mapsE (l : List Nd) (i : Int) : List Mp × Bool × Int := if wrongF l i 1 ≠ 0 then ([], false, wrongF l i 1) else mapsF l i.toNat
def winE (l : List Nd) (i : Int) : List (Nat × Nat) × Int := if wrongF l i 1 ≠ 0 then ([], wrongF l i 1) else windowsF l i.toNat
def upE (l : List Nd) (i : Int) (b s : Nat) : Nat × Int := if wrongF l i 1 ≠ 0 then (0, wrongF l i 1) else if fitsB b s then upF l i.toNat b s else (0, 1)
def outE (l : List Nd) (i : Int) (b s : Nat) : Nat × Int := if wrongF l i 0 ≠ 0 then (0, wrongF l i 0) else if fitsB b s then outF l i.toNat b s else (0, 1)
def downE (l : List Nd) (i : Int) (b : Nat) : Nat × Int := if wrongF l i 0 ≠ 0 then (0, wrongF l i 0) else downF l i.toNat b
theorem regR_x {o : Option (List (Nat × Nat))} {base : Nat} {e : Ending} {w' : World} (h : RegR o base e w') : WinR 31 (regX o) base e w' := by
  cases o with
  | none => obtain rfl : e = _ := h; exact winR_no 4 _ _
  | some L => exact h
theorem regT_x {t : TypeId} {o : Option (List (Nat × Nat))} {base : Nat} {e : Ending} {w' : World} (h : RegT t o base e w') : WinR t (regX o) base e w' := by
  cases o with
  | none => obtain rfl : e = _ := h; exact winR_no 4 _ _
  | some L => exact h
theorem winR_base {t : TypeId} {X : List (Nat × Nat) × Int} {base b : Nat} {e : Ending} {w' : World} (h : WinR t X base e w') (hb : b ≤ base) : WinR t X b e w' := by
  obtain ⟨A, c, h1, h2⟩ := h
  exact ⟨A, c, h1, own_base h2 hb⟩
theorem mapsR_base {t : TypeId} {X : List Mp × Bool × Int} {base b : Nat} {e : Ending} {w' : World} (h : MapsR t X base e w') (hb : b ≤ base) : MapsR t X b e w' := by
  obtain ⟨A, c, h1, h2⟩ := h
  exact ⟨A, c, h1, own_base h2 hb⟩
set_option maxRecDepth 100000 in
set_option maxHeartbeats 16000000 in
theorem pcells_any (A : Option Addr) (cap n : Nat) (l : List Nm) (hn : n = l.length) (hsz : Sized l) (i : Int) (w : World) (B : Nat) (hB : B ≤ w.heap.size) (hs : Nodes w B A l) :
    Calls Try.prog 21 #[.slice A n cap, .int .i64 i] w fun e w' => e = .returned (.tuple #[.int .i64 ((cellsE (dat l) i).1 : Nat), .int .i64 ((cellsE (dat l) i).2.1 : Nat), .int .i64 (cellsE (dat l) i).2.2]) ∧ Below w.heap.size w w' := by
  have NO := node_any A cap n l hn hsz i 0 w B hB hs
  unfold cellsE
  by_cases h0 : wrongF (dat l) i 0 = 0
  case neg =>
    obtain ⟨x, hx⟩ : ∃ x, x = wrongF (dat l) i 0 := ⟨_, rfl⟩
    rw [← hx] at NO h0 ⊢
    rw [if_pos h0]
    have HNO := Lib.hid NO
    have d1 : (x == 0) = false := by rw [beq_eq_false_iff_ne]; exact h0
    clear NO hx hn hsz hs
    go_enter Try.func21, Try.ntmps21
    go_wp2_with (first
      | (go_at_call 28; refine HNO.out.mono ?_; rintro e w1 ⟨rfl, hb1⟩
         have HB1 := Lib.hid (hb1)
         clear hb1)
      | fail)
    go_ret3
    exact ⟨rfl, HB1.out⟩
  rw [if_neg (fun h => h h0)]
  obtain ⟨k, rfl, _, hpl⟩ := place hn h0 (by omega)
  rw [h0] at NO
  have HNO := Lib.hid NO
  have hkl : k < l.length := by rw [← hn]; exact hpl.lt
  have hki : (k : Int) < (n : Int) := by have := hpl.lt; omega
  have hnb := hpl.len
  have hps : psAt (dat l) (k : Int).toNat = l[k].d.ps := ps_get l hkl
  rw [hps]
  obtain ⟨b, off, rfl, hbB, x0, x1, x2, hq⟩ := hs.at_ hkl
  have hbw : b < w.heap.size := by omega
  have SP := fun W (hW : Below w.heap.size w W) => space_any l[k].d.p l[k].d.n l[k].A l[k].c l[k].d.ps.length l[k].d.ps rfl (by have := hsz.props l[k] (List.getElem_mem hkl); omega) (hpl.short l[k].d (List.mem_map_of_mem (List.getElem_mem hkl))) W B (Nat.le_trans hB hW.size) (hq.below (hW.mono hB))
  have HSP := Lib.hid SP
  generalize l[k].d.p = px at *
  generalize l[k].d.n = nx at *
  generalize l[k].d.ps = qx at *
  generalize l[k].A = ax at *
  generalize l[k].c = cx at *
  clear NO hn hsz hs SP hpl hps h0 hq
  go_enter Try.func21, Try.ntmps21
  go_wp2_with (first
    | (go_at_call 28; refine HNO.out.mono ?_; rintro e w1 ⟨rfl, hb1⟩
       have HB1 := Lib.hid hb1
       have z0 := (hb1.cell (p := ⟨b, off + k * 3, none⟩) hbw).trans x0
       have z1 := (hb1.cell (p := ⟨b, off + k * 3 + 1, none⟩) hbw).trans x1
       have z2 := (hb1.cell (p := ⟨b, off + k * 3 + 2, none⟩) hbw).trans x2
       clear hb1)
    | (go_at_call 48; refine (HSP.out _ HB1.out).mono ?_; rintro e w2 ⟨rfl, hb2⟩
       have HB2 := Lib.hid (below_next HB1.out hb2)
       clear hb2)
    | fail)
  go_ret3
  exact ⟨rfl, HB2.out⟩
set_option maxRecDepth 100000 in
set_option maxHeartbeats 16000000 in
theorem rcells_any (A : Option Addr) (cap n : Nat) (l : List Nm) (hn : n = l.length) (hsz : Sized l) (i : Int) (w : World) (B : Nat) (hB : B ≤ w.heap.size) (hs : Nodes w B A l) :
    Calls Try.prog 37 #[.slice A n cap, .int .i64 i] w fun e w' => e = .returned (.tuple #[.int .i64 ((cellsE (dat l) i).1 : Nat), .int .i64 ((cellsE (dat l) i).2.1 : Nat), .int .i64 (cellsE (dat l) i).2.2]) ∧ Below w.heap.size w w' := by
  have NO := wrong_true A cap n l hn hsz i w B hB hs
  unfold cellsE
  by_cases h0 : wrongF (dat l) i 0 = 0
  case neg =>
    obtain ⟨x, hx⟩ : ∃ x, x = wrongF (dat l) i 0 := ⟨_, rfl⟩
    rw [← hx] at NO h0 ⊢
    rw [if_pos h0]
    have HNO := Lib.hid NO
    have d1 : (x == 0) = false := by rw [beq_eq_false_iff_ne]; exact h0
    clear NO hx hn hsz hs
    go_enter Try.func37, Try.ntmps37
    go_wp2_with (first
      | (go_at_call 54; refine HNO.out.mono ?_; rintro e w1 ⟨rfl, hb1⟩
         have HB1 := Lib.hid (hb1)
         clear hb1)
      | fail)
    go_ret3
    exact ⟨rfl, HB1.out⟩
  rw [if_neg (fun h => h h0)]
  obtain ⟨k, rfl, _, hpl⟩ := place hn h0 (by omega)
  rw [h0] at NO
  have HNO := Lib.hid NO
  have hkl : k < l.length := by rw [← hn]; exact hpl.lt
  have hki : (k : Int) < (n : Int) := by have := hpl.lt; omega
  have hnb := hpl.len
  have hps : psAt (dat l) (k : Int).toNat = l[k].d.ps := ps_get l hkl
  rw [hps]
  obtain ⟨b, off, rfl, hbB, x0, x1, x2, hq⟩ := hs.at_ hkl
  have hbw : b < w.heap.size := by omega
  have SP := fun W (hW : Below w.heap.size w W) => cells_any l[k].d.p l[k].d.n l[k].A l[k].c l[k].d.ps.length l[k].d.ps rfl (by have := hsz.props l[k] (List.getElem_mem hkl); omega) W B (Nat.le_trans hB hW.size) (hq.below (hW.mono hB))
  have HSP := Lib.hid SP
  generalize l[k].d.p = px at *
  generalize l[k].d.n = nx at *
  generalize l[k].d.ps = qx at *
  generalize l[k].A = ax at *
  generalize l[k].c = cx at *
  clear NO hn hsz hs SP hpl hps h0 hq
  go_enter Try.func37, Try.ntmps37
  go_wp2_with (first
    | (go_at_call 54; refine HNO.out.mono ?_; rintro e w1 ⟨rfl, hb1⟩
       have HB1 := Lib.hid hb1
       have z0 := (hb1.cell (p := ⟨b, off + k * 3, none⟩) hbw).trans x0
       have z1 := (hb1.cell (p := ⟨b, off + k * 3 + 1, none⟩) hbw).trans x1
       have z2 := (hb1.cell (p := ⟨b, off + k * 3 + 2, none⟩) hbw).trans x2
       clear hb1)
    | (go_at_call 55; refine (HSP.out _ HB1.out).mono ?_; rintro e w2 ⟨rfl, hb2⟩
       have HB2 := Lib.hid (below_next HB1.out hb2)
       clear hb2)
    | fail)
  go_ret3
  exact ⟨rfl, HB2.out⟩
set_option maxRecDepth 100000 in
set_option maxHeartbeats 16000000 in
theorem preg2_any (A : Option Addr) (cap n : Nat) (l : List Nm) (hn : n = l.length) (hsz : Sized l) (i : Int) (w : World) (B : Nat) (hB : B ≤ w.heap.size) (hs : Nodes w B A l) :
    Calls Try.prog 22 #[.slice A n cap, .int .i64 i] w fun e w' => WinR 31 (regE (dat l) i) w.heap.size e w' ∧ Below w.heap.size w w' := by
  have NO := node_any A cap n l hn hsz i 1 w B hB hs
  unfold regE
  by_cases h0 : wrongF (dat l) i 1 = 0
  case neg =>
    obtain ⟨x, hx⟩ : ∃ x, x = wrongF (dat l) i 1 := ⟨_, rfl⟩
    rw [← hx] at NO h0 ⊢
    rw [if_pos h0]
    have HNO := Lib.hid NO
    have d1 : (x == 0) = false := by rw [beq_eq_false_iff_ne]; exact h0
    clear NO hx hn hsz hs
    go_enter Try.func22, Try.ntmps22
    go_wp2_with (first
      | (go_at_call 28; refine HNO.out.mono ?_; rintro e w1 ⟨rfl, hb1⟩
         have HB1 := Lib.hid (hb1)
         clear hb1)
      | fail)
    go_ret2
    exact ⟨winR_no x _ _, HB1.out⟩
  rw [if_neg (fun h => h h0)]
  obtain ⟨k, rfl, hk1, hpl⟩ := place hn h0 (by omega)
  rw [h0] at NO
  have HNO := Lib.hid NO
  have hk0 : 0 < k := by omega
  have hup := hpl.ups k hk0 (by rw [dat_len, ← hn]; exact hpl.lt)
  have hlt := hpl.lt
  have hlen := hpl.len
  show Calls Try.prog 22 _ _ fun e w' => WinR 31 (regX (regF (dat l) k)) _ e w' ∧ _
  have IN : ∀ W, Below w.heap.size w W → Calls Try.prog 49 #[.slice A n cap, .int .i64 (k : Nat)] W fun e w' => WinR 31 (regX (regF (dat l) k)) W.heap.size e w' ∧ Below W.heap.size W w' := fun W hW => (reg_any A cap n l hn hsz hpl.short k hlt hup.1 (by omega) W B (Nat.le_trans hB hW.size) (hs.below (hW.mono hB))).mono fun e w' h => ⟨regR_x h.1, h.2⟩
  generalize regX (regF (dat l) k) = X at *
  have HIN := Lib.hid IN
  clear NO hn hsz hs IN hpl h0 hup hk1
  go_enter Try.func22, Try.ntmps22
  go_wp2_with (first
    | (go_at_call 28; refine HNO.out.mono ?_; rintro e w1 ⟨rfl, hb1⟩
       have HB1 := Lib.hid hb1
       clear hb1)
    | (go_at_call 49; refine (HIN.out _ HB1.out).mono ?_; rintro e w2 ⟨⟨A2, c2, rfl, hown⟩, hb2⟩
       have HB2 := Lib.hid (below_next HB1.out hb2)
       have HO := Lib.hid (own_base hown HB1.out.size)
       clear hb2 hown)
    | fail)
  go_ret2
  exact ⟨⟨A2, c2, rfl, HO.out⟩, HB2.out⟩
set_option maxRecDepth 100000 in
set_option maxHeartbeats 16000000 in
theorem rreg2_any (A : Option Addr) (cap n : Nat) (l : List Nm) (hn : n = l.length) (hsz : Sized l) (i : Int) (w : World) (B : Nat) (hB : B ≤ w.heap.size) (hs : Nodes w B A l) :
    Calls Try.prog 38 #[.slice A n cap, .int .i64 i] w fun e w' => WinR 37 (regE (dat l) i) w.heap.size e w' ∧ Below w.heap.size w w' := by
  have NO := wrong_false A cap n l hn hsz i w B hB hs
  unfold regE
  by_cases h0 : wrongF (dat l) i 1 = 0
  case neg =>
    obtain ⟨x, hx⟩ : ∃ x, x = wrongF (dat l) i 1 := ⟨_, rfl⟩
    rw [← hx] at NO h0 ⊢
    rw [if_pos h0]
    have HNO := Lib.hid NO
    have d1 : (x == 0) = false := by rw [beq_eq_false_iff_ne]; exact h0
    clear NO hx hn hsz hs
    go_enter Try.func38, Try.ntmps38
    go_wp2_with (first
      | (go_at_call 54; refine HNO.out.mono ?_; rintro e w1 ⟨rfl, hb1⟩
         have HB1 := Lib.hid (hb1)
         clear hb1)
      | fail)
    go_ret2
    exact ⟨winR_no x _ _, HB1.out⟩
  rw [if_neg (fun h => h h0)]
  obtain ⟨k, rfl, hk1, hpl⟩ := place hn h0 (by omega)
  rw [h0] at NO
  have HNO := Lib.hid NO
  have hk0 : 0 < k := by omega
  have hup := hpl.ups k hk0 (by rw [dat_len, ← hn]; exact hpl.lt)
  have hlt := hpl.lt
  have hlen := hpl.len
  show Calls Try.prog 38 _ _ fun e w' => WinR 37 (regX (regF (dat l) k)) _ e w' ∧ _
  have IN : ∀ W, Below w.heap.size w W → Calls Try.prog 56 #[.slice A n cap, .int .i64 (k : Nat)] W fun e w' => WinR 37 (regX (regF (dat l) k)) W.heap.size e w' ∧ Below W.heap.size W w' := fun W hW => (rreg_any A cap n l hn hsz hpl.short k hlt hup.1 (by omega) W B (Nat.le_trans hB hW.size) (hs.below (hW.mono hB))).mono fun e w' h => ⟨regT_x h.1, h.2⟩
  generalize regX (regF (dat l) k) = X at *
  have HIN := Lib.hid IN
  clear NO hn hsz hs IN hpl h0 hup hk1
  go_enter Try.func38, Try.ntmps38
  go_wp2_with (first
    | (go_at_call 54; refine HNO.out.mono ?_; rintro e w1 ⟨rfl, hb1⟩
       have HB1 := Lib.hid hb1
       clear hb1)
    | (go_at_call 56; refine (HIN.out _ HB1.out).mono ?_; rintro e w2 ⟨⟨A2, c2, rfl, hown⟩, hb2⟩
       have HB2 := Lib.hid (below_next HB1.out hb2)
       have HO := Lib.hid (own_base hown HB1.out.size)
       clear hb2 hown)
    | fail)
  go_ret2
  exact ⟨⟨A2, c2, rfl, HO.out⟩, HB2.out⟩
set_option maxRecDepth 100000 in
set_option maxHeartbeats 16000000 in
theorem pmaps_any (A : Option Addr) (cap n : Nat) (l : List Nm) (hn : n = l.length) (hsz : Sized l) (i : Int) (w : World) (B : Nat) (hB : B ≤ w.heap.size) (hs : Nodes w B A l) :
    Calls Try.prog 23 #[.slice A n cap, .int .i64 i] w fun e w' => MapsR 79 (mapsE (dat l) i) w.heap.size e w' ∧ Below w.heap.size w w' := by
  have NO := node_any A cap n l hn hsz i 1 w B hB hs
  unfold mapsE
  by_cases h0 : wrongF (dat l) i 1 = 0
  case neg =>
    obtain ⟨x, hx⟩ : ∃ x, x = wrongF (dat l) i 1 := ⟨_, rfl⟩
    rw [← hx] at NO h0 ⊢
    rw [if_pos h0]
    have HNO := Lib.hid NO
    have d1 : (x == 0) = false := by rw [beq_eq_false_iff_ne]; exact h0
    clear NO hx hn hsz hs
    go_enter Try.func23, Try.ntmps23
    go_wp2_with (first
      | (go_at_call 28; refine HNO.out.mono ?_; rintro e w1 ⟨rfl, hb1⟩
         have HB1 := Lib.hid (hb1)
         clear hb1)
      | fail)
    go_ret3
    exact ⟨mapsR_no x _ _, HB1.out⟩
  rw [if_neg (fun h => h h0)]
  obtain ⟨k, rfl, hk1, hpl⟩ := place hn h0 (by omega)
  rw [h0] at NO
  have HNO := Lib.hid NO
  have hk0 : 0 < k := by omega
  have hup := hpl.ups k hk0 (by rw [dat_len, ← hn]; exact hpl.lt)
  have hlt := hpl.lt
  have hlen := hpl.len
  show Calls Try.prog 23 _ _ fun e w' => MapsR 79 (mapsF (dat l) k) _ e w' ∧ _
  have IN : ∀ W, Below w.heap.size w W → Calls Try.prog 50 #[.slice A n cap, .int .i64 (k : Nat)] W fun e w' => MapsR 79 (mapsF (dat l) k) W.heap.size e w' ∧ Below W.heap.size W w' := fun W hW => maps_any A cap n l hn hsz hpl.short k hlt hup.1 (by omega) W B (Nat.le_trans hB hW.size) (hs.below (hW.mono hB))
  generalize mapsF (dat l) k = X at *
  have HIN := Lib.hid IN
  clear NO hn hsz hs IN hpl h0 hup hk1
  go_enter Try.func23, Try.ntmps23
  go_wp2_with (first
    | (go_at_call 28; refine HNO.out.mono ?_; rintro e w1 ⟨rfl, hb1⟩
       have HB1 := Lib.hid hb1
       clear hb1)
    | (go_at_call 50; refine (HIN.out _ HB1.out).mono ?_; rintro e w2 ⟨⟨A2, c2, rfl, hown⟩, hb2⟩
       have HB2 := Lib.hid (below_next HB1.out hb2)
       have HO := Lib.hid (own_base hown HB1.out.size)
       clear hb2 hown)
    | fail)
  go_ret3
  exact ⟨⟨A2, c2, rfl, HO.out⟩, HB2.out⟩
set_option maxRecDepth 100000 in
set_option maxHeartbeats 16000000 in
theorem rmaps2_any (A : Option Addr) (cap n : Nat) (l : List Nm) (hn : n = l.length) (hsz : Sized l) (i : Int) (w : World) (B : Nat) (hB : B ≤ w.heap.size) (hs : Nodes w B A l) :
    Calls Try.prog 40 #[.slice A n cap, .int .i64 i] w fun e w' => MapsR 84 (mapsE (dat l) i) w.heap.size e w' ∧ Below w.heap.size w w' := by
  have NO := wrong_false A cap n l hn hsz i w B hB hs
  unfold mapsE
  by_cases h0 : wrongF (dat l) i 1 = 0
  case neg =>
    obtain ⟨x, hx⟩ : ∃ x, x = wrongF (dat l) i 1 := ⟨_, rfl⟩
    rw [← hx] at NO h0 ⊢
    rw [if_pos h0]
    have HNO := Lib.hid NO
    have d1 : (x == 0) = false := by rw [beq_eq_false_iff_ne]; exact h0
    clear NO hx hn hsz hs
    go_enter Try.func40, Try.ntmps40
    go_wp2_with (first
      | (go_at_call 54; refine HNO.out.mono ?_; rintro e w1 ⟨rfl, hb1⟩
         have HB1 := Lib.hid (hb1)
         clear hb1)
      | fail)
    go_ret3
    exact ⟨mapsR_no x _ _, HB1.out⟩
  rw [if_neg (fun h => h h0)]
  obtain ⟨k, rfl, hk1, hpl⟩ := place hn h0 (by omega)
  rw [h0] at NO
  have HNO := Lib.hid NO
  have hk0 : 0 < k := by omega
  have hup := hpl.ups k hk0 (by rw [dat_len, ← hn]; exact hpl.lt)
  have hlt := hpl.lt
  have hlen := hpl.len
  show Calls Try.prog 40 _ _ fun e w' => MapsR 84 (mapsF (dat l) k) _ e w' ∧ _
  have IN : ∀ W, Below w.heap.size w W → Calls Try.prog 52 #[.slice A n cap, .int .i64 (k : Nat)] W fun e w' => MapsR 84 (mapsF (dat l) k) W.heap.size e w' ∧ Below W.heap.size W w' := fun W hW => rmaps_any A cap n l hn hsz hpl.short k hlt hup.1 (by omega) W B (Nat.le_trans hB hW.size) (hs.below (hW.mono hB))
  generalize mapsF (dat l) k = X at *
  have HIN := Lib.hid IN
  clear NO hn hsz hs IN hpl h0 hup hk1
  go_enter Try.func40, Try.ntmps40
  go_wp2_with (first
    | (go_at_call 54; refine HNO.out.mono ?_; rintro e w1 ⟨rfl, hb1⟩
       have HB1 := Lib.hid hb1
       clear hb1)
    | (go_at_call 52; refine (HIN.out _ HB1.out).mono ?_; rintro e w2 ⟨⟨A2, c2, rfl, hown⟩, hb2⟩
       have HB2 := Lib.hid (below_next HB1.out hb2)
       have HO := Lib.hid (own_base hown HB1.out.size)
       clear hb2 hown)
    | fail)
  go_ret3
  exact ⟨⟨A2, c2, rfl, HO.out⟩, HB2.out⟩
set_option maxRecDepth 100000 in
set_option maxHeartbeats 16000000 in
theorem pwindows_any (A : Option Addr) (cap n : Nat) (l : List Nm) (hn : n = l.length) (hsz : Sized l) (i : Int) (w : World) (B : Nat) (hB : B ≤ w.heap.size) (hs : Nodes w B A l) :
    Calls Try.prog 15 #[.slice A n cap, .int .i64 i] w fun e w' => WinR 31 (winE (dat l) i) w.heap.size e w' ∧ Below w.heap.size w w' := by
  have NO := node_any A cap n l hn hsz i 1 w B hB hs
  unfold winE
  by_cases h0 : wrongF (dat l) i 1 = 0
  case neg =>
    obtain ⟨x, hx⟩ : ∃ x, x = wrongF (dat l) i 1 := ⟨_, rfl⟩
    rw [← hx] at NO h0 ⊢
    rw [if_pos h0]
    have HNO := Lib.hid NO
    have d1 : (x == 0) = false := by rw [beq_eq_false_iff_ne]; exact h0
    clear NO hx hn hsz hs
    go_enter Try.func15, Try.ntmps15
    go_wp2_with (first
      | (go_at_call 28; refine HNO.out.mono ?_; rintro e w1 ⟨rfl, hb1⟩
         have HB1 := Lib.hid (hb1)
         clear hb1)
      | fail)
    go_ret2
    exact ⟨winR_no x _ _, HB1.out⟩
  rw [if_neg (fun h => h h0)]
  obtain ⟨k, rfl, hk1, hpl⟩ := place hn h0 (by omega)
  rw [h0] at NO
  have HNO := Lib.hid NO
  have hk0 : 0 < k := by omega
  have hup := hpl.ups k hk0 (by rw [dat_len, ← hn]; exact hpl.lt)
  have hlt := hpl.lt
  have hlen := hpl.len
  show Calls Try.prog 15 _ _ fun e w' => WinR 31 (windowsF (dat l) k) _ e w' ∧ _
  have IN : ∀ W, Below w.heap.size w W → Calls Try.prog 34 #[.slice A n cap, .int .i64 (k : Nat)] W fun e w' => WinR 31 (windowsF (dat l) k) W.heap.size e w' ∧ Below W.heap.size W w' := fun W hW => windows_any A cap n l hn (by omega) hsz hpl.short hpl.ups k hk0 hlt W B (Nat.le_trans hB hW.size) (hs.below (hW.mono hB))
  generalize windowsF (dat l) k = X at *
  have HIN := Lib.hid IN
  clear NO hn hsz hs IN hpl h0 hup hk1
  go_enter Try.func15, Try.ntmps15
  go_wp2_with (first
    | (go_at_call 28; refine HNO.out.mono ?_; rintro e w1 ⟨rfl, hb1⟩
       have HB1 := Lib.hid hb1
       clear hb1)
    | (go_at_call 34; refine (HIN.out _ HB1.out).mono ?_; rintro e w2 ⟨⟨A2, c2, rfl, hown⟩, hb2⟩
       have HB2 := Lib.hid (below_next HB1.out hb2)
       have HO := Lib.hid (own_base hown HB1.out.size)
       clear hb2 hown)
    | fail)
  go_ret2
  exact ⟨⟨A2, c2, rfl, HO.out⟩, HB2.out⟩
set_option maxRecDepth 100000 in
set_option maxHeartbeats 16000000 in
theorem rwindows2_any (A : Option Addr) (cap n : Nat) (l : List Nm) (hn : n = l.length) (hsz : Sized l) (i : Int) (w : World) (B : Nat) (hB : B ≤ w.heap.size) (hs : Nodes w B A l) :
    Calls Try.prog 41 #[.slice A n cap, .int .i64 i] w fun e w' => WinR 37 (winE (dat l) i) w.heap.size e w' ∧ Below w.heap.size w w' := by
  have NO := wrong_false A cap n l hn hsz i w B hB hs
  unfold winE
  by_cases h0 : wrongF (dat l) i 1 = 0
  case neg =>
    obtain ⟨x, hx⟩ : ∃ x, x = wrongF (dat l) i 1 := ⟨_, rfl⟩
    rw [← hx] at NO h0 ⊢
    rw [if_pos h0]
    have HNO := Lib.hid NO
    have d1 : (x == 0) = false := by rw [beq_eq_false_iff_ne]; exact h0
    clear NO hx hn hsz hs
    go_enter Try.func41, Try.ntmps41
    go_wp2_with (first
      | (go_at_call 54; refine HNO.out.mono ?_; rintro e w1 ⟨rfl, hb1⟩
         have HB1 := Lib.hid (hb1)
         clear hb1)
      | fail)
    go_ret2
    exact ⟨winR_no x _ _, HB1.out⟩
  rw [if_neg (fun h => h h0)]
  obtain ⟨k, rfl, hk1, hpl⟩ := place hn h0 (by omega)
  rw [h0] at NO
  have HNO := Lib.hid NO
  have hk0 : 0 < k := by omega
  have hup := hpl.ups k hk0 (by rw [dat_len, ← hn]; exact hpl.lt)
  have hlt := hpl.lt
  have hlen := hpl.len
  show Calls Try.prog 41 _ _ fun e w' => WinR 37 (windowsF (dat l) k) _ e w' ∧ _
  have IN : ∀ W, Below w.heap.size w W → Calls Try.prog 46 #[.slice A n cap, .int .i64 (k : Nat)] W fun e w' => WinR 37 (windowsF (dat l) k) W.heap.size e w' ∧ Below W.heap.size W w' := fun W hW => rwindows_any A cap n l hn (by omega) hsz hpl.short hpl.ups k hk0 hlt W B (Nat.le_trans hB hW.size) (hs.below (hW.mono hB))
  generalize windowsF (dat l) k = X at *
  have HIN := Lib.hid IN
  clear NO hn hsz hs IN hpl h0 hup hk1
  go_enter Try.func41, Try.ntmps41
  go_wp2_with (first
    | (go_at_call 54; refine HNO.out.mono ?_; rintro e w1 ⟨rfl, hb1⟩
       have HB1 := Lib.hid hb1
       clear hb1)
    | (go_at_call 46; refine (HIN.out _ HB1.out).mono ?_; rintro e w2 ⟨⟨A2, c2, rfl, hown⟩, hb2⟩
       have HB2 := Lib.hid (below_next HB1.out hb2)
       have HO := Lib.hid (own_base hown HB1.out.size)
       clear hb2 hown)
    | fail)
  go_ret2
  exact ⟨⟨A2, c2, rfl, HO.out⟩, HB2.out⟩
end Go.Proofs.Ytndocngkganpdaa

set_option linter.unusedVariables false
namespace Go.Proofs.Ytndocngkganpdaa
open Go.RowKit
theorem below_cells {B b : Nat} {a : World} (hb : B ≤ b) : ∀ (vs : List Value) (o : Nat) (w : World), Below B a w → Below B a (w.setCells b o vs)
  | [], _, _, h => h
  | v :: r, o, w, h => below_cells hb r (o + 1) _ (h.setCell hb v)
theorem size_cells (b : Nat) : ∀ (vs : List Value) (o : Nat) (w : World), w.heap.size ≤ (w.setCells b o vs).heap.size
  | [], _, _ => Nat.le_refl _
  | v :: r, o, w => Nat.le_trans (by simp [World.setCell]) (size_cells b r (o + 1) _)
/-- slices.Reverse over a row of the call's own. -/
theorem rev_own (base : Nat) (A : Option Addr) (c : Nat) (W : List Nat) (w : World) (hb : base ≤ w.heap.size) (h : w.ownsRow base 3 1 (.slice A W.length c) W.length (nats W)) :
    Calls Try.prog 33 #[.slice A W.length c] w fun e w' => e = .returned (.tuple #[]) ∧ Seg w' w'.heap.size A (nats W.reverse) ∧ Below base w w' := by
  rcases Nat.eq_zero_or_pos W.length with h0 | h0
  · obtain rfl : W = [] := List.eq_nil_of_length_eq_zero h0
    exact (Try.slices_Reverse_int_empty A c w).mono fun e w' hh => ⟨hh.1, Seg.nil, by rw [hh.2]; exact Below.refl _ _⟩
  · obtain ⟨g, rfl, hg1, hg2, hr⟩ := RowAt.of_own h h0
    have hlen : (nats W).length = W.length := by unfold nats i64s; simp
    have hbig : W.length ≤ 9223372036854775807 := by
      rcases h.2 with ⟨_, h⟩ | ⟨g, cap, cur, hv, h1, h2, h3, h4, _⟩
      · omega
      · unfold maxLen at h4; omega
    have hcell : ∀ j, j < (W.map Int.ofNat).length → w.cell? ⟨g, 0 + j, none⟩ = some (.int .i64 ((W.map Int.ofNat).getD j 0)) := fun j hj => by
      rw [Nat.zero_add, hr.cell (by rw [hlen]; simpa using hj)]
      unfold nats i64s
      rw [List.getElem?_map, List.getElem?_eq_getElem hj]
      simp [List.getD, List.getElem?_eq_getElem hj]
    refine (Try.slices_Reverse_int_cells g 0 W.length c (W.map Int.ofNat) w (by simp) hbig hcell (fun j _ => hr.frozen _)).mono fun e w' hh => ?_
    obtain ⟨rfl, q, rfl⟩ := hh
    have hl2 : ((W.map Int.ofNat).take W.length).reverse.map (Value.int .i64) = nats W.reverse := by
      rw [List.take_of_length_le (by simp), ← List.map_reverse]; rfl
    rw [hl2]
    have hl3 : (nats W.reverse).length = W.length := by unfold nats i64s; simp
    refine ⟨rfl, fun _ => ⟨g, 0, rfl, ?_, fun j u hu => ?_⟩, below_cells hg1 _ _ _ (below_drewN (Below.refl _ _) q)⟩
    · exact Nat.lt_of_lt_of_le hg2 (size_cells g (nats W.reverse) 0 (w.drewN q))
    · have hj : j < (nats W.reverse).length := (List.getElem?_eq_some_iff.1 hu).1
      rw [World.cell?_setCells_in g (nats W.reverse) 0 (w.drewN q) (fun j hj => by
        have := hcell j (by simp; omega)
        have h2 : (w.drewN q).cell? ⟨g, 0 + j, none⟩ = some _ := this
        rw [h2]; rfl) j hj]
      rw [← hu, List.getElem?_eq_getElem hj]
set_option maxRecDepth 100000 in
set_option maxHeartbeats 16000000 in
theorem pup_any (A : Option Addr) (cap n : Nat) (l : List Nm) (hn : n = l.length) (hsz : Sized l) (i : Int) (b s : Nat) (hb64 : b < 18446744073709551616) (hs64 : s < 18446744073709551616) (w : World) (B : Nat) (hB : B ≤ w.heap.size) (hs : Nodes w B A l) :
    Calls Try.prog 14 #[.slice A n cap, .int .i64 i, .agg #[.int .u64 (b : Nat), .int .u64 (s : Nat)]] w fun e w' => e = .returned (.tuple #[.int .u64 ((upE (dat l) i b s).1 : Nat), .int .i64 (upE (dat l) i b s).2]) ∧ Below w.heap.size w w' := by
  have hb0 : Below w.heap.size w (w.alloc (.cells #[.int .u64 (b : Int), .int .u64 (s : Int)] 31)) := (Below.refl _ w).alloc (Nat.le_refl _) _
  have HR0 := Lib.hid (rowAt_box w 31 [.int .u64 (b : Int), .int .u64 (s : Int)])
  have HB0 := Lib.hid hb0
  have NO := node_any A cap n l hn hsz i 1 (w.alloc (.cells #[.int .u64 (b : Int), .int .u64 (s : Int)] 31)) B (Nat.le_trans hB hb0.size) (hs.below (hb0.mono hB))
  unfold upE
  by_cases h0 : wrongF (dat l) i 1 = 0
  case neg =>
    obtain ⟨x, hx⟩ : ∃ x, x = wrongF (dat l) i 1 := ⟨_, rfl⟩
    rw [← hx] at NO h0 ⊢
    rw [if_pos h0]
    have HNO := Lib.hid NO
    have d1 : (x == 0) = false := by rw [beq_eq_false_iff_ne]; exact h0
    clear NO hx hn hsz hs
    go_enter Try.func14, Try.ntmps14
    go_wp2_with (first
      | (go_at_call 28; refine HNO.out.mono ?_; rintro e w1 ⟨rfl, hb1⟩
         have HB1 := Lib.hid (HB0.out.trans (hb1.mono HB0.out.size))
         clear hb1)
      | fail)
    go_ret2
    exact ⟨rfl, HB1.out⟩
  rw [if_neg (fun h => h h0)]
  obtain ⟨k, rfl, hk1, hpl⟩ := place hn h0 (by omega)
  rw [h0] at NO
  have HNO := Lib.hid NO
  have hlt := hpl.lt
  have hlen := hpl.len
  show Calls Try.prog 14 _ _ fun e w' => e = .returned (.tuple #[.int .u64 ((if fitsB b s = true then upF (dat l) k b s else (0, 1)).1 : Nat), .int .i64 (if fitsB b s = true then upF (dat l) k b s else (0, 1)).2]) ∧ _
  have FA0 := fun W => fits_any b s hb64 hs64 W
  have hk0 : 0 < k := by omega
  have hup := hpl.ups k hk0 (by rw [dat_len, ← hn]; exact hpl.lt)
  have hcu := car_up (mapsF (dat l) k) b s
  have IN : ∀ W, Below w.heap.size w W → Calls Try.prog 36 #[.slice A n cap, .int .i64 (k : Nat), .agg #[.int .u64 (b : Nat), .int .u64 (s : Nat)], .bool false] W fun e w' => e = .returned (.tuple #[.int .u64 ((carM (mapsF (dat l) k) b s false).1 : Nat), .int .i64 (carM (mapsF (dat l) k) b s false).2]) ∧ Below W.heap.size W w' := fun W hW => carried_any A cap n l hn hsz hpl.short k hlt hup.1 (by omega) b s hb64 hs64 false W B (Nat.le_trans hB hW.size) (hs.below (hW.mono hB))
  show Calls Try.prog 14 _ _ fun e w' => e = .returned (.tuple #[.int .u64 ((if fitsB b s = true then upM (mapsF (dat l) k) b s else (0, 1)).1 : Nat), .int .i64 (if fitsB b s = true then upM (mapsF (dat l) k) b s else (0, 1)).2]) ∧ _
  generalize upM (mapsF (dat l) k) b s = U at *
  generalize carM (mapsF (dat l) k) b s false = C at *
  clear NO hn hsz hs hpl h0 hup hk1 hb0
  obtain ⟨X, hX⟩ : ∃ X, X = fitsB b s := ⟨_, rfl⟩
  rw [← hX] at FA0 ⊢
  have FA := Lib.hid FA0
  clear hX FA0
  have NOT := HNO.out
  clear NOT
  cases X with
  | false =>
    go_enter Try.func14, Try.ntmps14
    go_wp2_with (first
      | (go_at_call 28; refine HNO.out.mono ?_; rintro e w1 ⟨rfl, hb1⟩
         have HB1 := Lib.hid (HB0.out.trans (hb1.mono HB0.out.size))
         have r1 : RowAt w1 w.heap.size 31 [.int .u64 (b : Int), .int .u64 (s : Int)] := HR0.out.keep (hb1.block _ HR0.out.lt)
         have c0 := r1.cell (k := 0) (by simp)
         have c1 := r1.cell (k := 1) (by simp)
         simp only [List.getElem?_cons_zero, List.getElem?_cons_succ] at c0 c1
         clear hb1 r1)
      | (go_at_call 29; refine (FA.out _).mono ?_; rintro e w' ⟨rfl, rfl⟩)
      | fail)
    go_ret2
    exact ⟨rfl, HB1.out⟩
  | true =>
    have HIN := Lib.hid IN
    clear IN
    obtain ⟨u, ue⟩ := U
    obtain ⟨cb, ce⟩ := C
    obtain ⟨h1, h2, h3⟩ := hcu
    have h1 : ce = ue := h1
    subst h1
    by_cases hce : ce = 0
    · subst hce
      have h2 : cb = u := h2 rfl
      subst h2
      clear h2 h3
      go_enter Try.func14, Try.ntmps14
      go_wp2_with (first
        | (go_at_call 28; refine HNO.out.mono ?_; rintro e w1 ⟨rfl, hb1⟩
           have HB1 := Lib.hid (HB0.out.trans (hb1.mono HB0.out.size))
           have r1 : RowAt w1 w.heap.size 31 [.int .u64 (b : Int), .int .u64 (s : Int)] := HR0.out.keep (hb1.block _ HR0.out.lt)
           have c0 := r1.cell (k := 0) (by simp)
           have c1 := r1.cell (k := 1) (by simp)
           simp only [List.getElem?_cons_zero, List.getElem?_cons_succ] at c0 c1
           clear hb1 r1)
        | (go_at_call 29; refine (FA.out _).mono ?_; rintro e w' ⟨rfl, rfl⟩)
        | (go_at_call 36; refine (HIN.out _ HB1.out).mono ?_; rintro e w2 ⟨rfl, hb2⟩
           have HB2 := Lib.hid (below_next HB1.out hb2)
           clear hb2)
        | fail)
      go_ret2
      exact ⟨rfl, HB2.out⟩
    · have h3 : u = 0 := h3 hce
      subst h3
      have d1 : (ce == 0) = false := by rw [beq_eq_false_iff_ne]; exact hce
      clear h2
      go_enter Try.func14, Try.ntmps14
      go_wp2_with (first
        | (go_at_call 28; refine HNO.out.mono ?_; rintro e w1 ⟨rfl, hb1⟩
           have HB1 := Lib.hid (HB0.out.trans (hb1.mono HB0.out.size))
           have r1 : RowAt w1 w.heap.size 31 [.int .u64 (b : Int), .int .u64 (s : Int)] := HR0.out.keep (hb1.block _ HR0.out.lt)
           have c0 := r1.cell (k := 0) (by simp)
           have c1 := r1.cell (k := 1) (by simp)
           simp only [List.getElem?_cons_zero, List.getElem?_cons_succ] at c0 c1
           clear hb1 r1)
        | (go_at_call 29; refine (FA.out _).mono ?_; rintro e w' ⟨rfl, rfl⟩)
        | (go_at_call 36; refine (HIN.out _ HB1.out).mono ?_; rintro e w2 ⟨rfl, hb2⟩
           have HB2 := Lib.hid (below_next HB1.out hb2)
           clear hb2)
        | fail)
      go_ret2
      exact ⟨rfl, HB2.out⟩
set_option maxRecDepth 100000 in
set_option maxHeartbeats 16000000 in
theorem rup2_any (A : Option Addr) (cap n : Nat) (l : List Nm) (hn : n = l.length) (hsz : Sized l) (i : Int) (b s : Nat) (hb64 : b < 18446744073709551616) (hs64 : s < 18446744073709551616) (w : World) (B : Nat) (hB : B ≤ w.heap.size) (hs : Nodes w B A l) :
    Calls Try.prog 43 #[.slice A n cap, .int .i64 i, .agg #[.int .u64 (b : Nat), .int .u64 (s : Nat)]] w fun e w' => e = .returned (.tuple #[.int .u64 ((upE (dat l) i b s).1 : Nat), .int .i64 (upE (dat l) i b s).2]) ∧ Below w.heap.size w w' := by
  have hb0 : Below w.heap.size w (w.alloc (.cells #[.int .u64 (b : Int), .int .u64 (s : Int)] 37)) := (Below.refl _ w).alloc (Nat.le_refl _) _
  have HR0 := Lib.hid (rowAt_box w 37 [.int .u64 (b : Int), .int .u64 (s : Int)])
  have HB0 := Lib.hid hb0
  have NO := wrong_false A cap n l hn hsz i (w.alloc (.cells #[.int .u64 (b : Int), .int .u64 (s : Int)] 37)) B (Nat.le_trans hB hb0.size) (hs.below (hb0.mono hB))
  unfold upE
  by_cases h0 : wrongF (dat l) i 1 = 0
  case neg =>
    obtain ⟨x, hx⟩ : ∃ x, x = wrongF (dat l) i 1 := ⟨_, rfl⟩
    rw [← hx] at NO h0 ⊢
    rw [if_pos h0]
    have HNO := Lib.hid NO
    have d1 : (x == 0) = false := by rw [beq_eq_false_iff_ne]; exact h0
    clear NO hx hn hsz hs
    go_enter Try.func43, Try.ntmps43
    go_wp2_with (first
      | (go_at_call 54; refine HNO.out.mono ?_; rintro e w1 ⟨rfl, hb1⟩
         have HB1 := Lib.hid (HB0.out.trans (hb1.mono HB0.out.size))
         clear hb1)
      | fail)
    go_ret2
    exact ⟨rfl, HB1.out⟩
  rw [if_neg (fun h => h h0)]
  obtain ⟨k, rfl, hk1, hpl⟩ := place hn h0 (by omega)
  rw [h0] at NO
  have HNO := Lib.hid NO
  have hlt := hpl.lt
  have hlen := hpl.len
  show Calls Try.prog 43 _ _ fun e w' => e = .returned (.tuple #[.int .u64 ((if fitsB b s = true then upF (dat l) k b s else (0, 1)).1 : Nat), .int .i64 (if fitsB b s = true then upF (dat l) k b s else (0, 1)).2]) ∧ _
  have FA0 := fun W => rfits_any b s hb64 hs64 W
  have hk0 : 0 < k := by omega
  have hup := hpl.ups k hk0 (by rw [dat_len, ← hn]; exact hpl.lt)
  have IN : ∀ W, Below w.heap.size w W → Calls Try.prog 58 #[.slice A n cap, .int .i64 (k : Nat), .agg #[.int .u64 (b : Nat), .int .u64 (s : Nat)]] W fun e w' => e = .returned (.tuple #[.int .u64 ((upF (dat l) k b s).1 : Nat), .int .i64 (upF (dat l) k b s).2]) ∧ Below W.heap.size W w' := fun W hW => rup_any A cap n l hn hsz hpl.short k hlt hup.1 (by omega) b s hb64 hs64 W B (Nat.le_trans hB hW.size) (hs.below (hW.mono hB))
  generalize upF (dat l) k b s = U at *
  clear NO hn hsz hs hpl h0 hup hk1 hb0
  obtain ⟨X, hX⟩ : ∃ X, X = fitsB b s := ⟨_, rfl⟩
  rw [← hX] at FA0 ⊢
  have FA := Lib.hid FA0
  clear hX FA0
  have NOT := HNO.out
  clear NOT
  cases X with
  | false =>
    go_enter Try.func43, Try.ntmps43
    go_wp2_with (first
      | (go_at_call 54; refine HNO.out.mono ?_; rintro e w1 ⟨rfl, hb1⟩
         have HB1 := Lib.hid (HB0.out.trans (hb1.mono HB0.out.size))
         have r1 : RowAt w1 w.heap.size 37 [.int .u64 (b : Int), .int .u64 (s : Int)] := HR0.out.keep (hb1.block _ HR0.out.lt)
         have c0 := r1.cell (k := 0) (by simp)
         have c1 := r1.cell (k := 1) (by simp)
         simp only [List.getElem?_cons_zero, List.getElem?_cons_succ] at c0 c1
         clear hb1 r1)
      | (go_at_call 57; refine (FA.out _).mono ?_; rintro e w' ⟨rfl, rfl⟩)
      | fail)
    go_ret2
    exact ⟨rfl, HB1.out⟩
  | true =>
    have HIN := Lib.hid IN
    clear IN
    go_enter Try.func43, Try.ntmps43
    go_wp2_with (first
      | (go_at_call 54; refine HNO.out.mono ?_; rintro e w1 ⟨rfl, hb1⟩
         have HB1 := Lib.hid (HB0.out.trans (hb1.mono HB0.out.size))
         have r1 : RowAt w1 w.heap.size 37 [.int .u64 (b : Int), .int .u64 (s : Int)] := HR0.out.keep (hb1.block _ HR0.out.lt)
         have c0 := r1.cell (k := 0) (by simp)
         have c1 := r1.cell (k := 1) (by simp)
         simp only [List.getElem?_cons_zero, List.getElem?_cons_succ] at c0 c1
         clear hb1 r1)
      | (go_at_call 57; refine (FA.out _).mono ?_; rintro e w' ⟨rfl, rfl⟩)
      | (go_at_call 58; refine (HIN.out _ HB1.out).mono ?_; rintro e w2 ⟨rfl, hb2⟩
         have HB2 := Lib.hid (below_next HB1.out hb2)
         clear hb2)
      | fail)
    go_ret2
    exact ⟨rfl, HB2.out⟩
set_option maxRecDepth 100000 in
set_option maxHeartbeats 16000000 in
theorem pout_any (A : Option Addr) (cap n : Nat) (l : List Nm) (hn : n = l.length) (hsz : Sized l) (i : Int) (b s : Nat) (hb64 : b < 18446744073709551616) (hs64 : s < 18446744073709551616) (w : World) (B : Nat) (hB : B ≤ w.heap.size) (hs : Nodes w B A l) :
    Calls Try.prog 8 #[.slice A n cap, .int .i64 i, .agg #[.int .u64 (b : Nat), .int .u64 (s : Nat)]] w fun e w' => e = .returned (.tuple #[.int .u64 ((outE (dat l) i b s).1 : Nat), .int .i64 (outE (dat l) i b s).2]) ∧ Below w.heap.size w w' := by
  have hb0 : Below w.heap.size w (w.alloc (.cells #[.int .u64 (b : Int), .int .u64 (s : Int)] 31)) := (Below.refl _ w).alloc (Nat.le_refl _) _
  have HR0 := Lib.hid (rowAt_box w 31 [.int .u64 (b : Int), .int .u64 (s : Int)])
  have HB0 := Lib.hid hb0
  have NO := node_any A cap n l hn hsz i 0 (w.alloc (.cells #[.int .u64 (b : Int), .int .u64 (s : Int)] 31)) B (Nat.le_trans hB hb0.size) (hs.below (hb0.mono hB))
  unfold outE
  by_cases h0 : wrongF (dat l) i 0 = 0
  case neg =>
    obtain ⟨x, hx⟩ : ∃ x, x = wrongF (dat l) i 0 := ⟨_, rfl⟩
    rw [← hx] at NO h0 ⊢
    rw [if_pos h0]
    have HNO := Lib.hid NO
    have d1 : (x == 0) = false := by rw [beq_eq_false_iff_ne]; exact h0
    clear NO hx hn hsz hs
    go_enter Try.func8, Try.ntmps8
    go_wp2_with (first
      | (go_at_call 28; refine HNO.out.mono ?_; rintro e w1 ⟨rfl, hb1⟩
         have HB1 := Lib.hid (HB0.out.trans (hb1.mono HB0.out.size))
         clear hb1)
      | fail)
    go_ret2
    exact ⟨rfl, HB1.out⟩
  rw [if_neg (fun h => h h0)]
  obtain ⟨k, rfl, hk1, hpl⟩ := place hn h0 (by omega)
  rw [h0] at NO
  have HNO := Lib.hid NO
  have hlt := hpl.lt
  have hlen := hpl.len
  show Calls Try.prog 8 _ _ fun e w' => e = .returned (.tuple #[.int .u64 ((if fitsB b s = true then outF (dat l) k b s else (0, 1)).1 : Nat), .int .i64 (if fitsB b s = true then outF (dat l) k b s else (0, 1)).2]) ∧ _
  have FA0 := fun W => fits_any b s hb64 hs64 W
  have WY : ∀ W, Below w.heap.size w W → _ := fun W (hW : Below w.heap.size w W) => way_any A cap n l hn (by omega) hpl.ups k hlt W B (Nat.le_trans hB hW.size) (hs.below (hW.mono hB))
  have hwl := way_len hpl.ups k (by rw [dat_len, ← hn]; exact hlt)
  have hwm := way_mem hpl.ups k (by rw [dat_len, ← hn]; exact hlt)
  have TH : ∀ W, Below w.heap.size w W → ∀ Aw cw, W.ownsRow w.heap.size 3 1 (.slice Aw (wayF (dat l) k).length cw) (wayF (dat l) k).length (nats (wayF (dat l) k)) → Calls Try.prog 30 #[.slice A n cap, .slice Aw (wayF (dat l) k).length cw, .agg #[.int .u64 (b : Nat), .int .u64 (s : Nat)], .bool false] W fun e w' => e = .returned (.tuple #[.int .u64 ((outF (dat l) k b s).1 : Nat), .int .i64 (outF (dat l) k b s).2]) ∧ Below W.heap.size W w' := fun W hW Aw cw ho => by
    have := through_any A cap n l hn hsz hpl.short hpl.ups Aw cw (wayF (dat l) k).length (wayF (dat l) k) rfl (by omega) (fun y hy => by have := hwm y hy; omega) b s hb64 hs64 false W B W.heap.size (Nat.le_trans hB hW.size) (hs.below (hW.mono hB)) (Nat.le_refl _) (own_seg ho)
    rw [thr_out] at this
    exact this
  generalize outF (dat l) k b s = U at *
  generalize hWW : wayF (dat l) k = WW at WY TH hwl hwm
  have HWY := Lib.hid WY
  have HTH := Lib.hid TH
  clear NO hn hsz hs hpl h0 hk1 hb0 hWW hwl hwm WY TH
  obtain ⟨X, hX⟩ : ∃ X, X = fitsB b s := ⟨_, rfl⟩
  rw [← hX] at FA0 ⊢
  have FA := Lib.hid FA0
  clear hX FA0
  have NOT := HNO.out
  clear NOT
  cases X with
  | false =>
    go_enter Try.func8, Try.ntmps8
    go_wp2_with (first
      | (go_at_call 28; refine HNO.out.mono ?_; rintro e w1 ⟨rfl, hb1⟩
         have HB1 := Lib.hid (HB0.out.trans (hb1.mono HB0.out.size))
         have r1 : RowAt w1 w.heap.size 31 [.int .u64 (b : Int), .int .u64 (s : Int)] := HR0.out.keep (hb1.block _ HR0.out.lt)
         have c0 := r1.cell (k := 0) (by simp)
         have c1 := r1.cell (k := 1) (by simp)
         simp only [List.getElem?_cons_zero, List.getElem?_cons_succ] at c0 c1
         clear hb1 r1)
      | (go_at_call 29; refine (FA.out _).mono ?_; rintro e w' ⟨rfl, rfl⟩)
      | fail)
    go_ret2
    exact ⟨rfl, HB1.out⟩
  | true =>
    go_enter Try.func8, Try.ntmps8
    go_wp2_with (first
      | (go_at_call 28; refine HNO.out.mono ?_; rintro e w1 ⟨rfl, hb1⟩
         have HB1 := Lib.hid (HB0.out.trans (hb1.mono HB0.out.size))
         have r1 : RowAt w1 w.heap.size 31 [.int .u64 (b : Int), .int .u64 (s : Int)] := HR0.out.keep (hb1.block _ HR0.out.lt)
         have c0 := r1.cell (k := 0) (by simp)
         have c1 := r1.cell (k := 1) (by simp)
         simp only [List.getElem?_cons_zero, List.getElem?_cons_succ] at c0 c1
         clear hb1 r1)
      | (go_at_call 29; refine (FA.out _).mono ?_; rintro e w' ⟨rfl, rfl⟩)
      | fail)
    have hlt1 : w.heap.size < w1.heap.size := World.block_lt_of_cell? w1 (a := ⟨w.heap.size, 0, none⟩) c0
    refine wp_region_held_drew (S := fun W => W.cell? ⟨w.heap.size, 0, none⟩ = some (.int .u64 (b : Int)) ∧ W.cell? ⟨w.heap.size, 1, none⟩ = some (.int .u64 (s : Int))) (by kernel_rfl) ⟨c0, c1⟩ (fun hHeld => ?_)
    (refine held_take (i := 0) rfl rfl (by kernel_rfl) (by kernel_rfl) (by kernel_rfl) (fun _ _ _ h => h) (by rfl) (by intro w hSw; obtain ⟨hS1, hS2⟩ := hSw; go_simp; first | done | with_reducible rfl) (by assumption) ?_; try simp only [Act.put, List.setIfInBounds_toArray, List.set_cons_zero, List.set_cons_succ])
    (refine held_take (i := 1) rfl rfl (by kernel_rfl) (by kernel_rfl) (by kernel_rfl) (fun _ _ _ h => h) (by rfl) (by intro w hSw; obtain ⟨hS1, hS2⟩ := hSw; go_simp; first | done | with_reducible rfl) (by assumption) ?_; try simp only [Act.put, List.setIfInBounds_toArray, List.set_cons_zero, List.set_cons_succ])
    (refine held_take (i := 2) rfl rfl (by kernel_rfl) (by kernel_rfl) (by kernel_rfl) (fun _ _ _ h => h) (by rfl) (by intro w hSw; obtain ⟨hS1, hS2⟩ := hSw; go_simp; first | done | with_reducible rfl) (by assumption) ?_; try simp only [Act.put, List.setIfInBounds_toArray, List.set_cons_zero, List.set_cons_succ])
    (refine held_take (i := 4) rfl rfl (by kernel_rfl) (by kernel_rfl) (by kernel_rfl) (fun _ _ _ h => h) (by rfl) (by intro w hSw; obtain ⟨hS1, hS2⟩ := hSw; go_simp; first | done | with_reducible rfl) (by assumption) ?_; try simp only [Act.put, List.setIfInBounds_toArray, List.set_cons_zero, List.set_cons_succ])
    refine wpAnyH_ready (rs := [3]) (by kernel_rfl) (by simp) ?_
    refine AllReadyH.cons rfl (fun K hK => ?_) AllReadyH.nil
    go_simp
    go_at_call 31
    refine (HWY.out _ HB1.out.drew).mono ?_
    rintro e w2 ⟨⟨Aw, cw, rfl, hrow2⟩, hb2⟩
    have hb2' : Below w1.heap.size w1 w2 := ⟨hb2.os, hb2.tape, hb2.output, hb2.size, hb2.block⟩
    have HB2 := Lib.hid (below_next HB1.out hb2')
    have HROW2 := Lib.hid (own_base hrow2 HB1.out.size)
    refine hK.out _ _ ⟨(hb2'.cell (p := ⟨w.heap.size, 0, none⟩) hlt1).trans c0, (hb2'.cell (p := ⟨w.heap.size, 1, none⟩) hlt1).trans c1⟩ (fun hHeld => ?_)
    have e0 := (hb2'.cell (p := ⟨w.heap.size, 0, none⟩) hlt1).trans c0
    have e1 := (hb2'.cell (p := ⟨w.heap.size, 1, none⟩) hlt1).trans c1
    have hlt2 := Nat.lt_of_lt_of_le hlt1 hb2'.size
    clear hK K hb2 hb2' hrow2
    try simp only [Act.put, List.setIfInBounds_toArray, List.set_cons_zero, List.set_cons_succ]
    refine wpAnyH_ready (rs := [5]) (by kernel_rfl) (by simp) ?_
    refine AllReadyH.cons rfl (fun K hK => ?_) AllReadyH.nil
    go_simp
    go_at_call 30
    refine (HTH.out w2 HB2.out Aw cw HROW2.out).mono ?_
    rintro e w3 ⟨rfl, hb3⟩
    have HB3 := Lib.hid (below_next HB2.out hb3)
    refine hK.out _ _ ⟨(hb3.cell (p := ⟨w.heap.size, 0, none⟩) hlt2).trans e0, (hb3.cell (p := ⟨w.heap.size, 1, none⟩) hlt2).trans e1⟩ (fun hHeld => ?_)
    clear hK K hb3
    try simp only [Act.put, List.setIfInBounds_toArray, List.set_cons_zero, List.set_cons_succ]
    (refine held_take (i := 6) rfl rfl (by kernel_rfl) (by kernel_rfl) (by kernel_rfl) (fun _ _ _ h => h) (by rfl) (by intro w hSw; obtain ⟨hS1, hS2⟩ := hSw; go_simp; first | done | with_reducible rfl) (by assumption) ?_; try simp only [Act.put, List.setIfInBounds_toArray, List.set_cons_zero, List.set_cons_succ])
    (refine held_take (i := 7) rfl rfl (by kernel_rfl) (by kernel_rfl) (by kernel_rfl) (fun _ _ _ h => h) (by rfl) (by intro w hSw; obtain ⟨hS1, hS2⟩ := hSw; go_simp; first | done | with_reducible rfl) (by assumption) ?_; try simp only [Act.put, List.setIfInBounds_toArray, List.set_cons_zero, List.set_cons_succ])
    (refine held_take (i := 8) rfl rfl (by kernel_rfl) (by kernel_rfl) (by kernel_rfl) (fun _ _ _ h => h) (by rfl) (by intro w hSw; obtain ⟨hS1, hS2⟩ := hSw; go_simp; first | done | with_reducible rfl) (by assumption) ?_; try simp only [Act.put, List.setIfInBounds_toArray, List.set_cons_zero, List.set_cons_succ])
    (refine held_take (i := 9) rfl rfl (by kernel_rfl) (by kernel_rfl) (by kernel_rfl) (fun _ _ _ h => h) (by rfl) (by intro w hSw; obtain ⟨hS1, hS2⟩ := hSw; go_simp; first | done | with_reducible rfl) (by assumption) ?_; try simp only [Act.put, List.setIfInBounds_toArray, List.set_cons_zero, List.set_cons_succ])
    refine wpAnyH_done (by kernel_rfl) ?_ _
    go_wp2_with fail
    go_ret2
    exact ⟨rfl, HB3.out⟩
set_option maxRecDepth 100000 in
set_option maxHeartbeats 16000000 in
theorem rout2_any (A : Option Addr) (cap n : Nat) (l : List Nm) (hn : n = l.length) (hsz : Sized l) (i : Int) (b s : Nat) (hb64 : b < 18446744073709551616) (hs64 : s < 18446744073709551616) (w : World) (B : Nat) (hB : B ≤ w.heap.size) (hs : Nodes w B A l) :
    Calls Try.prog 44 #[.slice A n cap, .int .i64 i, .agg #[.int .u64 (b : Nat), .int .u64 (s : Nat)]] w fun e w' => e = .returned (.tuple #[.int .u64 ((outE (dat l) i b s).1 : Nat), .int .i64 (outE (dat l) i b s).2]) ∧ Below w.heap.size w w' := by
  have hb0 : Below w.heap.size w (w.alloc (.cells #[.int .u64 (b : Int), .int .u64 (s : Int)] 37)) := (Below.refl _ w).alloc (Nat.le_refl _) _
  have HR0 := Lib.hid (rowAt_box w 37 [.int .u64 (b : Int), .int .u64 (s : Int)])
  have HB0 := Lib.hid hb0
  have NO := wrong_true A cap n l hn hsz i (w.alloc (.cells #[.int .u64 (b : Int), .int .u64 (s : Int)] 37)) B (Nat.le_trans hB hb0.size) (hs.below (hb0.mono hB))
  unfold outE
  by_cases h0 : wrongF (dat l) i 0 = 0
  case neg =>
    obtain ⟨x, hx⟩ : ∃ x, x = wrongF (dat l) i 0 := ⟨_, rfl⟩
    rw [← hx] at NO h0 ⊢
    rw [if_pos h0]
    have HNO := Lib.hid NO
    have d1 : (x == 0) = false := by rw [beq_eq_false_iff_ne]; exact h0
    clear NO hx hn hsz hs
    go_enter Try.func44, Try.ntmps44
    go_wp2_with (first
      | (go_at_call 54; refine HNO.out.mono ?_; rintro e w1 ⟨rfl, hb1⟩
         have HB1 := Lib.hid (HB0.out.trans (hb1.mono HB0.out.size))
         clear hb1)
      | fail)
    go_ret2
    exact ⟨rfl, HB1.out⟩
  rw [if_neg (fun h => h h0)]
  obtain ⟨k, rfl, hk1, hpl⟩ := place hn h0 (by omega)
  rw [h0] at NO
  have HNO := Lib.hid NO
  have hlt := hpl.lt
  have hlen := hpl.len
  show Calls Try.prog 44 _ _ fun e w' => e = .returned (.tuple #[.int .u64 ((if fitsB b s = true then outF (dat l) k b s else (0, 1)).1 : Nat), .int .i64 (if fitsB b s = true then outF (dat l) k b s else (0, 1)).2]) ∧ _
  have FA0 := fun W => rfits_any b s hb64 hs64 W
  have IN : ∀ W, Below w.heap.size w W → Calls Try.prog 59 #[.slice A n cap, .int .i64 (k : Nat), .agg #[.int .u64 (b : Nat), .int .u64 (s : Nat)]] W fun e w' => e = .returned (.tuple #[.int .u64 ((outF (dat l) k b s).1 : Nat), .int .i64 (outF (dat l) k b s).2]) ∧ Below W.heap.size W w' := fun W hW => rout_any A cap n l hn hsz hpl.short hpl.ups k hlt b s hb64 hs64 W B (Nat.le_trans hB hW.size) (hs.below (hW.mono hB))
  generalize outF (dat l) k b s = U at *
  clear NO hn hsz hs hpl h0 hk1 hb0
  obtain ⟨X, hX⟩ : ∃ X, X = fitsB b s := ⟨_, rfl⟩
  rw [← hX] at FA0 ⊢
  have FA := Lib.hid FA0
  clear hX FA0
  have NOT := HNO.out
  clear NOT
  cases X with
  | false =>
    go_enter Try.func44, Try.ntmps44
    go_wp2_with (first
      | (go_at_call 54; refine HNO.out.mono ?_; rintro e w1 ⟨rfl, hb1⟩
         have HB1 := Lib.hid (HB0.out.trans (hb1.mono HB0.out.size))
         have r1 : RowAt w1 w.heap.size 37 [.int .u64 (b : Int), .int .u64 (s : Int)] := HR0.out.keep (hb1.block _ HR0.out.lt)
         have c0 := r1.cell (k := 0) (by simp)
         have c1 := r1.cell (k := 1) (by simp)
         simp only [List.getElem?_cons_zero, List.getElem?_cons_succ] at c0 c1
         clear hb1 r1)
      | (go_at_call 57; refine (FA.out _).mono ?_; rintro e w' ⟨rfl, rfl⟩)
      | fail)
    go_ret2
    exact ⟨rfl, HB1.out⟩
  | true =>
    have HIN := Lib.hid IN
    clear IN
    go_enter Try.func44, Try.ntmps44
    go_wp2_with (first
      | (go_at_call 54; refine HNO.out.mono ?_; rintro e w1 ⟨rfl, hb1⟩
         have HB1 := Lib.hid (HB0.out.trans (hb1.mono HB0.out.size))
         have r1 : RowAt w1 w.heap.size 37 [.int .u64 (b : Int), .int .u64 (s : Int)] := HR0.out.keep (hb1.block _ HR0.out.lt)
         have c0 := r1.cell (k := 0) (by simp)
         have c1 := r1.cell (k := 1) (by simp)
         simp only [List.getElem?_cons_zero, List.getElem?_cons_succ] at c0 c1
         clear hb1 r1)
      | (go_at_call 57; refine (FA.out _).mono ?_; rintro e w' ⟨rfl, rfl⟩)
      | (go_at_call 59; refine (HIN.out _ HB1.out).mono ?_; rintro e w2 ⟨rfl, hb2⟩
         have HB2 := Lib.hid (below_next HB1.out hb2)
         clear hb2)
      | fail)
    go_ret2
    exact ⟨rfl, HB2.out⟩
set_option maxRecDepth 100000 in
set_option maxHeartbeats 16000000 in
theorem pdown_any (A : Option Addr) (cap n : Nat) (l : List Nm) (hn : n = l.length) (hsz : Sized l) (i : Int) (b : Nat) (hb64 : b < 18446744073709551616) (w : World) (B : Nat) (hB : B ≤ w.heap.size) (hs : Nodes w B A l) :
    Calls Try.prog 12 #[.slice A n cap, .int .i64 i, .int .u64 (b : Nat)] w fun e w' => e = .returned (.tuple #[.int .u64 ((downE (dat l) i b).1 : Nat), .int .i64 (downE (dat l) i b).2]) ∧ Below w.heap.size w w' := by
  have NO := node_any A cap n l hn hsz i 0 w B hB hs
  unfold downE
  by_cases h0 : wrongF (dat l) i 0 = 0
  case neg =>
    obtain ⟨x, hx⟩ : ∃ x, x = wrongF (dat l) i 0 := ⟨_, rfl⟩
    rw [← hx] at NO h0 ⊢
    rw [if_pos h0]
    have HNO := Lib.hid NO
    have d1 : (x == 0) = false := by rw [beq_eq_false_iff_ne]; exact h0
    clear NO hx hn hsz hs
    go_enter Try.func12, Try.ntmps12
    go_wp2_with (first
      | (go_at_call 28; refine HNO.out.mono ?_; rintro e w1 ⟨rfl, hb1⟩
         have HB1 := Lib.hid (hb1)
         clear hb1)
      | fail)
    go_ret2
    exact ⟨rfl, HB1.out⟩
  rw [if_neg (fun h => h h0)]
  obtain ⟨k, rfl, hk1, hpl⟩ := place hn h0 (by omega)
  rw [h0] at NO
  have HNO := Lib.hid NO
  have hlt := hpl.lt
  have hlen := hpl.len
  show Calls Try.prog 12 _ _ fun e w' => e = .returned (.tuple #[.int .u64 ((downF (dat l) k b).1 : Nat), .int .i64 (downF (dat l) k b).2]) ∧ _
  have WY : ∀ W, Below w.heap.size w W → _ := fun W (hW : Below w.heap.size w W) => way_any A cap n l hn (by omega) hpl.ups k hlt W B (Nat.le_trans hB hW.size) (hs.below (hW.mono hB))
  have hwl := way_len hpl.ups k (by rw [dat_len, ← hn]; exact hlt)
  have hwm := way_mem hpl.ups k (by rw [dat_len, ← hn]; exact hlt)
  have TH : ∀ W, Below w.heap.size w W → ∀ Aw cw, Seg W W.heap.size Aw (nats (wayF (dat l) k).reverse) → Calls Try.prog 30 #[.slice A n cap, .slice Aw (wayF (dat l) k).length cw, .agg #[.int .u64 (b : Nat), .int .u64 (1 : Nat)], .bool true] W fun e w' => e = .returned (.tuple #[.int .u64 ((downF (dat l) k b).1 : Nat), .int .i64 (downF (dat l) k b).2]) ∧ Below W.heap.size W w' := fun W hW Aw cw ho => by
    have := through_any A cap n l hn hsz hpl.short hpl.ups Aw cw (wayF (dat l) k).length (wayF (dat l) k).reverse (by rw [List.length_reverse]) (by omega) (fun y hy => by have := hwm y (List.mem_reverse.1 hy); omega) b 1 hb64 (by omega) true W B W.heap.size (Nat.le_trans hB hW.size) (hs.below (hW.mono hB)) (Nat.le_refl _) ho
    rw [thr_down] at this
    exact this
  generalize downF (dat l) k b = U at *
  generalize hWW : wayF (dat l) k = WW at WY TH hwl hwm
  have HWY := Lib.hid WY
  have HTH := Lib.hid TH
  clear NO hn hsz hs hpl h0 hk1 hWW hwl hwm WY TH
  go_enter Try.func12, Try.ntmps12
  go_wp2_with (first
    | (go_at_call 28; refine HNO.out.mono ?_; rintro e w1 ⟨rfl, hb1⟩
       have HB1 := Lib.hid hb1
       clear hb1)
    | (go_at_call 31; refine (HWY.out _ HB1.out).mono ?_; rintro e w2 ⟨⟨Aw, cw, rfl, hrow2⟩, hb2⟩
       have HB2 := Lib.hid (below_next HB1.out hb2)
       have HROW2 := Lib.hid (own_base hrow2 HB1.out.size)
       clear hb2 hrow2)
    | (go_at_call 33; refine (rev_own w.heap.size Aw cw WW _ HB2.out.size HROW2.out).mono ?_; rintro e w3 ⟨rfl, hseg, hb3⟩
       have HB3 := Lib.hid (HB2.out.trans hb3)
       have HSEG := Lib.hid hseg
       clear hb3 hseg)
    | (go_at_call 30; refine (HTH.out _ HB3.out Aw cw HSEG.out).mono ?_; rintro e w4 ⟨rfl, hb4⟩
       have HB4 := Lib.hid (below_next HB3.out hb4)
       clear hb4)
    | fail)
  go_ret2
  exact ⟨rfl, HB4.out⟩
set_option maxRecDepth 100000 in
set_option maxHeartbeats 16000000 in
theorem rdown2_any (A : Option Addr) (cap n : Nat) (l : List Nm) (hn : n = l.length) (hsz : Sized l) (i : Int) (b : Nat) (hb64 : b < 18446744073709551616) (w : World) (B : Nat) (hB : B ≤ w.heap.size) (hs : Nodes w B A l) :
    Calls Try.prog 45 #[.slice A n cap, .int .i64 i, .int .u64 (b : Nat)] w fun e w' => e = .returned (.tuple #[.int .u64 ((downE (dat l) i b).1 : Nat), .int .i64 (downE (dat l) i b).2]) ∧ Below w.heap.size w w' := by
  have NO := wrong_true A cap n l hn hsz i w B hB hs
  unfold downE
  by_cases h0 : wrongF (dat l) i 0 = 0
  case neg =>
    obtain ⟨x, hx⟩ : ∃ x, x = wrongF (dat l) i 0 := ⟨_, rfl⟩
    rw [← hx] at NO h0 ⊢
    rw [if_pos h0]
    have HNO := Lib.hid NO
    have d1 : (x == 0) = false := by rw [beq_eq_false_iff_ne]; exact h0
    clear NO hx hn hsz hs
    go_enter Try.func45, Try.ntmps45
    go_wp2_with (first
      | (go_at_call 54; refine HNO.out.mono ?_; rintro e w1 ⟨rfl, hb1⟩
         have HB1 := Lib.hid (hb1)
         clear hb1)
      | fail)
    go_ret2
    exact ⟨rfl, HB1.out⟩
  rw [if_neg (fun h => h h0)]
  obtain ⟨k, rfl, hk1, hpl⟩ := place hn h0 (by omega)
  rw [h0] at NO
  have HNO := Lib.hid NO
  have hlt := hpl.lt
  have hlen := hpl.len
  show Calls Try.prog 45 _ _ fun e w' => e = .returned (.tuple #[.int .u64 ((downF (dat l) k b).1 : Nat), .int .i64 (downF (dat l) k b).2]) ∧ _
  have IN : ∀ W, Below w.heap.size w W → Calls Try.prog 60 #[.slice A n cap, .int .i64 (k : Nat), .int .u64 (b : Nat)] W fun e w' => e = .returned (.tuple #[.int .u64 ((downF (dat l) k b).1 : Nat), .int .i64 (downF (dat l) k b).2]) ∧ Below W.heap.size W w' := fun W hW => rdown_any A cap n l hn hsz hpl.short hpl.ups b hb64 B k hlt W (Nat.le_trans hB hW.size) (hs.below (hW.mono hB))
  generalize downF (dat l) k b = U at *
  have HIN := Lib.hid IN
  clear NO hn hsz hs hpl h0 hk1 IN
  go_enter Try.func45, Try.ntmps45
  go_wp2_with (first
    | (go_at_call 54; refine HNO.out.mono ?_; rintro e w1 ⟨rfl, hb1⟩
       have HB1 := Lib.hid hb1
       clear hb1)
    | (go_at_call 60; refine (HIN.out _ HB1.out).mono ?_; rintro e w2 ⟨rfl, hb2⟩
       have HB2 := Lib.hid (below_next HB1.out hb2)
       clear hb2)
    | fail)
  go_ret2
  exact ⟨rfl, HB2.out⟩
end Go.Proofs.Ytndocngkganpdaa
