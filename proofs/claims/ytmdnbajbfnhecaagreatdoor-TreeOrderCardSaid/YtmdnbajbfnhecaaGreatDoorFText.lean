/- A prop's value: the contracts of both sides. A node's handle: the contracts of both sides. The document's PathOf and At: the contracts. The document's At and Holder: the contracts. The program's find: the contract. Texts and Text: the contracts of both sides. -/
import Derived.Test.YtmdnbajbfnhecaaGreatDoorMem
import Derived.Test.YtmdnbajbfnhecaaGreatDoorRefD
import Derived.Test.YtmdnbajbfnhecaaGreatDoorOneC
import Derived.Test.YtmdnbajbfnhecaaGreatDoorPush
import Derived.Test.YtmdnbajbfnhecaaGreatDoorFindLaw
import Derived.Test.YtmdnbajbfnhecaaGreatDoorShelf
import Derived.Deep.LoopGhost
import Derived.WalkMore
set_option linter.unusedVariables false
namespace Go.Proofs.YtmdnbajbfnhecaaGreatDoor
open Go.RowKit
/-- A prop's value. -/
def valF (ps : List Pr) (k : ByteArray) : Option ByteArray := (ps.find? fun y => decide (y.n = k)).map Pr.v
def valS (ps : List Pr) (k : ByteArray) : ByteArray := (valF ps k).getD ByteArray.empty
def valB (ps : List Pr) (k : ByteArray) : Bool := (valF ps k).isSome
theorem val_none {ps : List Pr} {k : ByteArray} (h : ∀ i (hi : i < ps.length), ps[i].n ≠ k) : valS ps k = ByteArray.empty ∧ valB ps k = false := by
  have : ps.find? (fun y => decide (y.n = k)) = none := by
    rw [List.find?_eq_none]
    intro y hy
    obtain ⟨i, hi, rfl⟩ := List.mem_iff_getElem.1 hy
    simpa using h i hi
  unfold valS valB valF
  rw [this]
  exact ⟨rfl, rfl⟩
theorem val_some {ps : List Pr} {k : ByteArray} {i : Nat} (hi : i < ps.length) (h : ∀ j (hj : j < ps.length), j < i → ps[j].n ≠ k) (he : ps[i].n = k) : valS ps k = ps[i].v ∧ valB ps k = true := by
  have : ps.find? (fun y => decide (y.n = k)) = some ps[i] := by
    rw [List.find?_eq_some_iff_getElem]
    refine ⟨by simpa using he, i, hi, rfl, fun j hj => ?_⟩
    simpa using h j (by omega) hj
  unfold valS valB valF
  rw [this]
  exact ⟨rfl, rfl⟩
theorem val_le {ps : List Pr} {k : ByteArray} {N : Nat} (h : ∀ y ∈ ps, y.v.size ≤ N) : (valS ps k).size ≤ N := by
  unfold valS valF
  cases hf : ps.find? (fun y => decide (y.n = k)) with
  | none => simp [ByteArray.size]
  | some y => exact h y (List.mem_of_find?_eq_some hf)
set_option maxRecDepth 100000 in
set_option maxHeartbeats 2000000 in
theorem value_any (p : Int) (s : ByteArray) (A : Option Addr) (c m : Nat) (ps : List Pr) (hm : m = ps.length) (hz : m * 32 ≤ 140737488355328) (k : ByteArray) (w : World) (B : Nat) (hB : B ≤ w.heap.size) (hs : Seg w B A (prCells ps)) :
    Calls Tryz.prog 39 #[.agg #[.int .i64 p, .string s, .slice A m c], .string k] w fun e w' => e = .returned (.tuple #[.string (valS ps k), .bool (valB ps k)]) ∧ Below w.heap.size w w' := by
  have HM := Lib.hid hm
  have HS := Lib.hid hs
  clear hm hs
  go_enter Tryz.func39, Tryz.ntmps39
  go_wp2_with fail
  go_loopw [11] (fun iv wx => ∃ i : Nat, i ≤ m ∧ iv = .int .i64 i ∧ (∀ j (hj : j < ps.length), j < i → ps[j].n ≠ k) ∧ Below w.heap.size w wx) (fun iv _ => m - (intOf iv).toNat)
  case atStart => exact ⟨0, by omega, rfl, fun j _ h => absurd h (Nat.not_lt_zero j), (Below.refl _ w).alloc (Nat.le_refl _) _⟩
  case round =>
    obtain ⟨i, hi, rfl, hno, hb⟩ := hrel
    have HB := Lib.hid hb
    have HNO := Lib.hid hno
    have hbs := hb.size
    by_cases hlt : i < m
    · have hil : i < ps.length := by rw [← HM.out]; exact hlt
      have hii : (i : Int) < (m : Int) := by omega
      obtain ⟨b, off, eA, _, x0, x1⟩ := (HS.out.below (hb.mono hB)).pr hil
      subst eA
      obtain ⟨x, hx⟩ : ∃ x, x = ps[i] := ⟨_, rfl⟩
      rw [← hx] at x0 x1
      have hb2 : Below w.heap.size w (wr.alloc (.cells #[.string x.n, .string x.v] 57)) := HB.out.alloc hbs _
      have HX := Lib.hid hx
      have HB2 := Lib.hid hb2
      clear hb hno hx hb2
      obtain ⟨xn, xv⟩ := x
      simp only at x0 x1
      by_cases he : xn = k
      · subst he
        have hv := val_some hil HNO.out (by rw [← HX.out])
        rw [← HX.out] at hv
        have HV := Lib.hid hv
        clear hv
        go_wp2_with fail
        go_ret2
        exact ⟨by rw [HV.out.1, HV.out.2]; rfl, HB2.out⟩
      · have he1 := str_ne he
        have HE := Lib.hid he
        clear he
        go_wp2_with fail
        refine ⟨⟨i + 1, by omega, by go_num, fun j hj hji => ?_, HB2.out⟩, by simp [intOf]; omega⟩
        by_cases e : j = i
        · subst e
          rw [← HX.out]
          exact HE.out
        · exact HNO.out j hj (by omega)
    · obtain rfl : i = m := by omega
      have hf0 : ¬ (i : Int) < (i : Int) := by omega
      have hv := val_none (ps := ps) (k := k) fun j hj => HNO.out j hj (by rw [HM.out]; exact hj)
      have HV := Lib.hid hv
      clear hb hno hv
      go_wp2_with fail
      go_ret2
      exact ⟨by rw [HV.out.1, HV.out.2]; rfl, HB.out⟩
end Go.Proofs.YtmdnbajbfnhecaaGreatDoor

set_option linter.unusedVariables false
namespace Go.Proofs.YtmdnbajbfnhecaaGreatDoor
open Go.RowKit
/-- A node's handle: 0 if it has none. -/
def kPh : ByteArray := ⟨#[112, 104, 97, 110, 100, 108, 101]⟩
def handF (ps : List Pr) : Nat := if valB ps kPh = true ∧ (oneC (valS ps kPh)).2 = 0 then (oneC (valS ps kPh)).1 else 0
theorem one_two (s : ByteArray) : (oneC s).2 = 0 ∨ (oneC s).2 = 4 := by
  unfold oneC
  split
  · exact .inl rfl
  · exact .inr rfl
set_option maxRecDepth 100000 in
set_option maxHeartbeats 4000000 in
theorem handle_any (p : Int) (s : ByteArray) (A : Option Addr) (c m : Nat) (ps : List Pr) (hm : m = ps.length) (hz : m * 32 ≤ 140737488355328) (hv : ∀ y ∈ ps, y.v.size ≤ 1048576) (w : World) (B : Nat) (hB : B ≤ w.heap.size) (hs : Seg w B A (prCells ps)) :
    Calls Tryz.prog 38 #[.agg #[.int .i64 p, .string s, .slice A m c]] w fun e w' => e = .returned (.int .u32 (handF ps : Nat)) ∧ Below w.heap.size w w' := by
  have hb0 : Below w.heap.size w (w.alloc (.cells #[.int .i64 p, .string s, .slice A m c] 50)) := (Below.refl _ w).alloc (Nat.le_refl _) _
  have V := value_any p s A c m ps hm hz kPh _ B (Nat.le_trans hB hb0.size) (hs.below (hb0.mono hB))
  have O := cone_any (valS ps kPh) (val_le hv)
  have e0 : handF ps = if valB ps kPh = true ∧ (oneC (valS ps kPh)).2 = 0 then (oneC (valS ps kPh)).1 else 0 := rfl
  have ho := one_two (valS ps kPh)
  rw [e0]
  generalize valS ps kPh = vs at *
  generalize valB ps kPh = vb at *
  generalize oneC vs = oc at *
  obtain ⟨o1, o2⟩ := oc
  simp only at O ho ⊢
  have HV := Lib.hid V
  have HO := Lib.hid O
  have HB0 := Lib.hid hb0
  have hs0 := hb0.size
  clear V O hb0 hm hs e0
  rcases vb with _ | _
  · rw [if_neg (by simp)]
    go_enter Tryz.func38, Tryz.ntmps38
    go_wp2_with (first
      | (go_at_call 39; refine HV.out.mono ?_; rintro e w1 ⟨rfl, hb1⟩; have HB1 := Lib.hid (HB0.out.trans (hb1.mono hs0)); clear hb1)
      | (go_at_call 59; refine (HO.out _).mono ?_; rintro e w2 ⟨rfl, hb2⟩; have HB2 := Lib.hid (below_next HB1.out hb2); clear hb2))
    go_ret
    exact ⟨rfl, HB2.out⟩
  · rcases ho with rfl | rfl
    · rw [if_pos ⟨rfl, rfl⟩]
      go_enter Tryz.func38, Tryz.ntmps38
      go_wp2_with (first
        | (go_at_call 39; refine HV.out.mono ?_; rintro e w1 ⟨rfl, hb1⟩; have HB1 := Lib.hid (HB0.out.trans (hb1.mono hs0)); clear hb1)
        | (go_at_call 59; refine (HO.out _).mono ?_; rintro e w2 ⟨rfl, hb2⟩; have HB2 := Lib.hid (below_next HB1.out hb2); clear hb2))
      go_ret
      exact ⟨rfl, HB2.out⟩
    · rw [if_neg (by simp)]
      go_enter Tryz.func38, Tryz.ntmps38
      go_wp2_with (first
        | (go_at_call 39; refine HV.out.mono ?_; rintro e w1 ⟨rfl, hb1⟩; have HB1 := Lib.hid (HB0.out.trans (hb1.mono hs0)); clear hb1)
        | (go_at_call 59; refine (HO.out _).mono ?_; rintro e w2 ⟨rfl, hb2⟩; have HB2 := Lib.hid (below_next HB1.out hb2); clear hb2))
      go_ret
      exact ⟨rfl, HB2.out⟩
end Go.Proofs.YtmdnbajbfnhecaaGreatDoor

set_option linter.unusedVariables false
namespace Go.Proofs.YtmdnbajbfnhecaaGreatDoor
open Go.RowKit
/-- The names above a node, from the root down, each behind a stroke: as the document puts them together. -/
def dnL (l : List Nd) (i t : Nat) : List UInt8 := (((above l i).dropLast.reverse).take t).flatMap fun k => 47 :: nameAt l k.toNat
theorem dn_step (l : List Nd) (i t : Nat) (h : t < ((above l i).dropLast.reverse).length) : dnL l i (t + 1) = dnL l i t ++ 47 :: nameAt l (((above l i).dropLast.reverse)[t]).toNat := by
  unfold dnL
  rw [List.take_succ_eq_append_getElem h, List.flatMap_append]
  simp
theorem dn_all (l : List Nd) (i : Nat) : pathD l i = if dnL l i ((above l i).length - 1) = [] then [47] else dnL l i ((above l i).length - 1) := by
  unfold pathD dnL
  rw [List.take_of_length_le (by simp)]
theorem rev_at (U : List Int) (t : Nat) (h : t < (U.dropLast.reverse).length) : (U.dropLast.reverse)[t] = U[U.length - 2 - t]'(by simp at h; omega) := by
  rw [List.getElem_reverse, List.getElem_dropLast]
  congr 1
  simp
  omega
theorem fine_name {l : List Nd} (h : Fine l l.length) {i : Nat} (hi : i < l.length) : (nameAt l i).length ≤ 31 := by
  have hn := h i hi
  unfold nodeOkB at hn
  unfold nameAt
  rw [List.getElem?_eq_getElem hi] at hn ⊢
  simp only [Bool.and_eq_true] at hn ⊢
  by_cases h0 : i = 0
  · rw [if_pos h0] at hn
    simp only [Bool.and_eq_true, decide_eq_true_eq] at hn
    rw [hn.2.2]
    simp
  · rw [if_neg h0] at hn
    simp only [Bool.and_eq_true] at hn
    have := hn.2.1.1.1.1.1
    unfold nameB at this
    simp only [Bool.and_eq_true, decide_eq_true_eq] at this
    exact this.1.2
theorem nameAt_dat {l : List Nm} {k : Nat} (hk : k < l.length) : nameAt (dat l) k = l[k].d.n.data.toList := by
  unfold nameAt
  rw [List.getElem?_eq_getElem (by rw [dat_len]; exact hk)]
  simp only [dat_get l hk]
end Go.Proofs.YtmdnbajbfnhecaaGreatDoor

set_option linter.unusedVariables false
namespace Go.Proofs.YtmdnbajbfnhecaaGreatDoor
open Go.RowKit
/-- A place, or -1. -/
def optI : Option Nat → Int
  | none => -1
  | some i => (i : Int)
theorem first_none {n : Nat} {p : Nat → Bool} (h : ∀ j, j < n → p j = false) : (List.range n).find? p = none := by
  rw [List.find?_eq_none]
  intro j hj
  simp [h j (by simpa using hj)]
theorem first_some {n i : Nat} {p : Nat → Bool} (hi : i < n) (hp : p i = true) (h : ∀ j, j < i → p j = false) : (List.range n).find? p = some i := by
  rw [List.find?_range_eq_some]
  exact ⟨hp, by simpa using hi, fun j hj => by simp [h j hj]⟩
/-- The first node with a handle. -/
def holdF (l : List Nd) (h : Nat) : Option Nat := (List.range l.length).find? fun i => handF (propsAt l i) == h
where propsAt (l : List Nd) (i : Nat) : List Pr := match l[i]? with
  | none => []
  | some x => x.ps
theorem props_dat {l : List Nm} {k : Nat} (hk : k < l.length) : holdF.propsAt (dat l) k = l[k].d.ps := by
  unfold holdF.propsAt
  rw [List.getElem?_eq_getElem (by rw [dat_len]; exact hk)]
  simp only [dat_get l hk]
theorem bytes_eq {s t : ByteArray} (h : s.data.toList = t.data.toList) : s = t := by
  cases s with
  | mk a => cases t with
    | mk b =>
      simp only at h
      rw [Array.toList_inj.mp h]
end Go.Proofs.YtmdnbajbfnhecaaGreatDoor

set_option linter.unusedVariables false
namespace Go.Proofs.YtmdnbajbfnhecaaGreatDoor
open Go.RowKit
def optN (o : Option Nat) : Int := match o with
  | none => 0
  | some i => (i : Int)
theorem kid_no {l : List Nd} {a : Nat} {nm : List UInt8} (h : ∀ j, a < j → j < l.length → ¬ (parAt l j = (a : Int) ∧ nameAt l j = nm)) : kidF l a nm = none := by
  unfold kidF
  rw [List.find?_eq_none]
  intro j hj
  obtain ⟨h1, h2⟩ := mem_drop_range.mp hj
  have := h j (by omega) h2
  simpa using this
theorem kid_yes {l : List Nd} {a i : Nat} {nm : List UInt8} (h1 : a < i) (h2 : i < l.length) (h3 : parAt l i = (a : Int)) (h4 : nameAt l i = nm) (h : ∀ j, a < j → j < i → ¬ (parAt l j = (a : Int) ∧ nameAt l j = nm)) : kidF l a nm = some i := by
  unfold kidF
  rw [List.find?_eq_some_iff_getElem]
  refine ⟨by simp [h3, h4], i - (a + 1), by simp; omega, by simp; omega, fun j hj => ?_⟩
  simp only [List.getElem_drop, List.getElem_range]
  have := h (a + 1 + j) (by omega) (by omega)
  rw [Bool.not_eq_true', Bool.and_eq_false_iff]
  by_cases e : parAt l ((a + 1 + j : Nat) : Int) = (a : Int)
  · right
    simpa using fun e2 => this ⟨e, e2⟩
  · left
    simpa using e
theorem cut_front (s : ByteArray) (l : List Nd) : (Lib.hasPrefix s.data.toList [47] = false ∧ findL l s.data.toList = none) ∨ ∃ r : List UInt8, Lib.hasPrefix s.data.toList [47] = true ∧ Lib.trimPrefix s.data.toList [47] = r ∧ r.length + 1 = s.size ∧
    findL l s.data.toList = if r = [] then some 0 else walkF l 0 (splitL r) := by
  rcases hs : s.data.toList with _ | ⟨c, r⟩
  · exact .inl ⟨rfl, rfl⟩
  · by_cases hc : c = 47
    · subst hc
      right
      have h1 : Lib.hasPrefix (47 :: r) [47] = true := by unfold Lib.hasPrefix; simp
      refine ⟨r, h1, ?_, ?_, by show (if (47 : UInt8) = 47 then (if r = [] then some 0 else walkF l 0 (splitL r)) else none) = _; exact if_pos rfl⟩
      · unfold Lib.trimPrefix
        rw [if_pos h1]
        rfl
      · have : s.data.toList.length = s.size := by rw [Array.length_toList]; rfl
        rw [hs] at this
        simpa using this
    · left
      refine ⟨?_, by show (if c = 47 then _ else none) = none; rw [if_neg hc]⟩
      unfold Lib.hasPrefix
      simp only [List.isPrefixOf, Bool.and_true]
      simpa using fun e => hc e.symm
/-- The parts of a path, as the library cuts them. -/
def cutB (r : ByteArray) : List ByteArray := Lib.splitB ⟨#[47]⟩ 0 (Lib.countB r ⟨#[47]⟩) r
theorem cut_parts (r : ByteArray) : (cutB r).map (·.data.toList) = splitL r.data.toList := by
  unfold cutB
  rw [split_shelf, splitC_47]
theorem cut_len (r : ByteArray) : (cutB r).length = Lib.countB r ⟨#[47]⟩ + 1 := Lib.splitB_all ⟨#[47]⟩ (Nat.le_refl 1) 0 _ r rfl
theorem split_len : ∀ s : List UInt8, (splitL s).length ≤ s.length + 1
  | [] => Nat.le_refl _
  | c :: r => by
    have ih := split_len r
    rw [splitL]
    split
    · simp only [List.length_cons]; omega
    · split
      · simp
      · rename_i h t he
        rw [he] at ih
        simp only [List.length_cons] at ih ⊢
        omega
/-- A library's variable that holds some integer. -/
def Var0 (w : World) : Prop := ∃ m, w.cell? ⟨0, 0, none⟩ = some (.int .i64 m)
theorem Var0.below {w w' : World} {B : Nat} (h : Var0 w) (hb : Below B w w') (h0 : 0 < B) : Var0 w' := by
  obtain ⟨m, hm⟩ := h
  exact ⟨m, (hb.cell (p := ⟨0, 0, none⟩) h0).trans hm⟩
set_option maxRecDepth 100000 in
set_option maxHeartbeats 4000000 in
theorem find_any (A : Option Addr) (cap n : Nat) (l : List Nm) (hn : n = l.length) (hn5 : n ≤ 512) (h0 : 0 < n) (s : ByteArray) (hz : s.size ≤ 1048576) (w : World) (hv : Var0 w) (hw0 : 0 < w.heap.size) (B : Nat) (hB : B ≤ w.heap.size) (hs : Nodes w B A l) :
    Calls Tryz.prog 36 #[.slice A n cap, .string s] w fun e w' => e = .returned (.tuple #[.int .i64 (optN (findL (dat l) s.data.toList)), .bool (findL (dat l) s.data.toList).isSome]) ∧ Below w.heap.size w w' := by
  have hcp := Tryz.strings_CutPrefix s ⟨#[47]⟩ w
  rcases cut_front s (dat l) with ⟨h1, h2⟩ | ⟨r, h1, h2, h3, h4⟩
  · have h1' : Lib.hasPrefix s.data.toList (⟨#[47]⟩ : ByteArray).data.toList = false := h1
    rw [h1'] at hcp
    rw [h2]
    have HCP := Lib.hid hcp
    clear hcp h1 h1' h2 hs hn
    go_enter Tryz.func36, Tryz.ntmps36
    go_wp2_with fail
    go_step3
    go_wp2_with (first
      | (go_at_call 57; refine HCP.out.mono ?_; rintro e w1 ⟨rfl, rfl⟩))
    try rw [Exit.noGoto_ret]
    go_ret2
    exact ⟨rfl, Below.refl _ _⟩
  · have h1' : Lib.hasPrefix s.data.toList (⟨#[47]⟩ : ByteArray).data.toList = true := h1
    have h2' : Lib.trimPrefix s.data.toList (⟨#[47]⟩ : ByteArray).data.toList = r := h2
    rw [h1', h2'] at hcp
    rw [h4]
    clear h1 h1' h2 h2' h4
    obtain ⟨R, hR⟩ : ∃ R : ByteArray, R = ⟨r.toArray⟩ := ⟨_, rfl⟩
    have hRr : R.data.toList = r := by rw [hR]
    rw [← hR] at hcp
    by_cases hr0 : r = []
    · have hRe : R = ByteArray.empty := by rw [hR, hr0]; rfl
      rw [if_pos hr0]
      subst hRe
      have HCP := Lib.hid hcp
      clear hcp hs hn hRr hr0 hR h3
      go_enter Tryz.func36, Tryz.ntmps36
      go_wp2_with fail
      go_step3
      go_wp2_with (first
        | (go_at_call 57; refine HCP.out.mono ?_; rintro e w1 ⟨rfl, rfl⟩))
      try rw [Exit.noGoto_ret]
      go_ret2
      exact ⟨rfl, Below.refl _ _⟩
    · rw [if_neg hr0]
      have hne : R.toList.isEmpty = false := by
        rw [ByteArray.toList_eq, hRr]
        cases r with
        | nil => exact absurd rfl hr0
        | cons x y => rfl
      obtain ⟨mv, hmv⟩ := hv
      have hRz : R.size = r.length := by rw [hR]; simp [ByteArray.size]
      have hsp := Tryz.strings_Split R ⟨#[47]⟩ mv w (by omega) hmv (by show 1 ≤ 1; omega)
      have hcl := cut_len R
      have hcp2 := cut_parts R
      rw [hRr] at hcp2
      rw [show Lib.splitB ⟨#[47]⟩ 0 (Lib.countB R ⟨#[47]⟩) R = cutB R from rfl, ← hcl] at hsp
      rw [← hcp2]
      have hsl := split_len r
      rw [← hcp2, List.length_map] at hsl
      generalize cutB R = ps at *
      obtain ⟨K, hK⟩ : ∃ K, K = ps.length := ⟨_, rfl⟩
      rw [← hK] at hsp
      have hKz : K ≤ 1048577 := by omega
      obtain ⟨W, hW⟩ : ∃ W, W = walkF (dat l) 0 (ps.map (·.data.toList)) := ⟨_, rfl⟩
      rw [← hW]
      have HCP := Lib.hid hcp
      have HSP := Lib.hid hsp
      have HN := Lib.hid hn
      have HS := Lib.hid hs
      have HK := Lib.hid hK
      have HW := Lib.hid hW
      clear hcp hsp hn hs hK hW hmv hcl hcp2 hRr hR hr0 h3 hRz hsl
      obtain ⟨w2, hw2⟩ : ∃ w2, w2 = w.alloc (.cells (ps.map Value.string).toArray 9) := ⟨_, rfl⟩
      have hb2 : Below w.heap.size w w2 := by rw [hw2]; exact (Below.refl _ w).alloc (Nat.le_refl _) _
      have hpc : ∀ k (hk : k < ps.length), w2.cell? ⟨w.heap.size, k, none⟩ = some (.string ps[k]) := fun k hk => by
        rw [hw2, cell_of_row _ _ _ _ _ (0, 0) (heap_alloc_new w _)]
        simp [hk]
      have HB2 := Lib.hid hb2
      have HPC := Lib.hid hpc
      have HW2 := Lib.hid hw2
      clear hb2 hpc hw2
      go_enter Tryz.func36, Tryz.ntmps36
      go_wp2_with fail
      go_step3
      go_wp2_with (first
        | (go_at_call 57; refine HCP.out.mono ?_; rintro e w1 ⟨rfl, rfl⟩))
      go_step3
      go_wp2_with (first
        | (go_at_call 58; refine HSP.out.mono ?_; rintro e w1 ⟨rfl, rfl⟩; rw [← HW2.out]))
      go_loopg [8, 25] K (fun gi av kv wx => ∃ (a k : Nat), av = .int .i64 a ∧ kv = .int .i64 k ∧ a < n ∧ k ≤ K ∧ walkF (dat l) a ((ps.drop k).map (·.data.toList)) = W ∧ K - k ≤ gi ∧ wx = w2)
      case atStart => exact ⟨0, 0, rfl, rfl, h0, by omega, by rw [List.drop_zero]; exact HW.out.symm, by omega, rfl⟩
      case round =>
        obtain ⟨a, k, rfl, rfl, ha, hk, hwk, hgk, rfl⟩ := hrel
        by_cases hlt : k < K
        · have hkp : k < ps.length := by rw [← HK.out]; exact hlt
          have hki : (k : Int) < (K : Int) := by omega
          have y0 := HPC.out k hkp
          have hdr : ps.drop k = ps[k] :: ps.drop (k + 1) := List.drop_eq_getElem_cons hkp
          rw [hdr, List.map_cons, walkF] at hwk
          obtain ⟨nm, hnm⟩ : ∃ nm, nm = ps[k] := ⟨_, rfl⟩
          rw [← hnm] at y0 hwk
          have hkno := fun h => kid_no (l := dat l) (a := a) (nm := nm.data.toList) h
          have hkyes := fun i h1 h2 h3 h4 h => kid_yes (l := dat l) (a := a) (i := i) (nm := nm.data.toList) h1 h2 h3 h4 h
          generalize kidF (dat l) a nm.data.toList = kf at *
          have HWK := Lib.hid hwk
          have HKN := Lib.hid hkno
          have HKY := Lib.hid hkyes
          clear hdr hnm hwk hkno hkyes
          go_wp2_with fail
          obtain ⟨w3, hw3⟩ : ∃ w3 : World, w3 = wr := ⟨_, rfl⟩
          go_loopg [8, 11] n (fun gi av iv wx => ∃ i : Nat, av = .int .i64 a ∧ iv = .int .i64 i ∧ a < i ∧ i ≤ n ∧ (∀ j, a < j → j < i → ¬ (parAt (dat l) j = (a : Int) ∧ nameAt (dat l) j = nm.data.toList)) ∧ n - i ≤ gi ∧ wx = w3)
          case atStart => exact ⟨a + 1, rfl, by go_num, by omega, by omega, fun j h1 h2 => by omega, by omega, hw3.symm⟩
          case round =>
            subst hw3
            obtain ⟨i, rfl, rfl, hai, hin, hno, hgi, rfl⟩ := hrel
            have HNO := Lib.hid hno
            clear hno
            by_cases hilt : i < n
            · have hil : i < l.length := by rw [← HN.out]; exact hilt
              have hii : (i : Int) < (n : Int) := by omega
              obtain ⟨b, off, eA, _, x0, x1, _, _⟩ := (HS.out.below (HB2.out.mono hB)).at_ hil
              subst eA
              have hpar : parAt (dat l) i = l[i].d.p := by
                unfold parAt
                rw [Int.toNat_natCast, List.getElem?_eq_getElem (by rw [dat_len]; exact hil)]
                simp only [dat_get l hil]
              have hnam := nameAt_dat hil
              generalize l[i].d.p = P at *
              generalize l[i].d.n = xn at *
              have HPAR := Lib.hid hpar
              have HNAM := Lib.hid hnam
              clear hpar hnam
              by_cases hp : P = (a : Int)
              · by_cases hx : xn = nm
                · have hkf := HKY.out i hai (by rw [dat_len]; exact hil) (by rw [HPAR.out, hp]) (by rw [HNAM.out, hx]) HNO.out
                  have hwk := HWK.out
                  rw [hkf] at hwk
                  subst hp hx
                  have HWK2 := Lib.hid hwk
                  clear hkf hwk HKY HKN HWK
                  go_wp2_with fail
                  go_roundg (K - (k + 1))
                  case measure => omega
                  case rel => exact ⟨i, k + 1, rfl, by go_num, hilt, by omega, HWK2.out, by omega, rfl⟩
                · have hx1 := str_ne hx
                  subst hp
                  have hno2 : ∀ j, a < j → j < i + 1 → ¬ (parAt (dat l) j = (a : Int) ∧ nameAt (dat l) j = nm.data.toList) := fun j h1 h2 => by
                    by_cases e : j = i
                    · subst e
                      rintro ⟨_, h4⟩
                      rw [HNAM.out] at h4
                      exact hx (bytes_eq h4)
                    · exact HNO.out j h1 (by omega)
                  have HNO2 := Lib.hid hno2
                  clear hx hno2
                  go_wp2_with fail
                  go_roundg (n - (i + 1))
                  case measure => omega
                  case rel => exact ⟨i + 1, rfl, by go_num, by omega, by omega, HNO2.out, by omega, rfl⟩
              · have hp1 : (P == (a : Int)) = false := by simpa using hp
                have hno2 : ∀ j, a < j → j < i + 1 → ¬ (parAt (dat l) j = (a : Int) ∧ nameAt (dat l) j = nm.data.toList) := fun j h1 h2 => by
                  by_cases e : j = i
                  · subst e
                    rintro ⟨h3, _⟩
                    rw [HPAR.out] at h3
                    exact hp h3
                  · exact HNO.out j h1 (by omega)
                have HNO2 := Lib.hid hno2
                clear hp hno2
                go_wp2_with fail
                go_roundg (n - (i + 1))
                case measure => omega
                case rel => exact ⟨i + 1, rfl, by go_num, by omega, by omega, HNO2.out, by omega, rfl⟩
            · obtain rfl : i = n := by omega
              have hf0 : ¬ (i : Int) < (i : Int) := by omega
              have hkf := HKN.out fun j h1 h2 => HNO.out j h1 (by rw [HN.out, ← dat_len]; exact h2)
              have hwk := HWK.out
              rw [hkf] at hwk
              subst hwk
              go_wp2_with fail
              try rw [Exit.noGoto_ret]
              go_ret2
              exact ⟨rfl, HB2.out⟩
        · obtain rfl : k = K := by omega
          have hf0 : ¬ (k : Int) < (k : Int) := by omega
          rw [List.drop_of_length_le (by rw [HK.out]; exact Nat.le_refl _)] at hwk
          have hW2 : W = some a := hwk.symm
          subst hW2
          go_wp2_with fail
          try rw [Exit.noGoto_ret]
          go_ret2
          exact ⟨rfl, HB2.out⟩
end Go.Proofs.YtmdnbajbfnhecaaGreatDoor

set_option linter.unusedVariables false
namespace Go.Proofs.YtmdnbajbfnhecaaGreatDoor
open Go.RowKit
/-- What Texts gives. -/
def TextsR (v : ByteArray) (e : Ending) (w' : World) : Prop := match textsL v.data.toList with
  | none => e = .returned (.tuple #[.slice none 0 0, .int .i64 4])
  | some ts => ∃ (A : Option Addr) (c m : Nat) (bs : List ByteArray), e = .returned (.tuple #[.slice A m c, .int .i64 0]) ∧ m = bs.length ∧ Seg w' w'.heap.size A (bs.map Value.string) ∧ bs.map (·.data.toList) = ts
theorem texts_snoc (b : List UInt8) (x : UInt8) : textsL (b ++ [x]) = if x = 0 then some (headsC 0 (b ++ [x])) else none := by
  unfold textsL
  rw [List.getLast?_concat]
theorem suffix_one (b : List UInt8) (x : UInt8) : Lib.hasSuffix (b ++ [x]) [0] = (x == 0) := by
  unfold Lib.hasSuffix List.isSuffixOf
  rw [List.reverse_append]
  simp only [List.reverse_cons, List.reverse_nil, List.nil_append, List.cons_append, List.isPrefixOf, Bool.and_true]
  by_cases h : x = 0
  · subst h; rfl
  · have h1 : ((0 : UInt8) == x) = false := by simpa using fun e => h e.symm
    have h2 : (x == 0) = false := by simpa using h
    rw [h1, h2]
theorem data_len (v : ByteArray) : v.data.toList.length = v.size := by rw [Array.length_toList]; rfl
set_option maxRecDepth 100000 in
set_option maxHeartbeats 4000000 in
theorem ptexts_any (v : ByteArray) (hz : v.size ≤ 1048576) (w : World) (hv : Var0 w) :
    Calls Tryz.prog 40 #[.string v] w fun e w' => TextsR v e w' ∧ Below w.heap.size w w' := by
  rcases List.eq_nil_or_concat v.data.toList with h | ⟨b, x, h⟩
  · have hv0 : v = ByteArray.empty := bytes_eq (by rw [h]; rfl)
    subst hv0
    clear h
    go_enter Tryz.func40, Tryz.ntmps40
    go_wp2_with fail
    go_ret2
    exact ⟨⟨none, 0, 0, [], rfl, rfl, Seg.nil, rfl⟩, Below.refl _ _⟩
  · rw [List.concat_eq_append] at h
    have hvl := data_len v
    rw [h, List.length_append, List.length_singleton] at hvl
    have hne : v.toList.isEmpty = false := by
      rw [ByteArray.toList_eq, h]
      cases b <;> rfl
    have hcs := Tryz.strings_CutSuffix v ⟨#[0]⟩ w (by omega)
    have hsuf : Lib.hasSuffix v.data.toList (⟨#[0]⟩ : ByteArray).data.toList = (x == 0) := by rw [h]; exact suffix_one b x
    rw [hsuf] at hcs
    by_cases hx : x = 0
    · subst hx
      have htr : Lib.trimSuffix v.data.toList (⟨#[0]⟩ : ByteArray).data.toList = b := by
        unfold Lib.trimSuffix
        rw [hsuf, if_pos (by rfl), h]
        show List.take ((b ++ [0]).length - 1) (b ++ [0]) = b
        simp
      rw [htr] at hcs
      obtain ⟨R, hR⟩ : ∃ R : ByteArray, R = ⟨b.toArray⟩ := ⟨_, rfl⟩
      have hRb : R.data.toList = b := by rw [hR]
      rw [← hR] at hcs
      have hRz : R.size = b.length := by rw [← data_len, hRb]
      obtain ⟨mv, hmv⟩ := hv
      have hsp := Tryz.strings_Split R ⟨#[0]⟩ mv w (by omega) hmv (by show 1 ≤ 1; omega)
      obtain ⟨ps, hps⟩ : ∃ ps, ps = Lib.splitB ⟨#[0]⟩ 0 (Lib.countB R ⟨#[0]⟩) R := ⟨_, rfl⟩
      have hpl : ps.length = Lib.countB R ⟨#[0]⟩ + 1 := by rw [hps]; exact Lib.splitB_all ⟨#[0]⟩ (Nat.le_refl 1) 0 _ R rfl
      have hpd : ps.map (·.data.toList) = splitC 0 b := by rw [hps, ← hRb]; exact split_shelf 0 R
      rw [← hps, ← hpl] at hsp
      have hT : textsL v.data.toList = some (ps.map (·.data.toList)) := by rw [h, texts_body, hpd]
      have hbt : ((0 : UInt8) == 0) = true := rfl
      rw [hbt] at hcs
      obtain ⟨K, hK⟩ : ∃ K, K = ps.length := ⟨_, rfl⟩
      rw [← hK] at hsp
      have HCS := Lib.hid hcs
      have HSP := Lib.hid hsp
      have HT := Lib.hid hT
      have HK := Lib.hid hK
      clear hcs hsp hT hpd hpl hps hmv hRz hRb hR htr hsuf h hvl hbt hK
      go_enter Tryz.func40, Tryz.ntmps40
      go_wp2_with (first
        | (go_at_call 60; refine HCS.out.mono ?_; rintro e w1 ⟨rfl, rfl⟩)
        | (go_at_call 58; refine HSP.out.mono ?_; rintro e w2 ⟨rfl, hw2⟩; have HW2 := Lib.hid hw2; clear hw2))
      go_ret2
      have hb : Below w1.heap.size w1 w2 := by rw [HW2.out]; exact (Below.refl _ w1).alloc (Nat.le_refl _) _
      refine ⟨?_, hb⟩
      unfold TextsR
      rw [HT.out]
      refine ⟨_, _, _, ps, rfl, HK.out, ?_, rfl⟩
      rw [HW2.out]
      exact (seg_new w1 9 (ps.map Value.string).toArray).more (by simp)
    · have hbf : (x == 0) = false := by simpa using hx
      rw [hbf] at hcs
      have hT : textsL v.data.toList = none := by rw [h, texts_snoc, if_neg hx]
      have HCS := Lib.hid hcs
      have HT := Lib.hid hT
      clear hcs hT hsuf h hvl hbf hx
      go_enter Tryz.func40, Tryz.ntmps40
      go_wp2_with (first
        | (go_at_call 60; refine HCS.out.mono ?_; rintro e w1 ⟨rfl, rfl⟩))
      go_ret2
      refine ⟨?_, Below.refl _ _⟩
      unfold TextsR
      rw [HT.out]
      rfl
theorem info9 : (Tryz.prog.info? 9).map (fun i => (i.zero, i.size, i.bytes)) = some (some (.string ByteArray.empty), 1, 16) := by kernel_rfl
theorem heads_nil : headsC 0 ([] : List UInt8) = [] := rfl
theorem last_nil : lastC 0 ([] : List UInt8) = [] := rfl
theorem extract_list (v : ByteArray) (a b : Nat) : (v.extract a b).data.toList = (v.data.toList.drop a).take (b - a) := by
  simp [ByteArray.data_extract, Array.toList_extract, List.extract]
theorem byte_list (v : ByteArray) {i : Nat} (h : i < v.size) : v.data.toList[i]'(by rw [data_len]; exact h) = v[i] := by
  rw [Array.getElem_toList]
  rfl
end Go.Proofs.YtmdnbajbfnhecaaGreatDoor
