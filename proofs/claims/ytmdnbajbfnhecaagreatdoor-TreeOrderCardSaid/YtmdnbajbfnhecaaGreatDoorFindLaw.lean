/- Paths of a tree: the plain law. No program in sight. -/
import Derived.Test.YtmdnbajbfnhecaaGreatDoorLaw
import Derived.Lib.SplitLaws
import Derived.Lib.Join
set_option linter.unusedVariables false
namespace Go.Proofs.YtmdnbajbfnhecaaGreatDoor
/-- A node's name, its parent. -/
def nameAt (l : List Nd) (i : Nat) : List UInt8 := match l[i]? with
  | none => []
  | some x => x.n.data.toList
def parM (l : List Nd) (i : Nat) : Nat := (parAt l i).toNat
/-- The names from the root's kid down to a node. -/
def segG (l : List Nd) : Nat → Nat → List (List UInt8)
  | 0, _ => []
  | f + 1, i => if i = 0 then [] else segG l f (parM l i) ++ [nameAt l i]
def segs (l : List Nd) (i : Nat) : List (List UInt8) := segG l i i
/-- What a tree has: parents ahead, no twins, names without a stroke. -/
structure Tr (l : List Nd) : Prop where
  ups : ∀ i : Nat, 0 < i → i < l.length → 0 ≤ parAt l i ∧ parAt l i < i
  twin : ∀ i j : Nat, 0 < i → i < j → j < l.length → parAt l i = parAt l j → nameAt l i ≠ nameAt l j
  name : ∀ i : Nat, 0 < i → i < l.length → nameAt l i ≠ [] ∧ (47 : UInt8) ∉ nameAt l i
theorem Tr.par {l : List Nd} (h : Tr l) {i : Nat} (h0 : 0 < i) (hi : i < l.length) : parM l i < i ∧ parAt l i = (parM l i : Nat) := by
  have := h.ups i h0 hi
  unfold parM
  omega
theorem seg_fuel {l : List Nd} (h : Tr l) : ∀ (f g i : Nat), i < l.length → i ≤ f → i ≤ g → segG l f i = segG l g i
  | 0, g, i, hi, hf, hg => by
    obtain rfl : i = 0 := by omega
    cases g <;> simp [segG]
  | f + 1, 0, i, hi, hf, hg => by
    obtain rfl : i = 0 := by omega
    simp [segG]
  | f + 1, g + 1, i, hi, hf, hg => by
    unfold segG
    by_cases h0 : i = 0
    · rw [if_pos h0, if_pos h0]
    · rw [if_neg h0, if_neg h0]
      have := h.par (by omega) hi
      rw [seg_fuel h f g (parM l i) (by omega) (by omega) (by omega)]
theorem seg_zero (l : List Nd) : segs l 0 = [] := rfl
theorem seg_step {l : List Nd} (h : Tr l) {i : Nat} (h0 : 0 < i) (hi : i < l.length) : segs l i = segs l (parM l i) ++ [nameAt l i] := by
  unfold segs
  have := h.par h0 hi
  obtain ⟨f, rfl⟩ : ∃ f, i = f + 1 := ⟨i - 1, by omega⟩
  rw [segG, if_neg (by omega), seg_fuel h f (parM l (f + 1)) _ (by omega) (by omega) (by omega)]
/-- The kid of a name. -/
def kidF (l : List Nd) (at_ : Nat) (nm : List UInt8) : Option Nat := ((List.range l.length).drop (at_ + 1)).find? fun i => (parAt l i == (at_ : Int)) && (nameAt l i == nm)
def walkF (l : List Nd) : Nat → List (List UInt8) → Option Nat
  | at_, [] => some at_
  | at_, nm :: r => match kidF l at_ nm with
    | none => none
    | some i => walkF l i r
theorem mem_drop_range {n a i : Nat} : i ∈ (List.range n).drop a ↔ a ≤ i ∧ i < n := by
  rw [List.mem_iff_getElem]
  constructor
  · rintro ⟨k, hk, rfl⟩
    simp at hk
    simp
    omega
  · rintro ⟨h1, h2⟩
    exact ⟨i - a, by simp; omega, by simp; omega⟩
theorem kid_some {l : List Nd} {a i : Nat} {nm : List UInt8} (h : kidF l a nm = some i) : a < i ∧ i < l.length ∧ parAt l i = (a : Int) ∧ nameAt l i = nm := by
  unfold kidF at h
  have h1 := mem_drop_range.1 (List.mem_of_find?_eq_some h)
  have h2 := List.find?_some h
  simp only [Bool.and_eq_true, beq_iff_eq] at h2
  exact ⟨by omega, h1.2, h2.1, h2.2⟩
theorem kid_of {l : List Nd} (ht : Tr l) {a i : Nat} (h1 : a < i) (h2 : i < l.length) (h3 : parAt l i = (a : Int)) : kidF l a (nameAt l i) = some i := by
  cases h : kidF l a (nameAt l i) with
  | none =>
    unfold kidF at h
    rw [List.find?_eq_none] at h
    have := h i (mem_drop_range.2 ⟨by omega, h2⟩)
    simp [h3] at this
  | some j =>
    obtain ⟨b1, b2, b3, b4⟩ := kid_some h
    rcases (show i < j ∨ i = j ∨ j < i by omega) with hij | rfl | hij
    · exact absurd b4.symm (ht.twin i j (by omega) hij b2 (by rw [h3, b3]))
    · rfl
    · exact absurd b4 (ht.twin j i (by omega) hij h2 (by rw [h3, b3]))
theorem walk_append (l : List Nd) : ∀ (xs ys : List (List UInt8)) (a : Nat), walkF l a (xs ++ ys) = (walkF l a xs).bind fun b => walkF l b ys
  | [], ys, a => rfl
  | x :: xs, ys, a => by
    rw [List.cons_append, walkF, walkF]
    cases kidF l a x with
    | none => rfl
    | some i => exact walk_append l xs ys i
theorem walk_segs {l : List Nd} (ht : Tr l) : ∀ i : Nat, i < l.length → walkF l 0 (segs l i) = some i := by
  intro i
  induction i using Nat.strongRecOn with
  | ind i ih =>
    intro hi
    rcases Nat.eq_zero_or_pos i with rfl | h0
    · rfl
    · have hp := ht.par h0 hi
      rw [seg_step ht h0 hi, walk_append, ih _ hp.1 (by omega)]
      show walkF l (parM l i) [nameAt l i] = some i
      rw [walkF, kid_of ht hp.1 hi hp.2]
      rfl
theorem walk_inv {l : List Nd} (ht : Tr l) : ∀ (nms : List (List UInt8)) (a i : Nat), a < l.length → walkF l a nms = some i → i < l.length ∧ segs l i = segs l a ++ nms
  | [], a, i, ha, h => by
    injection h with h
    subst h
    exact ⟨ha, by simp⟩
  | nm :: r, a, i, ha, h => by
    rw [walkF] at h
    cases hk : kidF l a nm with
    | none => rw [hk] at h; cases h
    | some b =>
      rw [hk] at h
      obtain ⟨b1, b2, b3, b4⟩ := kid_some hk
      obtain ⟨h1, h2⟩ := walk_inv ht r b i b2 h
      have hpb : parM l b = a := by unfold parM; rw [b3]; rfl
      refine ⟨h1, ?_⟩
      rw [h2, seg_step ht (by omega) b2, hpb, b4, List.append_assoc]
      rfl
theorem segs_ok {l : List Nd} (ht : Tr l) : ∀ i : Nat, i < l.length → ∀ x ∈ segs l i, x ≠ [] ∧ (47 : UInt8) ∉ x := by
  intro i
  induction i using Nat.strongRecOn with
  | ind i ih =>
    intro hi x hx
    rcases Nat.eq_zero_or_pos i with rfl | h0
    · rw [seg_zero] at hx; cases hx
    · have hp := ht.par h0 hi
      rw [seg_step ht h0 hi, List.mem_append] at hx
      rcases hx with hx | hx
      · exact ih _ hp.1 (by omega) x hx
      · obtain rfl : x = nameAt l i := by simpa using hx
        exact ht.name i h0 hi
/-- Parted at the strokes. -/
def splitL : List UInt8 → List (List UInt8)
  | [] => [[]]
  | c :: r => if c = 47 then [] :: splitL r else match splitL r with
    | [] => [[c]]
    | h :: t => (c :: h) :: t
theorem split_ne : ∀ s : List UInt8, splitL s ≠ []
  | [], h => by cases h
  | c :: r, h => by
    unfold splitL at h
    split at h
    · cases h
    · split at h <;> cases h
theorem split_front : ∀ (x y : List UInt8), (47 : UInt8) ∉ x → splitL (x ++ 47 :: y) = x :: splitL y
  | [], y, _ => by show splitL (47 :: y) = _; rw [splitL, if_pos rfl]
  | c :: x, y, h => by
    have hc : c ≠ 47 := fun e => h (by simp [e])
    have ih := split_front x y (fun hh => h (by simp [hh]))
    show splitL (c :: (x ++ 47 :: y)) = _
    rw [splitL, if_neg hc, ih]
theorem split_one : ∀ x : List UInt8, (47 : UInt8) ∉ x → splitL x = [x]
  | [], _ => rfl
  | c :: x, h => by
    have hc : c ≠ 47 := fun e => h (by simp [e])
    rw [splitL, if_neg hc, split_one x (fun hh => h (by simp [hh]))]
/-- The names with a stroke ahead of each. -/
def strokes (xs : List (List UInt8)) : List UInt8 := xs.flatMap fun x => 47 :: x
theorem strokes_cons (x : List UInt8) (r : List (List UInt8)) : strokes (x :: r) = 47 :: (x ++ strokes r) := by unfold strokes; simp
theorem split_strokes : ∀ (x : List UInt8) (r : List (List UInt8)), (∀ y ∈ x :: r, (47 : UInt8) ∉ y) → splitL (x ++ strokes r) = x :: r
  | x, [], h => by
    show splitL (x ++ []) = _
    rw [List.append_nil, split_one x (h x (by simp))]
  | x, y :: r, h => by
    rw [strokes_cons, split_front x _ (h x (by simp)), split_strokes y r (fun z hz => h z (by simp [hz]))]
theorem strokes_split : ∀ s : List UInt8, strokes (splitL s) = 47 :: s
  | [] => rfl
  | c :: r => by
    have ih := strokes_split r
    rw [splitL]
    by_cases hc : c = 47
    · rw [if_pos hc, strokes_cons, ih, hc]; rfl
    · rw [if_neg hc]
      cases hs : splitL r with
      | nil => exact absurd hs (split_ne r)
      | cons a t =>
        rw [hs, strokes_cons] at ih
        injection ih with _ ih
        rw [strokes_cons, ← ih]
        rfl
/-- A node's path. -/
def pathL (l : List Nd) (i : Nat) : List UInt8 := if i = 0 then [47] else strokes (segs l i)
/-- The node of a path, by its names. -/
def findL (l : List Nd) (s : List UInt8) : Option Nat := match s with
  | [] => none
  | c :: r => if c = 47 then (if r = [] then some 0 else walkF l 0 (splitL r)) else none
/-- The node of a path, by the paths of all. -/
def atL (l : List Nd) (s : List UInt8) : Option Nat := (List.range l.length).find? fun i => pathL l i == s
theorem find_path {l : List Nd} (ht : Tr l) {i : Nat} (hi : i < l.length) : findL l (pathL l i) = some i := by
  unfold pathL
  by_cases h0 : i = 0
  · rw [if_pos h0, h0]; rfl
  · rw [if_neg h0]
    have hok := segs_ok ht i hi
    have hne : segs l i ≠ [] := by rw [seg_step ht (by omega) hi]; simp
    cases hs : segs l i with
    | nil => exact absurd hs hne
    | cons x r =>
      rw [hs] at hok
      rw [strokes_cons]
      unfold findL
      have hx := hok x (by simp)
      have hxr : x ++ strokes r ≠ [] := fun h => hx.1 (List.append_eq_nil_iff.1 h).1
      simp only [if_true]
      rw [if_neg hxr, split_strokes x r (fun y hy => (hok y hy).2), ← hs]
      exact walk_segs ht i hi
theorem path_find {l : List Nd} (ht : Tr l) (hl : 0 < l.length) {s : List UInt8} {i : Nat} (h : findL l s = some i) : i < l.length ∧ pathL l i = s := by
  unfold findL at h
  cases s with
  | nil => cases h
  | cons c r =>
    simp only at h
    by_cases hc : c = 47
    · rw [if_pos hc] at h
      by_cases hr : r = []
      · rw [if_pos hr] at h
        injection h with h
        subst h hc hr
        exact ⟨hl, rfl⟩
      · rw [if_neg hr] at h
        obtain ⟨h1, h2⟩ := walk_inv ht _ 0 i hl h
        rw [seg_zero, List.nil_append] at h2
        refine ⟨h1, ?_⟩
        have h0 : i ≠ 0 := fun e => by
          subst e
          exact split_ne r h2.symm
        unfold pathL
        rw [if_neg h0, h2, strokes_split, hc]
    · rw [if_neg hc] at h; cases h
/-- Both find the same. -/
theorem find_at {l : List Nd} (ht : Tr l) (hl : 0 < l.length) (s : List UInt8) : findL l s = atL l s := by
  cases h : findL l s with
  | some i =>
    obtain ⟨h1, h2⟩ := path_find ht hl h
    cases ha : atL l s with
    | none =>
      unfold atL at ha
      rw [List.find?_eq_none] at ha
      have := ha i (by simpa using h1)
      simp [h2] at this
    | some j =>
      unfold atL at ha
      have hj := List.mem_of_find?_eq_some ha
      have hp := List.find?_some ha
      simp only [beq_iff_eq] at hp
      have := find_path ht (i := j) (by simpa using hj)
      rw [hp, h] at this
      exact this
  | none =>
    cases ha : atL l s with
    | none => rfl
    | some j =>
      unfold atL at ha
      have hj := List.mem_of_find?_eq_some ha
      have hp := List.find?_some ha
      simp only [beq_iff_eq] at hp
      have := find_path ht (i := j) (by simpa using hj)
      rw [hp, h] at this
      cases this
theorem fine_tr {l : List Nd} (h : Fine l l.length) : Tr l := by
  refine ⟨fun i h0 hi => ?_, fun i j h0 hij hj hp hn => ?_, fun i h0 hi => ?_⟩
  · have hp := fine_par h (j := i) hi hi
    exact ⟨hp.2.2 h0, hp.1⟩
  · have hN := h j hj
    unfold nodeOkB at hN
    rw [List.getElem?_eq_getElem hj] at hN
    simp only [if_neg (show ¬ j = 0 by omega), Bool.and_eq_true, Bool.not_eq_true', twinB] at hN
    have ht := hN.2.2
    rw [List.any_eq_false] at ht
    have hi : i < l.length := by omega
    refine ht l[i] ?_ ?_
    · rw [List.mem_drop_iff_getElem]
      refine ⟨i - 1, ?_, ?_⟩
      · rw [List.length_take]; omega
      · rw [List.getElem_take]; congr 1; omega
    · unfold parAt at hp
      unfold nameAt at hn
      rw [Int.toNat_natCast, Int.toNat_natCast, List.getElem?_eq_getElem hi, List.getElem?_eq_getElem hj] at hp
      rw [List.getElem?_eq_getElem hi, List.getElem?_eq_getElem hj] at hn
      simp only at hp hn
      simp only [Bool.and_eq_true, beq_iff_eq, decide_eq_true_eq]
      refine ⟨hp, ?_⟩
      cases ha : l[i].n with
      | mk a => cases hb : l[j].n with
        | mk b =>
          rw [ha, hb] at hn
          simp only at hn
          congr 1
          exact Array.toList_inj.mp hn
  · have hN := h i hi
    unfold nodeOkB at hN
    unfold nameAt
    rw [List.getElem?_eq_getElem hi] at hN ⊢
    simp only [if_neg (show ¬ i = 0 by omega), Bool.and_eq_true, nameB, decide_eq_true_eq] at hN ⊢
    have hn := hN.2.1.1.1.1.1
    refine ⟨fun h0 => ?_, fun h47 => ?_⟩
    · rw [h0] at hn; simp at hn
    · have := List.all_eq_true.mp hn.2 47 h47
      revert this
      decide
/-- The document's path: the names from the root's kid down, each behind a stroke. -/
def pathD (l : List Nd) (i : Nat) : List UInt8 :=
  let s := ((above l i).dropLast.reverse).flatMap fun k => 47 :: nameAt l k.toNat
  if s = [] then [47] else s
theorem above_segs {l : List Nd} (h : Fine l l.length) : ∀ i : Nat, i < l.length → (((above l i).dropLast.reverse).map fun k => nameAt l k.toNat) = segs l i ∧ above l i ≠ [] := by
  intro i
  induction i using Nat.strongRecOn with
  | ind i ih =>
    intro hi
    have hs := above_step h (Nat.le_refl _) hi
    by_cases h0 : i = 0
    · subst h0
      have hp := fine_par h (j := 0) hi hi
      have hneg : parAt l ((0 : Nat) : Int) < 0 := by have := hp.1; omega
      rw [hs, above_neg l hneg]
      exact ⟨rfl, by simp⟩
    · obtain ⟨h1, h2⟩ := (fine_tr h).par (Nat.pos_of_ne_zero h0) hi
      obtain ⟨ha, hb⟩ := ih (parM l i) h1 (by omega)
      rw [hs, h2]
      refine ⟨?_, by simp⟩
      rw [List.dropLast_cons_of_ne_nil hb, List.reverse_cons, List.map_append, ha, seg_step (fine_tr h) (Nat.pos_of_ne_zero h0) hi]
      simp
theorem pathD_eq {l : List Nd} (h : Fine l l.length) {i : Nat} (hi : i < l.length) : pathD l i = pathL l i := by
  have h1 := (above_segs h i hi).1
  have h2 : (((above l i).dropLast.reverse).flatMap fun k => 47 :: nameAt l k.toNat) = strokes (segs l i) := by
    rw [← h1]
    unfold strokes
    rw [List.flatMap_map]
  unfold pathD pathL
  rw [h2]
  by_cases h0 : i = 0
  · subst h0
    rw [if_pos rfl, seg_zero]
    rfl
  · rw [if_neg h0]
    dsimp only
    rw [if_neg]
    rw [seg_step (fine_tr h) (Nat.pos_of_ne_zero h0) hi]
    unfold strokes
    simp
def atD (l : List Nd) (s : List UInt8) : Option Nat := (List.range l.length).find? fun i => pathD l i == s
theorem find_congr {α : Type} {p q : α → Bool} : ∀ (l : List α), (∀ x ∈ l, p x = q x) → l.find? p = l.find? q
  | [], _ => rfl
  | x :: r, h => by
    rw [List.find?_cons, List.find?_cons, h x (List.mem_cons_self ..), find_congr r fun y hy => h y (List.mem_cons_of_mem _ hy)]
theorem find_doc {l : List Nd} (h : Fine l l.length) (hl : 0 < l.length) (s : List UInt8) : findL l s = atD l s := by
  rw [find_at (fine_tr h) hl]
  unfold atL atD
  exact find_congr _ fun i hi => by rw [pathD_eq h (List.mem_range.mp hi)]
/-! The shelf's parting, by one byte. -/
def splitC (c : UInt8) : List UInt8 → List (List UInt8)
  | [] => [[]]
  | b :: r => if b = c then [] :: splitC c r else match splitC c r with
    | [] => [[b]]
    | h :: t => (b :: h) :: t
theorem splitC_47 : ∀ s : List UInt8, splitC 47 s = splitL s
  | [] => rfl
  | b :: r => by rw [splitC, splitL, splitC_47 r]
theorem splitC_ne (c : UInt8) : ∀ s : List UInt8, splitC c s ≠ []
  | [], h => by cases h
  | b :: r, h => by
    unfold splitC at h
    split at h
    · cases h
    · split at h <;> cases h
theorem splitC_snoc (c : UInt8) : ∀ s : List UInt8, splitC c (s ++ [c]) = splitC c s ++ [[]]
  | [] => by simp [splitC]
  | b :: r => by
    show splitC c (b :: (r ++ [c])) = _
    rw [splitC, splitC, splitC_snoc c r]
    by_cases h : b = c
    · rw [if_pos h, if_pos h]; rfl
    · rw [if_neg h, if_neg h]
      cases hs : splitC c r with
      | nil => exact absurd hs (splitC_ne c r)
      | cons a t => rfl
theorem index_hit (c b : UInt8) (l : List UInt8) : Lib.index (b :: l) [c] = if b = c then 0 else if Lib.index l [c] = -1 then -1 else Lib.index l [c] + 1 := by
  rw [Lib.index]
  by_cases h : b = c
  · subst h; simp [List.isPrefixOf]
  · have h' : ([c].isPrefixOf (b :: l)) = false := by simp [List.isPrefixOf, Ne.symm h]
    rw [h', if_neg h]
    simp
theorem splitK_one (c : UInt8) : ∀ s : List UInt8, Lib.splitK [c] 0 (s.count c) s = splitC c s
  | [] => rfl
  | b :: r => by
    have ih := splitK_one c r
    rw [splitC]
    by_cases h : b = c
    · subst h
      rw [List.count_cons_self, if_pos rfl, Lib.splitK, index_hit, if_pos rfl, if_neg (by decide)]
      simp only [Int.toNat_zero, Nat.add_zero, List.take_zero, List.length_singleton, Nat.zero_add, List.drop_succ_cons, List.drop_zero]
      rw [ih]
    · rw [List.count_cons_of_ne (by simpa using h), if_neg h, ← ih]
      cases hk : r.count c with
      | zero => rfl
      | succ k =>
        rw [Lib.splitK, Lib.splitK, index_hit, if_neg h]
        have hg := Lib.index_ge r [c]
        by_cases hm : Lib.index r [c] = -1
        · rw [if_pos hm, hm]; rfl
        · rw [if_neg hm]
          obtain ⟨n, hn⟩ := Int.eq_ofNat_of_zero_le (show 0 ≤ Lib.index r [c] by omega)
          have e1 : ((Lib.index r [c] + 1) == -1) = false := by rw [beq_eq_false_iff_ne]; omega
          have e2 : ((Lib.index r [c]) == -1) = false := by rw [beq_eq_false_iff_ne]; omega
          have e3 : (Lib.index r [c] + 1).toNat = n + 1 := by omega
          have e4 : (Lib.index r [c]).toNat = n := by omega
          rw [e1, e2, e3, e4]
          simp only [Bool.false_eq_true, if_false, Nat.add_zero, List.length_singleton, List.take_succ_cons, List.drop_succ_cons]
theorem split_shelf (c : UInt8) (s : ByteArray) : (Lib.splitB ⟨#[c]⟩ 0 (Lib.countB s ⟨#[c]⟩) s).map (·.data.toList) = splitC c s.data.toList := by
  rw [Lib.splitB_data]
  have h : Lib.countB s ⟨#[c]⟩ = s.data.toList.count c := Lib.count_one c s.data.toList
  rw [h]
  exact splitK_one c _
/-! A value's texts: parted at a byte, from the left. -/
def lastC (c : UInt8) (s : List UInt8) : List UInt8 := (splitC c s).getLast (splitC_ne c s)
def headsC (c : UInt8) (s : List UInt8) : List (List UInt8) := (splitC c s).dropLast
theorem heads_last (c : UInt8) (s : List UInt8) : splitC c s = headsC c s ++ [lastC c s] := (List.dropLast_concat_getLast (splitC_ne c s)).symm
theorem parts_eq {c : UInt8} {s : List UInt8} {a : List (List UInt8)} {b : List UInt8} (h : splitC c s = a ++ [b]) : headsC c s = a ∧ lastC c s = b := by
  unfold headsC lastC
  constructor
  · rw [h, List.dropLast_concat]
  · simp only [h, List.getLast_concat]
theorem parts_sep (c : UInt8) (s : List UInt8) : headsC c (s ++ [c]) = headsC c s ++ [lastC c s] ∧ lastC c (s ++ [c]) = [] := by
  apply parts_eq
  rw [splitC_snoc, ← heads_last]
theorem splitC_push (c b : UInt8) (hb : b ≠ c) : ∀ s : List UInt8, splitC c (s ++ [b]) = headsC c s ++ [lastC c s ++ [b]]
  | [] => by
    show splitC c [b] = [] ++ [[] ++ [b]]
    simp [splitC, hb]
  | x :: r => by
    have ih := splitC_push c b hb r
    have hl := heads_last c r
    show splitC c (x :: (r ++ [b])) = _
    rw [splitC, ih]
    by_cases hx : x = c
    · rw [if_pos hx]
      have h2 : splitC c (x :: r) = ([] :: headsC c r) ++ [lastC c r] := by rw [splitC, if_pos hx, hl]; rfl
      rw [(parts_eq h2).1, (parts_eq h2).2]
      rfl
    · rw [if_neg hx]
      cases hh : headsC c r with
      | nil =>
        rw [hh] at hl
        have h2 : splitC c (x :: r) = [] ++ [x :: lastC c r] := by rw [splitC, if_neg hx, hl]; rfl
        rw [(parts_eq h2).1, (parts_eq h2).2]
        rfl
      | cons y t =>
        rw [hh] at hl
        have h2 : splitC c (x :: r) = ((x :: y) :: t) ++ [lastC c r] := by rw [splitC, if_neg hx, hl]; rfl
        rw [(parts_eq h2).1, (parts_eq h2).2]
        rfl
theorem parts_push (c b : UInt8) (hb : b ≠ c) (s : List UInt8) : headsC c (s ++ [b]) = headsC c s ∧ lastC c (s ++ [b]) = lastC c s ++ [b] := parts_eq (splitC_push c b hb s)
theorem last_suffix (c : UInt8) : ∀ s : List UInt8, lastC c s <:+ s
  | [] => ⟨[], rfl⟩
  | x :: r => by
    obtain ⟨p, hp⟩ := last_suffix c r
    have hl := heads_last c r
    by_cases hx : x = c
    · have h2 : splitC c (x :: r) = ([] :: headsC c r) ++ [lastC c r] := by rw [splitC, if_pos hx, hl]; rfl
      rw [(parts_eq h2).2]
      exact ⟨x :: p, by rw [List.cons_append, hp]⟩
    · cases hh : headsC c r with
      | nil =>
        rw [hh] at hl
        have h2 : splitC c (x :: r) = [] ++ [x :: lastC c r] := by rw [splitC, if_neg hx, hl]; rfl
        have h3 : splitC c r = [lastC c r] := hl
        have h4 : lastC c r = r := by
          have : (lastC c r) = r := by
            have hj : ∀ (s : List UInt8) (y : List UInt8), splitC c s = [y] → y = s := by
              intro s
              induction s with
              | nil => intro y h; simpa [splitC] using h.symm
              | cons z q ihq =>
                intro y h
                rw [splitC] at h
                by_cases hz : z = c
                · rw [if_pos hz] at h
                  injection h with _ h
                  exact absurd h (splitC_ne c q)
                · rw [if_neg hz] at h
                  cases hq : splitC c q with
                  | nil => exact absurd hq (splitC_ne c q)
                  | cons a t =>
                    rw [hq] at h
                    injection h with h1 h5
                    rw [h5] at hq
                    rw [← h1, ihq a hq]
            exact hj r _ h3
          exact this
        rw [(parts_eq h2).2, h4]
        exact ⟨[], rfl⟩
      | cons y t =>
        rw [hh] at hl
        have h2 : splitC c (x :: r) = ((x :: y) :: t) ++ [lastC c r] := by rw [splitC, if_neg hx, hl]; rfl
        rw [(parts_eq h2).2]
        exact ⟨x :: p, by rw [List.cons_append, hp]⟩
/-- A value's texts, each ended by a zero; none: it does not end so. -/
def textsL (v : List UInt8) : Option (List (List UInt8)) := match v.getLast? with
  | none => some []
  | some b => if b = 0 then some (headsC 0 v) else none
theorem texts_body (b : List UInt8) : textsL (b ++ [0]) = some (splitC 0 b) := by
  unfold textsL
  rw [List.getLast?_concat]
  simp only [if_true]
  rw [(parts_sep 0 b).1, ← heads_last]
def textL (v : List UInt8) : Option (List UInt8) := match textsL v with
  | some [x] => some x
  | _ => none
/-! The program's path: the names from a node up, turned, joined by strokes. -/
def upG (l : List Nd) : Nat → Nat → List (List UInt8)
  | 0, _ => []
  | f + 1, i => if i = 0 then [] else nameAt l i :: upG l f (parM l i)
theorem up_seg (l : List Nd) : ∀ (f i : Nat), (upG l f i).reverse = segG l f i
  | 0, _ => rfl
  | f + 1, i => by
    rw [upG, segG]
    by_cases h : i = 0
    · rw [if_pos h, if_pos h]; rfl
    · rw [if_neg h, if_neg h, List.reverse_cons, up_seg l f]
theorem join_strokes : ∀ xs : List (List UInt8), xs ≠ [] → 47 :: Lib.join xs [47] = strokes xs
  | [], h => absurd rfl h
  | [x], _ => by simp [Lib.join, strokes, List.intercalate]
  | x :: y :: r, _ => by
    have ih := join_strokes (y :: r) (by simp)
    have e : Lib.join (x :: y :: r) [47] = x ++ 47 :: Lib.join (y :: r) [47] := by
      simp [Lib.join, List.intercalate, List.intersperse]
    rw [e, ih, strokes_cons x (y :: r)]
theorem path_join {l : List Nd} (ht : Tr l) {i : Nat} (h0 : 0 < i) (hi : i < l.length) : 47 :: Lib.join ((upG l i i).reverse) [47] = pathL l i := by
  rw [up_seg, show segG l i i = segs l i from rfl, join_strokes]
  · unfold pathL
    rw [if_neg (by omega)]
  · rw [seg_step ht h0 hi]; simp
theorem segG_len (l : List Nd) : ∀ (f i : Nat), (segG l f i).length ≤ f
  | 0, _ => Nat.le_refl _
  | f + 1, i => by
    rw [segG]
    split
    · exact Nat.zero_le _
    · have := segG_len l f (parM l i)
      rw [List.length_append, List.length_singleton]
      omega
theorem strokes_len : ∀ (xs : List (List UInt8)) (b : Nat), (∀ x ∈ xs, x.length ≤ b) → (strokes xs).length ≤ xs.length * (b + 1)
  | [], _, _ => by simp [strokes]
  | x :: r, b, h => by
    have ih := strokes_len r b fun y hy => h y (List.mem_cons_of_mem _ hy)
    have hx := h x (List.mem_cons_self ..)
    rw [strokes_cons, List.length_cons, List.length_append, List.length_cons, Nat.add_mul]
    omega
end Go.Proofs.YtmdnbajbfnhecaaGreatDoor
