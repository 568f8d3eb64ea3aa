/- Names in order: the plain law. No program in sight. -/
import Derived.Test.YtmdnbajbfnhecaaGreatDoorLaw
import Derived.Lib.Bytealg
import Derived.Sort.Statements
set_option linter.unusedVariables false
namespace Go.Proofs.YtmdnbajbfnhecaaGreatDoor
open Go Go.Lib Go.Sort
def ltN (a b : List UInt8) : Bool := decide (compareBytes a b < 0)
theorem cmp_neg : ∀ a b : List UInt8, compareBytes b a = - compareBytes a b
  | [], [] => rfl
  | [], _ :: _ => rfl
  | _ :: _, [] => rfl
  | x :: a, y :: b => by
    rw [compareBytes, compareBytes]
    by_cases h1 : x < y
    · have h2 : ¬ y < x := fun h => by have h3 := UInt8.lt_iff_toNat_lt.mp h; have h4 := UInt8.lt_iff_toNat_lt.mp h1; omega
      rw [if_pos h1, if_neg h2, if_pos h1]; rfl
    · by_cases h2 : y < x
      · rw [if_pos h2, if_neg h1, if_pos h2]
      · rw [if_neg h2, if_neg h1, if_neg h1, if_neg h2, cmp_neg a b]
theorem byte_eq {x y : UInt8} (h1 : ¬ x < y) (h2 : ¬ y < x) : x = y := by
  rw [UInt8.lt_iff_toNat_lt] at h1 h2
  exact UInt8.toNat_inj.mp (by omega)
theorem cmp_zero : ∀ a b : List UInt8, compareBytes a b = 0 ↔ a = b
  | [], [] => ⟨fun _ => rfl, fun _ => rfl⟩
  | [], _ :: _ => ⟨fun h => absurd h (by rw [compareBytes]; decide), fun h => absurd h (by simp)⟩
  | _ :: _, [] => ⟨fun h => absurd h (by rw [compareBytes]; decide), fun h => absurd h (by simp)⟩
  | x :: a, y :: b => by
    rw [compareBytes]
    by_cases h1 : x < y
    · rw [if_pos h1]
      refine ⟨fun h => absurd h (by decide), fun h => ?_⟩
      injection h with h _
      subst h
      exact absurd (UInt8.lt_iff_toNat_lt.mp h1) (Nat.lt_irrefl _)
    · rw [if_neg h1]
      by_cases h2 : y < x
      · rw [if_pos h2]
        refine ⟨fun h => absurd h (by decide), fun h => ?_⟩
        injection h with h _
        subst h
        exact absurd (UInt8.lt_iff_toNat_lt.mp h2) (Nat.lt_irrefl _)
      · rw [if_neg h2, cmp_zero a b, byte_eq h1 h2]
        simp
theorem cmp_trans : ∀ a b c : List UInt8, compareBytes a b < 0 → compareBytes b c < 0 → compareBytes a c < 0
  | [], [], _, h, _ => absurd h (by decide)
  | [], _ :: _, [], _, h => absurd h (by rw [compareBytes]; decide)
  | [], _ :: _, _ :: _, _, _ => by rw [compareBytes]; decide
  | _ :: _, [], _, h, _ => absurd h (by rw [compareBytes]; decide)
  | _ :: _, _ :: _, [], _, h => absurd h (by rw [compareBytes]; decide)
  | x :: a, y :: b, z :: c, h1, h2 => by
    rw [compareBytes] at h1 h2 ⊢
    have hxy : x.toNat < y.toNat ∨ x = y ∧ compareBytes a b < 0 := by
      by_cases h : x < y
      · exact .inl (UInt8.lt_iff_toNat_lt.mp h)
      · rw [if_neg h] at h1
        by_cases h' : y < x
        · rw [if_pos h'] at h1; omega
        · rw [if_neg h'] at h1; exact .inr ⟨byte_eq h h', h1⟩
    have hyz : y.toNat < z.toNat ∨ y = z ∧ compareBytes b c < 0 := by
      by_cases h : y < z
      · exact .inl (UInt8.lt_iff_toNat_lt.mp h)
      · rw [if_neg h] at h2
        by_cases h' : z < y
        · rw [if_pos h'] at h2; omega
        · rw [if_neg h'] at h2; exact .inr ⟨byte_eq h h', h2⟩
    by_cases hxz : x < z
    · rw [if_pos hxz]; decide
    · rw [if_neg hxz]
      have hn : ¬ x.toNat < z.toNat := fun h => hxz (UInt8.lt_iff_toNat_lt.mpr h)
      rcases hxy with h | ⟨e1, h⟩ <;> rcases hyz with h' | ⟨e2, h'⟩
      · omega
      · subst e2; omega
      · subst e1; omega
      · subst e1; subst e2
        rw [if_neg hxz]
        exact cmp_trans a b c h h'
theorem ltN_total {a b : List UInt8} (h : a ≠ b) : ltN a b = true ∨ ltN b a = true := by
  unfold ltN
  have h0 : ¬ compareBytes a b = 0 := fun e => h ((cmp_zero a b).mp e)
  have hn := cmp_neg a b
  simp only [decide_eq_true_eq]
  omega
theorem ltN_asymm {a b : List UInt8} (h : ltN a b = true) : ltN b a = false := by
  unfold ltN at *
  simp only [decide_eq_true_eq, decide_eq_false_iff_not] at *
  have hn := cmp_neg a b
  omega
theorem ltN_swo : SWO ltN where
  irrefl := fun x => by unfold ltN; rw [(cmp_zero x x).mpr rfl]; rfl
  trans := fun x y z h1 h2 => by
    unfold ltN at *
    simp only [decide_eq_true_eq] at *
    exact cmp_trans x y z h1 h2
  ntrans := fun x y z h1 h2 => by
    by_cases e1 : x = y
    · rw [e1]; exact h2
    by_cases e2 : y = z
    · rw [← e2]; exact h1
    have h3 : ltN y x = true := by rcases ltN_total e1 with h | h <;> simp_all
    have h4 : ltN z y = true := by rcases ltN_total e2 with h | h <;> simp_all
    apply ltN_asymm
    unfold ltN at *
    simp only [decide_eq_true_eq] at *
    exact cmp_trans z y x h4 h3
theorem key_swo {α : Type} (k : α → List UInt8) : SWO (fun x y => ltN (k x) (k y)) where
  irrefl := fun x => ltN_swo.irrefl _
  trans := fun x y z => ltN_swo.trans _ _ _
  ntrans := fun x y z => ltN_swo.ntrans _ _ _
/-- In order and of one stock: the same list. -/
theorem sorted_unique {α : Type} {lt : α → α → Bool} (hA : ∀ x y, lt x y = true → lt y x = false) (hI : ∀ x, lt x x = false) : ∀ (a b : List α), a.Perm b → a.Pairwise (fun x y => lt x y = true) → b.Pairwise (fun x y => lt x y = true) → a = b
  | [], b, hp, _, _ => hp.nil_eq
  | x :: a, [], hp, _, _ => absurd hp.eq_nil (by simp)
  | x :: a, y :: b, hp, ha, hb => by
    rw [List.pairwise_cons] at ha hb
    have hxy : x = y := by
      have h1 : x ∈ y :: b := hp.subset (List.mem_cons_self ..)
      have h2 : y ∈ x :: a := hp.symm.subset (List.mem_cons_self ..)
      rcases List.mem_cons.mp h1 with h | h
      · exact h
      rcases List.mem_cons.mp h2 with h' | h'
      · exact h'.symm
      have h3 := hb.1 x h
      have h4 := ha.1 y h'
      rw [hA _ _ h4] at h3
      cases h3
    subst hxy
    rw [sorted_unique hA hI a b ((List.perm_cons x).mp hp) ha.2 hb.2]
/-! Put in order by a key. -/
section
variable {α : Type} (k : α → List UInt8)
def ltK (x y : α) : Bool := ltN (k x) (k y)
def Up (l : List α) : Prop := l.Pairwise fun x y => ltK k x y = true
def Apart (l : List α) : Prop := l.Pairwise fun x y => k x ≠ k y
def insN (x : α) : List α → List α
  | [] => [x]
  | y :: r => if ltK k x y then x :: y :: r else y :: insN x r
def sortN : List α → List α
  | [] => []
  | x :: r => insN k x (sortN r)
theorem ins_perm (x : α) : ∀ l : List α, (insN k x l).Perm (x :: l)
  | [] => .refl _
  | y :: r => by
    rw [insN]
    split
    · exact .refl _
    · exact ((ins_perm x r).cons y).trans (.swap x y r)
theorem ins_up (x : α) : ∀ l : List α, Up k l → (∀ y ∈ l, k y ≠ k x) → Up k (insN k x l)
  | [], _, _ => List.pairwise_singleton _ _
  | y :: r, h, hx => by
    unfold Up at *
    rw [List.pairwise_cons] at h
    rw [insN]
    split
    · next hl =>
      rw [List.pairwise_cons, List.pairwise_cons]
      refine ⟨fun z hz => ?_, h⟩
      rcases List.mem_cons.mp hz with e | hz
      · rw [e]; exact hl
      · exact ltN_swo.trans _ _ _ hl (h.1 z hz)
    · next hl =>
      rw [List.pairwise_cons]
      refine ⟨fun z hz => ?_, ins_up x r h.2 fun z hz => hx z (List.mem_cons_of_mem _ hz)⟩
      rcases List.mem_cons.mp ((ins_perm k x r).subset hz) with e | hz
      · rw [e]
        rcases ltN_total (hx y (List.mem_cons_self ..)) with h1 | h1
        · exact h1
        · exact absurd h1 hl
      · exact h.1 z hz
theorem sort_ok : ∀ l : List α, Apart k l → (sortN k l).Perm l ∧ Up k (sortN k l)
  | [], _ => ⟨.refl _, List.Pairwise.nil⟩
  | x :: r, h => by
    unfold Apart at h
    rw [List.pairwise_cons] at h
    obtain ⟨h1, h2⟩ := sort_ok r h.2
    refine ⟨(ins_perm k x _).trans (h1.cons x), ins_up k x _ h2 fun y hy => (h.1 y (h1.subset hy)).symm⟩
theorem sort_is {l R : List α} (h : Apart k l) (hp : R.Perm l) (hu : Up k R) : R = sortN k l :=
  sorted_unique (fun _ _ => ltN_asymm) (fun _ => ltN_swo.irrefl _) R _ (hp.trans (sort_ok k l h).1.symm) hu (sort_ok k l h).2
/-- The document's way: a new one goes down from the end, as long as it is lower. -/
theorem bubble {l : List α} {x : α} {m : Nat} (h : Up k l) (hx : ∀ y ∈ l, k y ≠ k x) (hd : ∀ y ∈ l.drop m, ltK k x y = true) (hml : m ≤ l.length) (hm : ∀ y, 0 < m → l[m - 1]? = some y → ltK k x y = false) : Up k (l.take m ++ x :: l.drop m) := by
  unfold Up at *
  rw [List.pairwise_append, List.pairwise_cons]
  refine ⟨h.sublist (List.take_sublist ..), ⟨hd, h.sublist (List.drop_sublist ..)⟩, fun a ha b hb => ?_⟩
  have hax : ltK k a x = true := by
    rcases Nat.eq_zero_or_pos m with h0 | h0
    · subst h0; simp at ha
    obtain ⟨i, hi, rfl⟩ := List.mem_iff_getElem.mp ha
    rw [List.length_take] at hi
    rw [List.getElem_take]
    · have hz := hm l[m - 1] h0 (List.getElem?_eq_getElem (by omega))
      have hzx : ltK k l[m - 1] x = true := by
        rcases ltN_total (hx l[m - 1] (List.getElem_mem ..)) with h1 | h1
        · exact h1
        · exact absurd h1 (by unfold ltK at hz; rw [hz]; decide)
      by_cases hie : i = m - 1
      · subst hie; exact hzx
      · exact ltN_swo.trans _ _ _ (List.pairwise_iff_getElem.mp h i (m - 1) (by omega) (by omega) (by omega)) hzx
  rcases List.mem_cons.mp hb with e | hb
  · rw [e]; exact hax
  · exact ltN_swo.trans _ _ _ hax (hd b hb)
theorem bubble_perm (l : List α) (x : α) (m : Nat) : (l.take m ++ x :: l.drop m).Perm (l ++ [x]) := by
  refine List.perm_middle.trans ?_
  rw [List.take_append_drop]
  exact (List.perm_append_singleton x l).symm
theorem up_of_sorted {d : Array α} [Inhabited α] (hs : SortedIn (ltK k) 0 d.size d) (ha : Apart k d.toList) : Up k d.toList := by
  unfold Up
  unfold Apart at ha
  rw [List.pairwise_iff_getElem] at ha ⊢
  intro i j hi hj hij
  have h1 := hs i j (Nat.zero_le _) hij (by simpa using hj)
  rcases ltN_total (ha i j hi hj hij) with h | h
  · exact h
  · exfalso
    rw [getElem!_pos d j (by simpa using hj), getElem!_pos d i (by simpa using hi)] at h1
    simp only [Array.getElem_toList] at h
    unfold ltK at h1
    rw [h1] at h
    cases h
end
/-! A tree in order: what both sides compute. -/
def nameN (l : List Nd) (i : Nat) : List UInt8 := match l[i]? with
  | none => []
  | some x => x.n.data.toList
def bareN (l : List Nd) (i : Nat) : ByteArray := match l[i]? with
  | none => ByteArray.empty
  | some x => x.n
def propsN (l : List Nd) (i : Nat) : List Pr := match l[i]? with
  | none => []
  | some x => x.ps
/-- A node's kids, in the list's order. -/
def kidsN (l : List Nd) (i : Nat) : List Nat := ((List.range l.length).drop (i + 1)).filter fun k => parAt l k == (i : Int)
theorem kidsN_mem {l : List Nd} {i k : Nat} (h : k ∈ kidsN l i) : i < k ∧ k < l.length ∧ parAt l k = (i : Int) := by
  unfold kidsN at h
  rw [List.mem_filter, List.mem_drop_iff_getElem] at h
  obtain ⟨⟨j, hj, rfl⟩, h2⟩ := h
  simp only [List.length_range] at hj
  simp only [List.getElem_range, beq_iff_eq] at h2 ⊢
  exact ⟨by omega, by omega, h2⟩
def ordKids (rec : Nat → Nat → List Nd) : List Nat → Nat → List Nd
  | [], _ => []
  | k :: r, b => rec k b ++ ordKids rec r (b + (rec k b).length)
def ordF (l : List Nd) : Nat → Nat → Int → Nat → List Nd
  | 0, _, _, _ => []
  | f + 1, i, par, b => { p := par, n := bareN l i, ps := sortN (fun q : Pr => q.n.data.toList) (propsN l i) } :: ordKids (fun k c => ordF l f k b c) (sortN (nameN l) (kidsN l i)) (b + 1)
theorem ordKids_congr {f g : Nat → Nat → List Nd} : ∀ (ks : List Nat) (b : Nat), (∀ k ∈ ks, ∀ c, f k c = g k c) → ordKids f ks b = ordKids g ks b
  | [], _, _ => rfl
  | k :: r, b, h => by
    rw [ordKids, ordKids, h k (List.mem_cons_self ..) b, ordKids_congr r _ fun x hx => h x (List.mem_cons_of_mem _ hx)]
theorem sort_mem {α : Type} (k : α → List UInt8) : ∀ (l : List α) (x : α), x ∈ sortN k l → x ∈ l
  | [], _, h => h
  | y :: r, x, h => by
    rcases List.mem_cons.mp ((ins_perm k y _).subset h) with e | h
    · rw [e]; exact List.mem_cons_self ..
    · exact List.mem_cons_of_mem _ (sort_mem k r x h)
theorem ordF_fuel (l : List Nd) : ∀ (f g i : Nat) (par : Int) (b : Nat), i < l.length → l.length ≤ i + f → l.length ≤ i + g → ordF l f i par b = ordF l g i par b
  | 0, _, _, _, _, h, h1, _ => by omega
  | _ + 1, 0, _, _, _, h, _, h2 => by omega
  | f + 1, g + 1, i, par, b, h, h1, h2 => by
    rw [ordF, ordF]
    congr 1
    refine ordKids_congr _ _ fun k hk c => ?_
    obtain ⟨h3, h4, _⟩ := kidsN_mem (sort_mem _ _ _ hk)
    exact ordF_fuel l f g k b c h4 (by omega) (by omega)
def ordN (l : List Nd) (i : Nat) (par : Int) (b : Nat) : List Nd := ordF l (l.length - i) i par b
theorem ordN_step (l : List Nd) (i : Nat) (par : Int) (b : Nat) (h : i < l.length) :
    ordN l i par b = { p := par, n := bareN l i, ps := sortN (fun q : Pr => q.n.data.toList) (propsN l i) } :: ordKids (fun k c => ordN l k b c) (sortN (nameN l) (kidsN l i)) (b + 1) := by
  unfold ordN
  obtain ⟨f, hf⟩ : ∃ f, l.length - i = f + 1 := ⟨l.length - i - 1, by omega⟩
  rw [hf, ordF]
  congr 1
  refine ordKids_congr _ _ fun k hk c => ?_
  obtain ⟨h3, h4, _⟩ := kidsN_mem (sort_mem _ _ _ hk)
  exact ordF_fuel l f (l.length - k) k b c h4 (by omega) (by omega)
/-- A tree in order. -/
def sortedL (l : List Nd) : List Nd := ordN l 0 (-1) 0
/-- The kids found so far, as the program lays them. -/
def kidsT (l : List Nd) (n : Nat) (p : Nat) : List Nat := (List.range n).filter fun k => decide (0 < k) && (parAt l k == (p : Int))
theorem kidsT_zero (l : List Nd) (p : Nat) : kidsT l 0 p = [] := rfl
theorem kidsT_one (l : List Nd) (p : Nat) : kidsT l 1 p = [] := by simp [kidsT, List.range_succ]
theorem kidsT_step (l : List Nd) (n p : Nat) (h : 0 < n) : kidsT l (n + 1) p = if parAt l n = (p : Int) then kidsT l n p ++ [n] else kidsT l n p := by
  unfold kidsT
  rw [List.range_succ, List.filter_append]
  by_cases hp : parAt l n = (p : Int)
  · rw [if_pos hp]
    simp [h, hp]
  · rw [if_neg hp]
    simp [h, hp]
theorem kidsT_all {l : List Nd} (ups : ∀ i : Nat, 0 < i → i < l.length → 0 ≤ parAt l i ∧ parAt l i < i) (p : Nat) : kidsT l l.length p = kidsN l p := by
  unfold kidsT kidsN
  have h1 : (List.range l.length) = (List.range l.length).take (p + 1) ++ (List.range l.length).drop (p + 1) := (List.take_append_drop ..).symm
  conv => lhs; rw [h1]
  rw [List.filter_append]
  have h2 : ((List.range l.length).take (p + 1)).filter (fun k : Nat => decide (0 < k) && (parAt l (k : Int) == (p : Int))) = [] := by
    rw [List.filter_eq_nil_iff]
    intro k hk hc
    rw [List.take_range, List.mem_range] at hk
    simp only [Bool.and_eq_true, decide_eq_true_eq, beq_iff_eq] at hc
    have := ups k hc.1 (by omega)
    omega
  rw [h2, List.nil_append]
  refine List.filter_congr fun k hk => ?_
  rw [List.mem_drop_iff_getElem] at hk
  obtain ⟨j, hj, rfl⟩ := hk
  simp only [List.getElem_range]
  have : 0 < p + 1 + j := by omega
  simp [this]
theorem kids_apart {l : List Nd} (twin : ∀ i j : Nat, 0 < i → i < j → j < l.length → parAt l i = parAt l j → nameN l i ≠ nameN l j) (p : Nat) : Apart (nameN l) (kidsN l p) := by
  unfold Apart
  have h1 : (kidsN l p).Pairwise (· < ·) := by
    unfold kidsN
    exact (List.pairwise_lt_range.sublist (List.drop_sublist ..)).sublist List.filter_sublist
  refine h1.imp_of_mem fun {a b} ha hb hab => ?_
  obtain ⟨h2, h3, h4⟩ := kidsN_mem ha
  obtain ⟨h5, h6, h7⟩ := kidsN_mem hb
  exact twin a b (by omega) hab h6 (by rw [h4, h7])
theorem props_apart {ps : List Pr} (h : propsB ps = true) : Apart (fun q : Pr => q.n.data.toList) ps := by
  unfold Apart
  rw [List.pairwise_iff_getElem]
  intro i j hi hj hij he
  unfold propsB at h
  simp only [Bool.and_eq_true] at h
  have h1 := all_range.mp h.2 j hj
  rw [prop_some hj] at h1
  simp only [Bool.and_eq_true] at h1
  have h2 := List.all_eq_true.mp h1.2 ps[i] (by
    rw [List.mem_take_iff_getElem]
    exact ⟨i, by omega, rfl⟩)
  simp only [Bool.not_eq_true', decide_eq_false_iff_not] at h2
  apply h2
  cases ha : ps[i].n with
  | mk a => cases hb : ps[j].n with
    | mk b =>
      simp only at he
      rw [ha, hb] at he
      simp only at he
      congr 1
      exact Array.toList_inj.mp he
end Go.Proofs.YtmdnbajbfnhecaaGreatDoor
