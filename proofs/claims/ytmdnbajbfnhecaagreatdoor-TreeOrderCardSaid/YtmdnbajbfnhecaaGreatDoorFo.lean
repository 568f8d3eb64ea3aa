/- A tree's list as a forest: what hangs where; in order; a node taken out and put back. -/
import Derived.Test.YtmdnbajbfnhecaaGreatDoorPathLaw
import Derived.Test.YtmdnbajbfnhecaaGreatDoorSortLaw
import Derived.Test.YtmdnbajbfnhecaaGreatDoorGrMem
set_option linter.unusedVariables false
namespace Go.Proofs.YtmdnbajbfnhecaaGreatDoor
/-- A row of trees: a node's name and props, its kids, and what stands behind it. -/
inductive Fo
  | nil
  | cons (n : ByteArray) (ps : List Pr) (k s : Fo)
def Fo.sz : Fo → Nat
  | .nil => 0
  | .cons _ _ k s => 1 + k.sz + s.sz
def flat : Fo → Int → Nat → List Nd
  | .nil, _, _ => []
  | .cons n ps k s, p, b => ⟨p, n, ps⟩ :: (flat k (b : Int) (b + 1) ++ flat s p (b + 1 + k.sz))
theorem flat_len : ∀ (F : Fo) (p : Int) (b : Nat), (flat F p b).length = F.sz
  | .nil, _, _ => rfl
  | .cons n ps k s, p, b => by
    simp only [flat, List.length_cons, List.length_append, flat_len k, flat_len s, Fo.sz]
    omega
/-- A forest lies in a list from b on. -/
def Lie (l : List Nd) : Fo → Int → Nat → Prop
  | .nil, _, _ => True
  | .cons n ps k s, p, b => l[b]? = some ⟨p, n, ps⟩ ∧ Lie l k (b : Int) (b + 1) ∧ Lie l s p (b + 1 + k.sz)
theorem Lie.le {l : List Nd} : ∀ {F : Fo} {p : Int} {b : Nat}, Lie l F p b → b ≤ l.length → b + F.sz ≤ l.length
  | .nil, _, _, _, hb => hb
  | .cons n ps k s, p, b, h, hb => by
    obtain ⟨h1, h2, h3⟩ := h
    have hlt : b < l.length := by
      rcases Nat.lt_or_ge b l.length with h | h
      · exact h
      · rw [List.getElem?_eq_none h] at h1; cases h1
    have := h2.le (by omega)
    have := h3.le (by omega)
    simp only [Fo.sz]
    omega
theorem lie_flat {l : List Nd} : ∀ {F : Fo} {p : Int} {b : Nat}, Lie l F p b → (l.drop b).take F.sz = flat F p b
  | .nil, _, _, _ => by simp [Fo.sz, flat]
  | .cons n ps k s, p, b, h => by
    obtain ⟨h1, h2, h3⟩ := h
    obtain ⟨hlt, he⟩ := List.getElem?_eq_some_iff.1 h1
    rw [List.drop_eq_getElem_cons hlt, he, Fo.sz, show 1 + k.sz + s.sz = (k.sz + s.sz) + 1 by omega, List.take_succ_cons, List.take_add, lie_flat h2, List.drop_drop, lie_flat h3]
    rfl
theorem flat_lie : ∀ (F : Fo) (p : Int) (X Y : List Nd), Lie (X ++ (flat F p X.length ++ Y)) F p X.length
  | .nil, _, _, _ => trivial
  | .cons n ps k s, p, X, Y => by
    refine ⟨by simp [flat], ?_, ?_⟩
    · have := flat_lie k (X.length : Int) (X ++ [⟨p, n, ps⟩]) (flat s p (X.length + 1 + k.sz) ++ Y)
      simpa [flat] using this
    · have := flat_lie s p (X ++ ⟨p, n, ps⟩ :: flat k (X.length : Int) (X.length + 1)) Y
      simpa [flat, flat_len, Nat.add_assoc, Nat.add_comm, Nat.add_left_comm] using this
/-- Whose forest hangs from the root. -/
def treeOf (ps : List Pr) (F : Fo) : List Nd := ⟨-1, ByteArray.empty, ps⟩ :: flat F 0 1
theorem tree_len (ps : List Pr) (F : Fo) : (treeOf ps F).length = F.sz + 1 := by simp [treeOf, flat_len]
theorem tree_lie (ps : List Pr) (F : Fo) : Lie (treeOf ps F) F 0 1 := by
  have := flat_lie F 0 [⟨-1, ByteArray.empty, ps⟩] []
  simpa [treeOf] using this
theorem par_at {l : List Nd} {i : Nat} {x : Nd} (h : l[i]? = some x) : parAt l (i : Int) = x.p := by
  unfold parAt
  rw [Int.toNat_natCast, h]
section
variable {l : List Nd}
/-- Every tree's list is a forest's. -/
theorem parse_from (h : Is l) : ∀ (m a e p : Nat), e - a ≤ m → a ≤ e → e ≤ l.length → p < a → (∀ j : Nat, a ≤ j → j < e → parAt l j = (p : Int) ∨ (a : Int) ≤ parAt l j) → (e < l.length → parAt l e < (a : Int)) →
    ∃ F : Fo, F.sz = e - a ∧ Lie l F (p : Int) a
  | 0, a, e, p, hm, hae, _, _, _, _ => ⟨.nil, by simp [Fo.sz]; omega, trivial⟩
  | m + 1, a, e, p, hm, hae, hel, hpa, hpar, hend => by
    rcases Nat.eq_or_lt_of_le hae with rfl | hlt
    · exact ⟨.nil, by simp [Fo.sz], trivial⟩
    have hal : a < l.length := by omega
    obtain ⟨q, hq, hqa⟩ := h.par (by omega) hal
    have hpa2 : parAt l a = (p : Int) := by
      rcases hpar a (Nat.le_refl _) hlt with h1 | h1
      · exact h1
      · omega
    obtain ⟨z, hz⟩ : ∃ z, EndAt l a z := end_exists l hal
    have hz1 := hz.lt
    have hz2 := hz.le
    have hze : z ≤ e := by
      rcases Nat.lt_or_ge e z with h1 | h1
      · have := hz.under e hlt h1
        have := hend (by omega)
        omega
      · exact h1
    obtain ⟨K, hK1, hK2⟩ := parse_from h m (a + 1) z a (by omega) (by omega) hz2 (Nat.lt_succ_self a) (fun j h1 h2 => by
      have := hz.under j (by omega) h2
      omega) (fun hzl => by have := hz.stop hzl; omega)
    have hbet : ∀ i : Nat, a ≤ i → i < z → ∀ j : Nat, z ≤ j → j < e → parAt l j ≠ (i : Int) := fun i h1 h2 j h3 h4 => by
      obtain ⟨y, hy⟩ : ∃ y, EndAt l i y := end_exists l (by omega)
      have hyz : y ≤ z := by
        rcases Nat.lt_or_ge z y with h5 | h5
        · have := hy.under z h2 h5
          have := hz.stop (by have := hy.le; omega)
          omega
        · exact h5
      exact (h.past (by omega) hy j (by omega) (by omega)).2
    obtain ⟨S, hS1, hS2⟩ := parse_from h m z e p (by omega) hze hel (by omega) (fun j h1 h2 => by
      rcases hpar j (by omega) h2 with h3 | h3
      · exact .inl h3
      · right
        obtain ⟨t, ht, htj⟩ := h.par (i := j) (by omega) (by omega)
        rcases Nat.lt_or_ge t z with h4 | h4
        · exact absurd ht (hbet t (by omega) h4 j h1 h2)
        · omega) (fun hel2 => by
        have := hend hel2
        omega)
    refine ⟨.cons l[a].n l[a].ps K S, by simp only [Fo.sz]; omega, ?_, hK2, ?_⟩
    · rw [List.getElem?_eq_getElem hal]
      have : parAt l (a : Int) = l[a].p := par_at (List.getElem?_eq_getElem hal)
      rw [hpa2] at this
      rw [this]
    · rw [show a + 1 + K.sz = z by omega]
      exact hS2
theorem parse (h : Is l) : ∃ (ps : List Pr) (F : Fo), l = treeOf ps F := by
  have h0 := h.pos
  obtain ⟨F, hF, hs⟩ := parse_from h l.length 1 l.length 0 (by omega) h0 (Nat.le_refl _) (by omega) (fun j h1 h2 => by
    obtain ⟨t, ht, htj⟩ := h.par (i := j) (by omega) h2
    omega) (fun hc => absurd hc (Nat.lt_irrefl _))
  have hn := h.fine 0 h0
  unfold nodeOkB at hn
  rw [List.getElem?_eq_getElem h0] at hn
  refine ⟨l[0].ps, F, ?_⟩
  have hd := lie_flat hs
  rw [List.take_of_length_le (by rw [List.length_drop]; omega)] at hd
  have hl : l = l[0] :: l.drop 1 := by
    have := List.drop_eq_getElem_cons h0
    simpa using this
  unfold treeOf
  have hd' : l.drop 1 = flat F 0 1 := hd
  rw [← hd']
  conv => lhs; rw [hl]
  congr 1
  simp only [Bool.and_eq_true, ite_true, beq_iff_eq, decide_eq_true_eq] at hn
  obtain ⟨_, hp, hnm⟩ := hn
  cases hx : l[0] with
  | mk p n ps =>
    rw [hx] at hp hnm
    simp only at hp hnm
    rw [hp, hnm]
end
/-- A forest's nodes lie in order: their parents. -/
theorem Lie.par {l : List Nd} : ∀ {F : Fo} {p : Int} {b : Nat}, Lie l F p b → ∀ j : Nat, b ≤ j → j < b + F.sz → parAt l j = p ∨ (b : Int) ≤ parAt l j
  | .nil, _, _, _, j, h1, h2 => by simp only [Fo.sz] at h2; omega
  | .cons n ps k s, p, b, h, j, h1, h2 => by
    obtain ⟨ha, hk, hs⟩ := h
    simp only [Fo.sz] at h2
    rcases Nat.eq_or_lt_of_le h1 with rfl | h3
    · left; exact par_at ha
    · rcases Nat.lt_or_ge j (b + 1 + k.sz) with h4 | h4
      · right
        rcases hk.par j h3 h4 with h5 | h5 <;> omega
      · rcases hs.par j h4 (by omega) with h5 | h5
        · exact .inl h5
        · right; omega
/-- Names, props, depths; no two names alike among those that hang from one node. -/
def Good : Fo → Nat → List ByteArray → Prop
  | .nil, _, _ => True
  | .cons n ps k s, d, seen => nameB n.data.toList = true ∧ propsB ps = true ∧ d ≤ 16 ∧ n ∉ seen ∧ Good k (d + 1) [] ∧ Good s d (n :: seen)
theorem Good.congr : ∀ {F : Fo} {d : Nat} {a b : List ByteArray}, (∀ x, x ∈ a ↔ x ∈ b) → Good F d a → Good F d b
  | .nil, _, _, _, _, _ => trivial
  | .cons n ps k s, d, a, b, h, ⟨h1, h2, h3, h4, h5, h6⟩ => ⟨h1, h2, h3, fun hc => h4 ((h n).2 hc), h5, h6.congr fun x => by rw [List.mem_cons, List.mem_cons, h x]⟩
theorem Fine.mono {l : List Nd} {i j : Nat} (h : Fine l j) (hij : i ≤ j) : Fine l i := fun k hk => h k (by omega)
theorem fine_iff {l : List Nd} : ∀ (F : Fo) (p b d : Nat) (seen : List ByteArray), Lie l F (p : Int) b → 0 < b → b ≤ l.length → b + F.sz ≤ 512 → Fine l b → p < b → (p : Int) ∈ above l ((b - 1 : Nat) : Int) → (above l (p : Int)).length + 1 = d →
    (∀ n, twinB l b (p : Int) n = true ↔ n ∈ seen) → (Fine l (b + F.sz) ↔ Good F d seen)
  | .nil, p, b, d, seen, _, _, _, _, hf, _, _, _, _ => by
    simp only [Fo.sz, Nat.add_zero, Good, iff_true]
    exact hf
  | .cons n ps k s, p, b, d, seen, hl, h0, hbl, h5, hf, hpb, hab, hd, hs => by
    obtain ⟨ha, hk, hsib⟩ := hl
    simp only [Fo.sz] at h5 ⊢
    obtain ⟨hlt, hx⟩ := List.getElem?_eq_some_iff.1 ha
    have hkl := hk.le (by omega)
    have hpar : parAt l (b : Int) = (p : Int) := par_at ha
    have hnode : nodeOkB l b = true ↔ (nameB n.data.toList = true ∧ propsB ps = true ∧ d ≤ 16 ∧ n ∉ seen) := by
      rw [node_some hlt (by omega), hx]
      have htw := hs n
      have hcon : (above l ((b - 1 : Nat) : Int)).contains (p : Int) = true := by simpa using hab
      simp only [hcon, Bool.and_true, Bool.and_eq_true, decide_eq_true_eq, Bool.not_eq_true']
      rw [hd]
      constructor
      · rintro ⟨⟨_, h2⟩, ⟨⟨⟨h3, _⟩, _⟩, h6⟩, h7⟩
        exact ⟨h3, h2, h6, fun hc => by rw [htw.2 hc] at h7; cases h7⟩
      · rintro ⟨h3, h2, h6, h7⟩
        refine ⟨⟨by omega, h2⟩, ⟨⟨⟨h3, by omega⟩, by omega⟩, h6⟩, ?_⟩
        cases ht : twinB l b (p : Int) n with
        | false => rfl
        | true => exact absurd (htw.1 ht) h7
    have hone : Fine l (b + 1) ↔ nodeOkB l b = true := ⟨fun h => h b (Nat.lt_succ_self b), fun h j hj => by
      rcases Nat.lt_or_ge j b with h1 | h1
      · exact hf j h1
      · rw [show j = b by omega]; exact h⟩
    have hK : Fine l (b + 1) → (Fine l (b + 1 + k.sz) ↔ Good k (d + 1) []) := fun h1 => by
      have hst := above_step h1 (by omega) (Nat.lt_succ_self b)
      refine fine_iff k b (b + 1) (d + 1) [] hk (Nat.succ_pos b) (by omega) (by omega) h1 (Nat.lt_succ_self b) ?_ ?_ ?_
      · rw [Nat.add_sub_cancel, hst]; exact List.mem_cons_self
      · rw [hst, hpar, List.length_cons, hd]
      · intro m
        refine ⟨fun ht => ?_, fun hc => by cases hc⟩
        obtain ⟨j, hj, h2, h3, h4, _⟩ := (twin_iff (by omega) _ _).1 ht
        have := (fine_par h1 h3 hj).1
        rw [par_at (List.getElem?_eq_getElem hj), h4] at this
        omega
    have hin : Fine l (b + 1 + k.sz) → ∀ j : Nat, b ≤ j → j < b + 1 + k.sz → (p : Int) ∈ above l (j : Int) := fun h1 j => by
      induction j using Nat.strongRecOn with
      | ind j ih =>
        intro h2 h3
        rw [above_step h1 hkl h3]
        apply List.mem_cons_of_mem
        rcases Nat.eq_or_lt_of_le h2 with rfl | h4
        · rw [hpar, above_step h1 hkl (by omega)]; exact List.mem_cons_self
        · have hp := fine_par h1 h3 (by omega)
          have hge : (b : Int) ≤ parAt l (j : Int) := by
            rcases hk.par j h4 h3 with h5 | h5 <;> omega
          obtain ⟨t, ht⟩ : ∃ t : Nat, parAt l (j : Int) = (t : Int) := ⟨(parAt l (j : Int)).toNat, by omega⟩
          rw [ht] at hge hp ⊢
          exact ih t (by omega) (by omega) (by omega)
    have hS : Fine l (b + 1 + k.sz) → (Fine l (b + 1 + k.sz + s.sz) ↔ Good s d (n :: seen)) := fun h1 => by
      refine fine_iff s p (b + 1 + k.sz) d (n :: seen) hsib (by omega) hkl (by omega) h1 (by omega) ?_ hd ?_
      · exact hin h1 (b + 1 + k.sz - 1) (by omega) (by omega)
      · intro m
        rw [List.mem_cons, ← hs m, twin_iff hkl, twin_iff hbl]
        constructor
        · rintro ⟨j, hj, h2, h3, h4, h6⟩
          rcases Nat.lt_or_ge j b with h7 | h7
          · exact .inr ⟨j, hj, h2, h7, h4, h6⟩
          · rcases Nat.eq_or_lt_of_le h7 with rfl | h8
            · left; rw [hx] at h6; exact h6.symm
            · exfalso
              have := hk.par j h8 h3
              rw [par_at (List.getElem?_eq_getElem hj), h4] at this
              omega
        · rintro (h2 | ⟨j, hj, h2, h3, h4, h6⟩)
          · exact ⟨b, hlt, h0, by omega, by rw [hx], by rw [hx]; exact h2.symm⟩
          · exact ⟨j, hj, h2, by omega, h4, h6⟩
    rw [show b + (1 + k.sz + s.sz) = b + 1 + k.sz + s.sz by omega]
    constructor
    · intro h
      have f1 : Fine l (b + 1) := h.mono (by omega)
      have f2 : Fine l (b + 1 + k.sz) := h.mono (by omega)
      obtain ⟨g1, g2, g3, g4⟩ := hnode.1 (hone.1 f1)
      exact ⟨g1, g2, g3, g4, (hK f1).1 f2, (hS f2).1 h⟩
    · rintro ⟨g1, g2, g3, g4, g5, g6⟩
      have f1 := hone.2 (hnode.2 ⟨g1, g2, g3, g4⟩)
      have f2 := (hK f1).2 g5
      exact (hS f2).2 g6
theorem check_of {l : List Nd} (h : Fine l l.length) (h0 : 0 < l.length) : checkF l = (0, 0) := by
  unfold checkF
  have : (List.range l.length).find? (fun i => !nodeOkB l i) = none := by
    rw [List.find?_range_eq_none]
    intro i hi
    simp [h i hi]
  rw [this]
  simp only
  rw [if_neg (by omega)]
/-- What makes a forest's list a tree. -/
theorem tree_iff {ps : List Pr} {F : Fo} : Is (treeOf ps F) ↔ propsB ps = true ∧ F.sz + 1 ≤ 512 ∧ Good F 2 [] := by
  have hl := tree_lie ps F
  have hlen := tree_len ps F
  have h0 : (treeOf ps F)[0]? = some ⟨-1, ByteArray.empty, ps⟩ := rfl
  have hn0 : nodeOkB (treeOf ps F) 0 = propsB ps := by
    unfold nodeOkB
    rw [h0]
    simp
  have hone : propsB ps = true → Fine (treeOf ps F) 1 := fun h j hj => by
    rw [show j = 0 by omega, hn0]; exact h
  have hmain : propsB ps = true → F.sz + 1 ≤ 512 → (Fine (treeOf ps F) (1 + F.sz) ↔ Good F 2 []) := fun h1 h2 => by
    have f1 := hone h1
    have hst := above_step f1 (by rw [hlen]; omega) (k := 0) (by omega)
    have hp0 : parAt (treeOf ps F) ((0 : Nat) : Int) = -1 := par_at h0
    rw [hp0, above_neg (treeOf ps F) (i := -1) (by decide)] at hst
    refine fine_iff F 0 1 2 [] hl (by omega) (by rw [hlen]; omega) (by omega) f1 (by omega) ?_ ?_ ?_
    · show ((0 : Nat) : Int) ∈ above (treeOf ps F) ((0 : Nat) : Int)
      rw [hst]; exact List.mem_cons_self
    · rw [hst]; rfl
    · intro m
      refine ⟨fun ht => ?_, fun hc => by cases hc⟩
      obtain ⟨j, hj, h2, h3, _, _⟩ := (twin_iff (by rw [hlen]; omega) _ _).1 ht
      omega
  constructor
  · intro h
    obtain ⟨a, b, c⟩ := check_fine h.ok
    have hps : propsB ps = true := by rw [← hn0]; exact a 0 b
    refine ⟨hps, by rw [hlen] at c; exact c, (hmain hps (by rw [hlen] at c; exact c)).1 ?_⟩
    rw [hlen] at a
    exact a.mono (by omega)
  · rintro ⟨h1, h2, h3⟩
    have hf := (hmain h1 h2).2 h3
    refine is_tree (check_of ?_ (by rw [hlen]; omega))
    rw [hlen]
    exact hf.mono (by omega)
/-! In order. -/
def insFo (n : ByteArray) (ps : List Pr) (k : Fo) : Fo → Fo
  | .nil => .cons n ps k .nil
  | .cons m qs j s => if ltN n.data.toList m.data.toList then .cons n ps k (.cons m qs j s) else .cons m qs j (insFo n ps k s)
def sortFo : Fo → Fo
  | .nil => .nil
  | .cons n ps k s => insFo n (sortN (fun q : Pr => q.n.data.toList) ps) (sortFo k) (sortFo s)
def posns : Fo → Nat → List Nat
  | .nil, _ => []
  | .cons _ _ k s, b => b :: posns s (b + 1 + k.sz)
theorem kids_of {l : List Nd} : ∀ (F : Fo) (p b : Nat), Lie l F (p : Int) b → p < b → b + F.sz ≤ l.length → (∀ j : Nat, b + F.sz ≤ j → j < l.length → parAt l j ≠ (p : Int)) → kidsFrom l p b = posns F b
  | .nil, p, b, _, _, hle, hout => by
    simp only [Fo.sz, Nat.add_zero] at hle hout
    rw [kidsFrom_skip (l.length - b) b (by omega) (fun j h1 h2 => hout j h1 (by omega)), kidsFrom_end (by omega)]
    rfl
  | .cons n ps k s, p, b, h, hpb, hle, hout => by
    obtain ⟨ha, hk, hs⟩ := h
    simp only [Fo.sz] at hle hout
    rw [kidsFrom_step (by omega), if_pos (par_at ha), kidsFrom_skip k.sz (b + 1) (by omega) (fun j h1 h2 he => by
      rcases hk.par j h1 h2 with h3 | h3 <;> omega), kids_of s p (b + 1 + k.sz) hs (by omega) (by omega) (fun j h1 h2 => hout j (by omega) h2)]
    rfl
/-- A list of places stands for a forest. -/
def Rep (l : List Nd) : List Nat → Fo → Prop
  | [], .nil => True
  | t :: r, .cons n ps k s => nameN l t = n.data.toList ∧ (∀ (q : Int) (c : Nat), ordN l t q c = ⟨q, n, ps⟩ :: flat k (c : Int) (c + 1)) ∧ Rep l r s
  | _, _ => False
theorem rep_ord {l : List Nd} (q : Int) : ∀ {r : List Nat} {F : Fo} (c : Nat), Rep l r F → ordKids (fun k c => ordN l k q c) r c = flat F q c
  | [], .nil, _, _ => rfl
  | t :: r, .cons n ps k s, c, h => by
    obtain ⟨_, h2, h3⟩ := h
    rw [ordKids, h2, List.length_cons, flat_len, rep_ord q _ h3, flat, show c + (k.sz + 1) = c + 1 + k.sz by omega]
    rfl
  | [], .cons _ _ _ _, _, h => h.elim
  | _ :: _, .nil, _, h => h.elim
theorem rep_ins {l : List Nd} {t : Nat} {n : ByteArray} {ps : List Pr} {k : Fo} (hn : nameN l t = n.data.toList) (ho : ∀ (q : Int) (c : Nat), ordN l t q c = ⟨q, n, ps⟩ :: flat k (c : Int) (c + 1)) :
    ∀ {r : List Nat} {F : Fo}, Rep l r F → Rep l (insN (nameN l) t r) (insFo n ps k F)
  | [], .nil, _ => ⟨hn, ho, trivial⟩
  | u :: r, .cons m qs j s, h => by
    obtain ⟨h1, h2, h3⟩ := h
    rw [insN, insFo]
    unfold ltK
    rw [hn, h1]
    split
    · exact ⟨hn, ho, h1, h2, h3⟩
    · exact ⟨h1, h2, rep_ins hn ho h3⟩
  | [], .cons _ _ _ _, h => h.elim
  | _ :: _, .nil, h => h.elim
theorem rep_sort {l : List Nd} : ∀ (F : Fo) (p b : Nat), Lie l F (p : Int) b → p < b → b + F.sz ≤ l.length → (∀ j : Nat, b + F.sz ≤ j → j < l.length → ∀ i : Nat, b ≤ i → i < b + F.sz → parAt l j ≠ (i : Int)) →
    Rep l (sortN (nameN l) (posns F b)) (sortFo F)
  | .nil, _, _, _, _, _, _ => trivial
  | .cons n ps k s, p, b, h, hpb, hle, hout => by
    obtain ⟨ha, hk, hs⟩ := h
    simp only [Fo.sz] at hle hout
    have hsout : ∀ j : Nat, b + 1 + k.sz ≤ j → j < l.length → ∀ i : Nat, b ≤ i → i < b + 1 + k.sz → parAt l j ≠ (i : Int) := fun j h1 h2 i h3 h4 he => by
      rcases Nat.lt_or_ge j (b + 1 + k.sz + s.sz) with h5 | h5
      · rcases hs.par j h1 h5 with h6 | h6 <;> omega
      · exact hout j (by omega) h2 i h3 (by omega) he
    have hkR := rep_sort k b (b + 1) hk (Nat.lt_succ_self b) (by omega) (fun j h1 h2 i h3 h4 => hsout j h1 h2 i (by omega) h4)
    have hsR := rep_sort s p (b + 1 + k.sz) hs (by omega) (by omega) (fun j h1 h2 i h3 h4 => hout j (by omega) h2 i (by omega) (by omega))
    refine rep_ins ?_ ?_ hsR
    · unfold nameN
      rw [ha]
    · intro q c
      rw [ordN_step l b q c (by omega)]
      have e1 : bareN l b = n := by unfold bareN; rw [ha]
      have e2 : propsN l b = ps := by unfold propsN; rw [ha]
      have e3 : kidsN l b = posns k (b + 1) := kids_of k b (b + 1) hk (Nat.lt_succ_self b) (by omega) (fun j h1 h2 => hsout j h1 h2 b (Nat.le_refl _) (by omega))
      rw [e1, e2, e3, rep_ord _ _ hkR]
theorem sorted_tree (ps : List Pr) (F : Fo) : sortedL (treeOf ps F) = treeOf (sortN (fun q : Pr => q.n.data.toList) ps) (sortFo F) := by
  have hl := tree_lie ps F
  have hlen := tree_len ps F
  have h0 : (treeOf ps F)[0]? = some ⟨-1, ByteArray.empty, ps⟩ := rfl
  unfold sortedL
  rw [ordN_step _ 0 (-1) 0 (by omega)]
  have e1 : bareN (treeOf ps F) 0 = ByteArray.empty := by unfold bareN; rw [h0]
  have e2 : propsN (treeOf ps F) 0 = ps := by unfold propsN; rw [h0]
  have e3 : kidsN (treeOf ps F) 0 = posns F 1 := kids_of F 0 1 hl (by omega) (by omega) (fun j h1 h2 => by omega)
  have hr := rep_sort F 0 1 hl (by omega) (by omega) (fun j h1 h2 => by omega)
  rw [e1, e2, e3, rep_ord _ _ hr]
  rfl
/-- At the row's end. -/
def snocFo (n : ByteArray) (ps : List Pr) (k : Fo) : Fo → Fo
  | .nil => .cons n ps k .nil
  | .cons m qs j s => .cons m qs j (snocFo n ps k s)
def tops : Fo → List ByteArray
  | .nil => []
  | .cons n _ _ s => n :: tops s
theorem snoc_sz (n : ByteArray) (ps : List Pr) (k : Fo) : ∀ F : Fo, (snocFo n ps k F).sz = F.sz + (1 + k.sz)
  | .nil => by simp [snocFo, Fo.sz]
  | .cons m qs j s => by simp only [snocFo, Fo.sz, snoc_sz n ps k s]; omega
theorem snoc_flat (n : ByteArray) (ps : List Pr) (k : Fo) : ∀ (F : Fo) (p : Int) (b : Nat), flat (snocFo n ps k F) p b = flat F p b ++ (⟨p, n, ps⟩ :: flat k ((b + F.sz : Nat) : Int) (b + F.sz + 1))
  | .nil, p, b => by simp [snocFo, flat, Fo.sz]
  | .cons m qs j s, p, b => by
    simp only [snocFo, flat, snoc_flat n ps k s, Fo.sz, List.cons_append, List.append_assoc]
    rw [show b + 1 + j.sz + s.sz = b + (1 + j.sz + s.sz) by omega]
theorem toL_ne {n m : ByteArray} (h : n ≠ m) : n.data.toList ≠ m.data.toList := fun e => h (bytes_eq e)
theorem ins_comm {n m : ByteArray} {ps qs : List Pr} {k j : Fo} (h : n ≠ m) : ∀ F : Fo, insFo n ps k (insFo m qs j F) = insFo m qs j (insFo n ps k F)
  | .nil => by
    rcases ltN_total (toL_ne h) with h1 | h1
    · have h2 := ltN_asymm h1
      simp [insFo, h1, h2]
    · have h2 := ltN_asymm h1
      simp [insFo, h1, h2]
  | .cons y ys i s => by
    by_cases hn : ltN n.data.toList y.data.toList = true <;> by_cases hm : ltN m.data.toList y.data.toList = true
    · rcases ltN_total (toL_ne h) with h1 | h1
      · have h2 := ltN_asymm h1
        simp [insFo, h1, h2, hn, hm]
      · have h2 := ltN_asymm h1
        simp [insFo, h1, h2, hn, hm]
    · have h2 : ltN m.data.toList n.data.toList = false := by
        cases hc : ltN m.data.toList n.data.toList with
        | false => rfl
        | true => exact absurd (ltN_swo.trans _ _ _ hc hn) hm
      simp [insFo, h2, hn, hm]
    · have h2 : ltN n.data.toList m.data.toList = false := by
        cases hc : ltN n.data.toList m.data.toList with
        | false => rfl
        | true => exact absurd (ltN_swo.trans _ _ _ hc hm) hn
      simp [insFo, h2, hn, hm]
    · simp [insFo, hn, hm, ins_comm h s]
theorem sort_snoc {n : ByteArray} {ps : List Pr} {k : Fo} : ∀ F : Fo, n ∉ tops F → sortFo (snocFo n ps k F) = insFo n (sortN (fun q : Pr => q.n.data.toList) ps) (sortFo k) (sortFo F)
  | .nil, _ => rfl
  | .cons m qs j s, h => by
    rw [tops, List.mem_cons, not_or] at h
    rw [snocFo, sortFo, sort_snoc s h.2, ins_comm (Ne.symm h.1)]
    rfl
/-! A node taken out and put back behind its brothers. -/
/-- F at b under p: the node at i, its parent q, name, props, kids; R without it; o where what is beneath q ends; B with it behind its brothers. -/
inductive Cutd : Fo → Nat → Nat → Nat → Nat → ByteArray → List Pr → Fo → Fo → Nat → Fo → Prop
  | here {n : ByteArray} {ps : List Pr} {k s : Fo} {p b : Nat} : Cutd (.cons n ps k s) p b b p n ps k s (b + 1 + k.sz + s.sz) (snocFo n ps k s)
  | side {m : ByteArray} {qs : List Pr} {j s : Fo} {p b i q : Nat} {n : ByteArray} {ps : List Pr} {k R : Fo} {o : Nat} {B : Fo} (h : Cutd s p (b + 1 + j.sz) i q n ps k R o B) :
      Cutd (.cons m qs j s) p b i q n ps k (.cons m qs j R) o (.cons m qs j B)
  | down {m : ByteArray} {qs : List Pr} {j s : Fo} {p b i q : Nat} {n : ByteArray} {ps : List Pr} {k R : Fo} {o : Nat} {B : Fo} (h : Cutd j b (b + 1) i q n ps k R o B) :
      Cutd (.cons m qs j s) p b i q n ps k (.cons m qs R s) o (.cons m qs B s)
theorem cutd_exists : ∀ (F : Fo) (p b i : Nat), b ≤ i → i < b + F.sz → ∃ (q : Nat) (n : ByteArray) (ps : List Pr) (k R : Fo) (o : Nat) (B : Fo), Cutd F p b i q n ps k R o B
  | .nil, p, b, i, h1, h2 => by simp only [Fo.sz] at h2; omega
  | .cons m qs j s, p, b, i, h1, h2 => by
    simp only [Fo.sz] at h2
    rcases Nat.eq_or_lt_of_le h1 with rfl | h3
    · exact ⟨_, _, _, _, _, _, _, .here⟩
    · rcases Nat.lt_or_ge i (b + 1 + j.sz) with h4 | h4
      · obtain ⟨q, n, ps, k, R, o, B, h⟩ := cutd_exists j b (b + 1) i h3 h4
        exact ⟨_, _, _, _, _, _, _, .down h⟩
      · obtain ⟨q, n, ps, k, R, o, B, h⟩ := cutd_exists s p (b + 1 + j.sz) i h4 (by omega)
        exact ⟨_, _, _, _, _, _, _, .side h⟩
section
variable {F : Fo} {p b i q : Nat} {n : ByteArray} {ps : List Pr} {k R : Fo} {o : Nat} {B : Fo}
theorem Cutd.ge (h : Cutd F p b i q n ps k R o B) : p < b → p ≤ q := by
  induction h with
  | here => intro _; exact Nat.le_refl _
  | side h ih => intro hpb; exact ih (by omega)
  | down h ih => intro hpb; have := ih (by omega); omega
theorem Cutd.bounds (h : Cutd F p b i q n ps k R o B) : p < b → q < i ∧ b ≤ i ∧ i + 1 + k.sz ≤ o ∧ o ≤ b + F.sz ∧ R.sz + (1 + k.sz) = F.sz ∧ B.sz = F.sz := by
  induction h with
  | here =>
    intro hpb
    refine ⟨hpb, Nat.le_refl _, by omega, by simp only [Fo.sz]; omega, by simp only [Fo.sz]; omega, by rw [snoc_sz]; simp only [Fo.sz]; omega⟩
  | side h ih =>
    intro hpb
    obtain ⟨h1, h2, h3, h4, h5, h6⟩ := ih (by omega)
    simp only [Fo.sz]
    exact ⟨h1, by omega, h3, by omega, by omega, by omega⟩
  | down h ih =>
    intro hpb
    obtain ⟨h1, h2, h3, h4, h5, h6⟩ := ih (by omega)
    simp only [Fo.sz]
    exact ⟨h1, by omega, h3, by omega, by omega, by omega⟩
theorem restOne_low {i z : Nat} {x : Nd} (h : x.p < (z : Int)) : restOne i z x = x := by
  unfold restOne
  rw [if_neg (by omega)]
theorem Nd.par_self (x : Nd) : x.par x.p = x := rfl
/-- A forest moved down. -/
theorem flat_rest {i z : Nat} (hiz : i ≤ z) : ∀ (F : Fo) (p b : Nat), p < z → z ≤ b → (flat F (p : Int) b).map (restOne i z) = flat F (p : Int) (b - (z - i))
  | .nil, _, _, _, _ => rfl
  | .cons n ps k s, p, b, hp, hb => by
    have hk : (flat k (b : Int) (b + 1)).map (restOne i z) = flat k ((b - (z - i) : Nat) : Int) (b - (z - i) + 1) := by
      have := flat_up hiz k b (b + 1) hb (by omega)
      rwa [show b + 1 - (z - i) = b - (z - i) + 1 by omega] at this
    simp only [flat, List.map_cons, List.map_append]
    rw [restOne_low (by show (p : Int) < z; omega), hk, flat_rest hiz s p (b + 1 + k.sz) hp (by omega), show b + 1 + k.sz - (z - i) = b - (z - i) + 1 + k.sz by omega]
where
  flat_up {i z : Nat} (hiz : i ≤ z) : ∀ (F : Fo) (p b : Nat), z ≤ p → p < b → (flat F (p : Int) b).map (restOne i z) = flat F ((p - (z - i) : Nat) : Int) (b - (z - i))
    | .nil, _, _, _, _ => rfl
    | .cons n ps k s, p, b, hp, hb => by
      have hk := flat_up hiz k b (b + 1) (by omega) (by omega)
      have hs := flat_up hiz s p (b + 1 + k.sz) hp (by omega)
      simp only [flat, List.map_cons, List.map_append]
      have h1 : restOne i z ⟨(p : Int), n, ps⟩ = ⟨((p - (z - i) : Nat) : Int), n, ps⟩ := by
        unfold restOne
        rw [if_pos (by show (z : Int) ≤ (p : Int); omega)]
        unfold Nd.par
        simp only
        congr 1
        omega
      rw [h1, hk, hs, show b + 1 - (z - i) = b - (z - i) + 1 by omega, show b + 1 + k.sz - (z - i) = b - (z - i) + 1 + k.sz by omega]
/-- A piece: the same forest from 1 on. -/
theorem flat_down (d : Nat) : ∀ (F : Fo) (p b : Nat), d ≤ p → p < b → (flat F (p : Int) b).map (fun x => x.par (x.p - (d : Int))) = flat F ((p - d : Nat) : Int) (b - d)
  | .nil, _, _, _, _ => rfl
  | .cons n ps k s, p, b, hp, hb => by
    have hk := flat_down d k b (b + 1) (by omega) (by omega)
    have hs := flat_down d s p (b + 1 + k.sz) hp (by omega)
    simp only [flat, List.map_cons, List.map_append]
    rw [hk, hs, show b + 1 - d = b - d + 1 by omega, show b + 1 + k.sz - d = b - d + 1 + k.sz by omega]
    unfold Nd.par
    simp only
    rw [show (p : Int) - (d : Int) = ((p - d : Nat) : Int) by omega]
theorem flat_lift (d : Nat) : ∀ (F : Fo) (p b : Nat), (flat F (p : Int) b).map (fun x => x.par (x.p + (d : Int))) = flat F ((p + d : Nat) : Int) (b + d)
  | .nil, _, _ => rfl
  | .cons n ps k s, p, b => by
    have hk := flat_lift d k b (b + 1)
    have hs := flat_lift d s p (b + 1 + k.sz)
    simp only [flat, List.map_cons, List.map_append]
    rw [hk, hs, show b + 1 + d = b + d + 1 by omega, show b + 1 + k.sz + d = b + d + 1 + k.sz by omega]
    unfold Nd.par
    simp only
    rw [show (p : Int) + (d : Int) = ((p + d : Nat) : Int) by omega]
theorem flat_mem : ∀ {F : Fo} {p : Int} {b : Nat} {x : Nd}, x ∈ flat F p b → x.p = p ∨ ((b : Int) ≤ x.p ∧ x.p < ((b + F.sz : Nat) : Int))
  | .nil, _, _, _, h => by cases h
  | .cons n ps k s, p, b, x, h => by
    simp only [flat, List.mem_cons, List.mem_append] at h
    simp only [Fo.sz]
    rcases h with rfl | h | h
    · exact .inl rfl
    · right
      rcases flat_mem h with h1 | ⟨h1, h2⟩ <;> omega
    · rcases flat_mem h with h1 | ⟨h1, h2⟩
      · exact .inl h1
      · right; omega
/-- What the list looks like: ahead of the node, the node's part, its brothers behind it with theirs, the rest. -/
theorem Cutd.parts (h : Cutd F p b i q n ps k R o B) : p < b → ∃ P M T : List Nd, P.length = i - b ∧ M.length = o - (i + 1 + k.sz) ∧ T.length = b + F.sz - o ∧
    flat F (p : Int) b = P ++ ((⟨(q : Int), n, ps⟩ :: flat k (i : Int) (i + 1)) ++ (M ++ T)) ∧
    flat R (p : Int) b = P ++ (M ++ T).map (restOne i (i + 1 + k.sz)) ∧
    flat B (p : Int) b = P ++ (M.map (restOne i (i + 1 + k.sz)) ++ ((⟨(q : Int), n, ps⟩ :: flat k ((o - (1 + k.sz) : Nat) : Int) (o - (1 + k.sz) + 1)) ++ T)) ∧
    (∀ x ∈ P, x.p < (i : Int)) ∧ (∀ x ∈ M, x.p = (q : Int) ∨ ((i + 1 + k.sz : Nat) : Int) ≤ x.p) ∧ (∀ x ∈ T, x.p < (q : Int) ∨ (o : Int) ≤ x.p) := by
  induction h with
  | @here n ps k s p b =>
    intro hpb
    refine ⟨[], flat s (p : Int) (b + 1 + k.sz), [], by simp, by rw [flat_len]; omega, by simp only [Fo.sz, List.length_nil]; omega, by simp [flat], ?_, ?_, by simp, ?_, by simp⟩
    · rw [List.append_nil, List.nil_append, flat_rest (by omega) s p (b + 1 + k.sz) (by omega) (Nat.le_refl _), show b + 1 + k.sz - (b + 1 + k.sz - b) = b by omega]
    · rw [List.nil_append, flat_rest (by omega) s p (b + 1 + k.sz) (by omega) (Nat.le_refl _), show b + 1 + k.sz - (b + 1 + k.sz - b) = b by omega, snoc_flat, List.append_nil, show b + 1 + k.sz + s.sz - (1 + k.sz) = b + s.sz by omega]
    · intro x hx
      rcases flat_mem hx with h1 | ⟨h1, h2⟩
      · exact .inl h1
      · exact .inr h1
  | @side m qs j s p b i q n ps k R o B h ih =>
    intro hpb
    obtain ⟨b1, b2, b3, b4, b5, b6⟩ := h.bounds (by omega)
    obtain ⟨P, M, T, h1, h2, h3, h4, h5, h6, h7, h8, h9⟩ := ih (by omega)
    refine ⟨⟨(p : Int), m, qs⟩ :: (flat j (b : Int) (b + 1) ++ P), M, T, by simp only [List.length_cons, List.length_append, flat_len]; omega, h2, by simp only [Fo.sz]; omega, ?_, ?_, ?_, ?_, h8, h9⟩
    · simp only [flat, h4, List.cons_append, List.append_assoc]
    · simp only [flat, h5, List.cons_append, List.append_assoc]
    · simp only [flat, h6, List.cons_append, List.append_assoc]
    · intro x hx
      rw [List.mem_cons, List.mem_append] at hx
      rcases hx with rfl | hx | hx
      · show (p : Int) < i
        omega
      · rcases flat_mem hx with g1 | ⟨g1, g2⟩ <;> omega
      · exact h7 x hx
  | @down m qs j s p b i q n ps k R o B h ih =>
    intro hpb
    obtain ⟨b1, b2, b3, b4, b5, b6⟩ := h.bounds (by omega)
    have b7 := h.ge (by omega)
    obtain ⟨P, M, T, h1, h2, h3, h4, h5, h6, h7, h8, h9⟩ := ih (by omega)
    refine ⟨⟨(p : Int), m, qs⟩ :: P, M, T ++ flat s (p : Int) (b + 1 + j.sz), by simp only [List.length_cons]; omega, h2, by simp only [Fo.sz, List.length_append, flat_len]; omega, ?_, ?_, ?_, ?_, h8, ?_⟩
    · simp only [flat, h4, List.cons_append, List.append_assoc]
    · simp only [flat, h5, List.cons_append, List.append_assoc, List.map_append]
      rw [flat_rest (by omega) s p (b + 1 + j.sz) (by omega) (by omega), show b + 1 + j.sz - (i + 1 + k.sz - i) = b + 1 + R.sz by omega]
    · simp only [flat, h6, List.cons_append, List.append_assoc, b6]
    · intro x hx
      rw [List.mem_cons] at hx
      rcases hx with rfl | hx
      · show (p : Int) < i
        omega
      · exact h7 x hx
    · intro x hx
      rw [List.mem_append] at hx
      rcases hx with hx | hx
      · exact h9 x hx
      · rcases flat_mem hx with g1 | ⟨g1, g2⟩ <;> omega
end
theorem end_one {l : List Nd} {i z y : Nat} (h : EndAt l i z) (h' : EndAt l i y) : z = y := by
  have a := h.lt; have b := h.le; have c := h'.lt; have d := h'.le
  rcases Nat.lt_trichotomy z y with g | g | g
  · have e := h.stop (by omega)
    have f := h'.under z a g
    omega
  · exact g
  · have e := h'.stop (by omega)
    have f := h.under y c g
    omega
section
variable {F : Fo} {p b i q : Nat} {n : ByteArray} {ps : List Pr} {k R : Fo} {o : Nat} {B : Fo}
/-- In order it is the same tree. -/
theorem Good.tops : ∀ {F : Fo} {d : Nat} {seen : List ByteArray}, Good F d seen → ∀ x ∈ tops F, x ∉ seen
  | .nil, _, _, _, x, hx => by cases hx
  | .cons n ps k s, d, seen, ⟨_, _, _, h4, _, h6⟩, x, hx => by
    simp only [Go.Proofs.YtmdnbajbfnhecaaGreatDoor.tops, List.mem_cons] at hx
    rcases hx with rfl | hx
    · exact h4
    · have := h6.tops x hx
      rw [List.mem_cons, not_or] at this
      exact this.2
theorem Cutd.sort (h : Cutd F p b i q n ps k R o B) : ∀ {d : Nat} {seen : List ByteArray}, Good F d seen → sortFo B = sortFo F := by
  induction h with
  | here =>
    intro d seen hg
    obtain ⟨_, _, _, h4, _, h6⟩ := hg
    rw [sort_snoc _ (fun hc => (h6.tops _ hc) List.mem_cons_self)]
    rfl
  | side h ih =>
    intro d seen hg
    rw [sortFo, sortFo, ih hg.2.2.2.2.2]
  | down h ih =>
    intro d seen hg
    rw [sortFo, sortFo, ih hg.2.2.2.2.1]
theorem Good.low : ∀ {F : Fo} {d e : Nat} {seen : List ByteArray}, e ≤ d → Good F d seen → Good F e seen
  | .nil, _, _, _, _, _ => trivial
  | .cons n ps k s, d, e, seen, h, ⟨h1, h2, h3, h4, h5, h6⟩ => ⟨h1, h2, by omega, h4, h5.low (by omega), h6.low h⟩
theorem Good.fewer : ∀ {F : Fo} {d : Nat} {a c : List ByteArray}, (∀ x, x ∈ c → x ∈ a) → Good F d a → Good F d c
  | .nil, _, _, _, _, _ => trivial
  | .cons n ps k s, d, a, c, h, ⟨h1, h2, h3, h4, h5, h6⟩ => ⟨h1, h2, h3, fun hc => h4 (h n hc), h5, h6.fewer fun x hx => by
    rw [List.mem_cons] at hx ⊢
    rcases hx with hx | hx
    · exact .inl hx
    · exact .inr (h x hx)⟩
theorem Good.snoc : ∀ {F : Fo} {d : Nat} {seen : List ByteArray}, Good F d (n :: seen) → nameB n.data.toList = true → propsB ps = true → d ≤ 16 → n ∉ seen → Good k (d + 1) [] → Good (snocFo n ps k F) d seen
  | .nil, d, seen, _, h1, h2, h3, h4, h5 => ⟨h1, h2, h3, h4, h5, trivial⟩
  | .cons m qs j s, d, seen, ⟨g1, g2, g3, g4, g5, g6⟩, h1, h2, h3, h4, h5 => by
    rw [List.mem_cons, not_or] at g4
    refine ⟨g1, g2, g3, g4.2, g5, Good.snoc (g6.fewer fun x hx => ?_) h1 h2 h3 ?_ h5⟩
    · simp only [List.mem_cons] at hx ⊢
      rcases hx with h | h | h
      · exact .inr (.inl h)
      · exact .inl h
      · exact .inr (.inr h)
    · rw [List.mem_cons, not_or]
      exact ⟨fun e => g4.1 e.symm, h4⟩
theorem Cutd.good (h : Cutd F p b i q n ps k R o B) : ∀ {d : Nat} {seen : List ByteArray}, 2 ≤ d → Good F d seen →
    Good R d seen ∧ Good B d seen ∧ Good k 2 [] ∧ nameB n.data.toList = true ∧ propsB ps = true := by
  induction h with
  | here =>
    intro d seen hd hg
    obtain ⟨h1, h2, h3, h4, h5, h6⟩ := hg
    exact ⟨h6.fewer fun x hx => List.mem_cons_of_mem _ hx, h6.snoc h1 h2 h3 h4 h5, h5.low (by omega), h1, h2⟩
  | side h ih =>
    intro d seen hd hg
    obtain ⟨h1, h2, h3, h4, h5, h6⟩ := hg
    obtain ⟨g1, g2, g3⟩ := ih hd h6
    exact ⟨⟨h1, h2, h3, h4, h5, g1⟩, ⟨h1, h2, h3, h4, h5, g2⟩, g3⟩
  | down h ih =>
    intro d seen hd hg
    obtain ⟨h1, h2, h3, h4, h5, h6⟩ := hg
    obtain ⟨g1, g2, g3⟩ := ih (by omega) h5
    exact ⟨⟨h1, h2, h3, h4, g1, h6⟩, ⟨h1, h2, h3, h4, g2, h6⟩, g3⟩
/-- A last kid lies where it lay. -/
theorem Cutd.last (h : Cutd F p b i q n ps k R o B) : p < b → o = i + 1 + k.sz → B = F := by
  induction h with
  | @here n ps k s p b =>
    intro _ he
    have : s.sz = 0 := by omega
    cases s with
    | nil => rfl
    | cons m qs j t => simp only [Fo.sz] at this; omega
  | side h ih => intro hp he; rw [ih (by omega) he]
  | down h ih => intro hp he; rw [ih (by omega) he]
end
theorem get_of {α : Type} {l A C : List α} {x : α} (h : l = A ++ x :: C) : l[A.length]? = some x := by
  rw [h, List.getElem?_append_right (Nat.le_refl _), Nat.sub_self]
  rfl
theorem get_mid {α : Type} {l A M C : List α} {j : Nat} (h : l = A ++ (M ++ C)) (h1 : A.length ≤ j) (h2 : j < A.length + M.length) : ∃ x, x ∈ M ∧ l[j]? = some x := by
  refine ⟨M[j - A.length], List.getElem_mem _, ?_⟩
  rw [h, List.getElem?_append_right h1, List.getElem?_append_left (by omega), List.getElem?_eq_getElem (by omega)]
theorem mapIdx_const {α β : Type} (g : α → β) (l : List α) : (l.mapIdx fun _ x => g x) = l.map g := by
  apply List.ext_getElem (by simp)
  intro j h1 h2
  simp
/-- What a cut and a graft give. -/
theorem cut_graft {ps0 : List Pr} {F : Fo} {i q : Nat} {n : ByteArray} {ps : List Pr} {k R : Fo} {o : Nat} {B : Fo} (hI : Is (treeOf ps0 F)) (h : Cutd F 0 1 i q n ps k R o B) :
    parAt (treeOf ps0 F) (i : Int) = (q : Int) ∧ EndAt (treeOf ps0 F) i (i + 1 + k.sz) ∧ EndAt (treeOf ps0 F) q o ∧ restF (treeOf ps0 F) i (i + 1 + k.sz) = treeOf ps0 R ∧
    pieceF (treeOf ps0 F) i (i + 1 + k.sz) = ⟨-1, n, ps⟩ :: flat k 0 1 ∧ EndAt (treeOf ps0 R) q (o - (1 + k.sz)) ∧
    graftF (treeOf ps0 R) (q : Int) (⟨-1, n, ps⟩ :: flat k 0 1) (o - (1 + k.sz)) = treeOf ps0 B := by
  obtain ⟨hqi, hi1, hzo, hoF, hR, hB⟩ := h.bounds (by omega)
  obtain ⟨P, M, T, hP, hM, hT, e1, e2, e3, mP, mM, mT⟩ := h.parts (by omega)
  have e1 : flat F 0 1 = _ := e1
  have e2 : flat R 0 1 = _ := e2
  have e3 : flat B 0 1 = _ := e3
  have hlen := tree_len ps0 F
  have hlenR := tree_len ps0 R
  obtain ⟨A, hA⟩ : ∃ A, A = (⟨-1, ByteArray.empty, ps0⟩ : Nd) :: P := ⟨_, rfl⟩
  obtain ⟨X, hX⟩ : ∃ X, X = (⟨(q : Int), n, ps⟩ : Nd) :: flat k (i : Int) (i + 1) := ⟨_, rfl⟩
  have hAl : A.length = i := by rw [hA, List.length_cons]; omega
  have hXl : X.length = 1 + k.sz := by rw [hX, List.length_cons, flat_len]; omega
  have mA : ∀ x ∈ A, x.p < (i : Int) := fun x hx => by
    rw [hA, List.mem_cons] at hx
    rcases hx with rfl | hx
    · show (-1 : Int) < i; omega
    · exact mP x hx
  have hl : treeOf ps0 F = A ++ (X ++ (M ++ T)) := by unfold treeOf; rw [e1, hA, hX]; rfl
  have hr : treeOf ps0 R = A ++ (M ++ T).map (restOne i (i + 1 + k.sz)) := by unfold treeOf; rw [e2, hA]; rfl
  have hb : treeOf ps0 B = A ++ (M.map (restOne i (i + 1 + k.sz)) ++ ((⟨(q : Int), n, ps⟩ :: flat k ((o - (1 + k.sz) : Nat) : Int) (o - (1 + k.sz) + 1)) ++ T)) := by unfold treeOf; rw [e3, hA]; rfl
  have hi : (treeOf ps0 F)[i]? = some ⟨(q : Int), n, ps⟩ := by
    have := get_of (l := treeOf ps0 F) (A := A) (x := ⟨(q : Int), n, ps⟩) (C := flat k (i : Int) (i + 1) ++ (M ++ T)) (by rw [hl, hX]; rfl)
    rw [hAl] at this
    exact this
  have hpar : parAt (treeOf ps0 F) (i : Int) = (q : Int) := par_at hi
  have hXp : ∀ j : Nat, i < j → j < i + 1 + k.sz → (i : Int) ≤ parAt (treeOf ps0 F) (j : Int) := fun j h1 h2 => by
    obtain ⟨x, hx, hj⟩ := get_mid (l := treeOf ps0 F) (A := A ++ [⟨(q : Int), n, ps⟩]) (M := flat k (i : Int) (i + 1)) (C := M ++ T) (j := j) (by rw [hl, hX]; simp) (by simp; omega) (by simp [flat_len]; omega)
    rw [par_at hj]
    rcases flat_mem hx with g | ⟨g, _⟩ <;> omega
  have hMp : ∀ j : Nat, i + 1 + k.sz ≤ j → j < o → parAt (treeOf ps0 F) (j : Int) = (q : Int) ∨ ((i + 1 + k.sz : Nat) : Int) ≤ parAt (treeOf ps0 F) (j : Int) := fun j h1 h2 => by
    obtain ⟨x, hx, hj⟩ := get_mid (l := treeOf ps0 F) (A := A ++ X) (M := M) (C := T) (j := j) (by rw [hl]; simp) (by simp; omega) (by simp; omega)
    rw [par_at hj]
    exact mM x hx
  have hTp : ∀ j : Nat, o ≤ j → j < (treeOf ps0 F).length → parAt (treeOf ps0 F) (j : Int) < (q : Int) ∨ (o : Int) ≤ parAt (treeOf ps0 F) (j : Int) := fun j h1 h2 => by
    obtain ⟨x, hx, hj⟩ := get_mid (l := treeOf ps0 F) (A := A ++ (X ++ M)) (M := T) (C := []) (j := j) (by rw [hl]; simp) (by simp; omega) (by simp; omega)
    rw [par_at hj]
    exact mT x hx
  have hE1 : EndAt (treeOf ps0 F) i (i + 1 + k.sz) := ⟨by omega, by omega, hXp, fun hz => by
    have hfp := (fine_par hI.fine hz hz).1
    rcases Nat.lt_or_ge (i + 1 + k.sz) o with g | g
    · rcases hMp _ (Nat.le_refl _) g with g2 | g2 <;> omega
    · rcases hTp _ g hz with g2 | g2 <;> omega⟩
  have hiL : i < (treeOf ps0 F).length := by omega
  obtain ⟨y, hy⟩ : ∃ y, EndAt (treeOf ps0 F) q y := end_exists _ (by omega)
  have hyi : i < y := by
    rcases Nat.lt_or_ge i y with g | g
    · exact g
    · exact absurd hpar (hI.past (by omega) hy i g hiL).2
  have hE2 : EndAt (treeOf ps0 F) q o := ⟨by omega, by omega, fun j h1 h2 => by
    rcases Nat.lt_trichotomy j i with g | g | g
    · exact hy.under j h1 (by omega)
    · subst g; omega
    · rcases Nat.lt_or_ge j (i + 1 + k.sz) with g2 | g2
      · have := hXp j g g2; omega
      · rcases hMp j g2 h2 with g3 | g3 <;> omega, fun ho => by
    have hfp := (fine_par hI.fine ho ho).1
    rcases hTp o (Nat.le_refl _) ho with g | g <;> omega⟩
  have hAr : A.map (restOne i (i + 1 + k.sz)) = A := by
    have e : A.map (restOne i (i + 1 + k.sz)) = A.map id := List.map_congr_left fun x hx => by
      have := mA x hx
      exact restOne_low (by omega)
    rw [e, List.map_id]
  refine ⟨hpar, hE1, hE2, ?_, ?_, ?_, ?_⟩
  · unfold restF
    have t1 : (treeOf ps0 F).take i = A := by rw [hl, ← hAl, List.take_left]
    have t2 : (treeOf ps0 F).drop (i + 1 + k.sz) = M ++ T := by
      rw [hl, ← List.append_assoc, show i + 1 + k.sz = (A ++ X).length by rw [List.length_append]; omega, List.drop_left]
    rw [t1, t2, List.map_append, hAr, hr]
  · unfold pieceF
    have t1 : ((treeOf ps0 F).take (i + 1 + k.sz)).drop i = X := by
      rw [hl, ← List.append_assoc, show i + 1 + k.sz = (A ++ X).length by rw [List.length_append]; omega, List.take_left, ← hAl, List.drop_left]
    rw [t1, hX, List.mapIdx_cons]
    have t2 : (fun (j : Nat) (x : Nd) => x.par (if j + 1 = 0 then -1 else x.p - (i : Int))) = fun _ x => x.par (x.p - (i : Int)) := by
      funext j x
      rw [if_neg (by omega)]
    rw [t2, mapIdx_const, flat_down i k i (i + 1) (Nat.le_refl _) (Nat.lt_succ_self i), Nat.sub_self, Nat.add_sub_cancel_left, if_pos rfl]
    rfl
  · refine ⟨by omega, by omega, fun j h1 h2 => ?_, fun ho => ?_⟩
    · rcases Nat.lt_or_ge j i with g | g
      · have e4 : (treeOf ps0 R)[j]? = (treeOf ps0 F)[j]? := by rw [hr, hl, List.getElem?_append_left (by omega), List.getElem?_append_left (by omega)]
        have := hE2.under j h1 (by omega)
        unfold parAt at this ⊢
        rw [Int.toNat_natCast] at this ⊢
        rw [e4]
        exact this
      · obtain ⟨x, hx, hj⟩ := get_mid (l := treeOf ps0 R) (A := A) (M := M.map (restOne i (i + 1 + k.sz))) (C := T.map (restOne i (i + 1 + k.sz))) (j := j) (by rw [hr, List.map_append]) (by omega) (by simp; omega)
        rw [par_at hj]
        obtain ⟨u, hu, rfl⟩ := List.mem_map.1 hx
        rcases mM u hu with g2 | g2
        · rw [restOne_low (by omega), g2]
          exact Int.le_refl _
        · unfold restOne
          rw [if_pos (by omega)]
          show (q : Int) ≤ u.p - (((i + 1 + k.sz : Nat) : Int) - i)
          omega
    · obtain ⟨x, hx, hj⟩ := get_mid (l := treeOf ps0 R) (A := A ++ M.map (restOne i (i + 1 + k.sz))) (M := T.map (restOne i (i + 1 + k.sz))) (C := []) (j := o - (1 + k.sz)) (by rw [hr, List.map_append]; simp) (by simp; omega) (by simp; omega)
      have hT0 : 0 < T.length := by omega
      have hj2 : (treeOf ps0 R)[o - (1 + k.sz)]? = some (restOne i (i + 1 + k.sz) T[0]) := by
        have := get_of (l := treeOf ps0 R) (A := A ++ M.map (restOne i (i + 1 + k.sz))) (x := restOne i (i + 1 + k.sz) T[0]) (C := (T.drop 1).map (restOne i (i + 1 + k.sz))) (by
          rw [hr, List.map_append, List.append_assoc]
          congr 2
          conv => lhs; rw [show T = T[0] :: T.drop 1 by have := List.drop_eq_getElem_cons hT0; simpa using this]
          rfl)
        rw [List.length_append, List.length_map, show A.length + M.length = o - (1 + k.sz) by omega] at this
        exact this
      have hj3 : (treeOf ps0 F)[o]? = some T[0] := by
        have := get_of (l := treeOf ps0 F) (A := A ++ (X ++ M)) (x := T[0]) (C := T.drop 1) (by
          rw [hl, List.append_assoc, List.append_assoc]
          congr 3
          have := List.drop_eq_getElem_cons hT0
          simpa using this)
        rw [List.length_append, List.length_append, show A.length + (X.length + M.length) = o by omega] at this
        exact this
      have := hE2.stop (by omega)
      rw [par_at hj3] at this
      rw [par_at hj2, restOne_low (by omega)]
      exact this
  · unfold graftF
    have o1 : o - (1 + k.sz) = (A ++ M.map (restOne i (i + 1 + k.sz))).length := by rw [List.length_append, List.length_map]; omega
    have t1 : (treeOf ps0 R).take (o - (1 + k.sz)) = A ++ M.map (restOne i (i + 1 + k.sz)) := by
      rw [hr, List.map_append, ← List.append_assoc, o1, List.take_left]
    have t2 : (treeOf ps0 R).drop (o - (1 + k.sz)) = T.map (restOne i (i + 1 + k.sz)) := by
      rw [hr, List.map_append, ← List.append_assoc, o1, List.drop_left]
    have t3 : putF (⟨-1, n, ps⟩ :: flat k 0 1) (q : Int) (o - (1 + k.sz)) = ⟨(q : Int), n, ps⟩ :: flat k ((o - (1 + k.sz) : Nat) : Int) (o - (1 + k.sz) + 1) := by
      unfold putF
      rw [List.mapIdx_cons]
      have t4 : (fun (j : Nat) (x : Nd) => x.par (if j + 1 = 0 then (q : Int) else x.p + ((o - (1 + k.sz) : Nat) : Int))) = fun _ x => x.par (x.p + ((o - (1 + k.sz) : Nat) : Int)) := by
        funext j x
        rw [if_neg (by omega)]
      have t5 := flat_lift (o - (1 + k.sz)) k 0 1
      rw [t4, mapIdx_const, if_pos rfl]
      rw [show (0 : Nat) + (o - (1 + k.sz)) = o - (1 + k.sz) by omega, show 1 + (o - (1 + k.sz)) = o - (1 + k.sz) + 1 by omega] at t5
      rw [← t5]
      rfl
    have t6 : (T.map (restOne i (i + 1 + k.sz))).map (liftOne (o - (1 + k.sz)) ((⟨-1, n, ps⟩ : Nd) :: flat k 0 1).length) = T := by
      rw [List.map_map]
      conv => rhs; rw [← List.map_id T]
      refine List.map_congr_left fun x hx => ?_
      rw [List.length_cons, flat_len]
      show liftOne _ _ (restOne _ _ x) = x
      rcases mT x hx with g | g
      · rw [restOne_low (by omega)]
        unfold liftOne
        rw [if_neg (by omega)]
      · unfold restOne
        rw [if_pos (by omega)]
        unfold liftOne
        rw [if_pos (by show ((o - (1 + k.sz) : Nat) : Int) ≤ x.p - (((i + 1 + k.sz : Nat) : Int) - i); omega)]
        unfold Nd.par
        simp only
        rw [show x.p - (((i + 1 + k.sz : Nat) : Int) - (i : Int)) + ((k.sz + 1 : Nat) : Int) = x.p by omega]
    rw [t1, t2, t3, t6, hb]
    simp only [List.append_assoc, List.cons_append]
end Go.Proofs.YtmdnbajbfnhecaaGreatDoor
