/- The plain law of TreeOrder: a tree the other way round; twice in order is once. -/
import Derived.Test.YtmdnbajbfnhecaaGreatDoorFoUse
set_option linter.unusedVariables false
namespace Go.Proofs.YtmdnbajbfnhecaaGreatDoor
open Go.RowKit
def prK (q : Pr) : List UInt8 := q.n.data.toList
theorem propsB_iff {ps : List Pr} : propsB ps = true ↔ ps.length ≤ 32 ∧ (∀ y ∈ ps, nameB y.n.data.toList = true ∧ y.v.size ≤ 1024) ∧ ps.Pairwise (fun a b => a.n ≠ b.n) := by
  unfold propsB
  rw [Bool.and_eq_true, decide_eq_true_eq]
  constructor
  · rintro ⟨h1, h2⟩
    have h3 := all_range.1 h2
    refine ⟨h1, fun y hy => ?_, ?_⟩
    · obtain ⟨j, hj, rfl⟩ := List.mem_iff_getElem.1 hy
      have h4 := h3 j hj
      rw [prop_some hj] at h4
      simp only [Bool.and_eq_true, decide_eq_true_eq] at h4
      exact h4.1
    · rw [List.pairwise_iff_getElem]
      intro i j hi hj hij
      have h4 := h3 j hj
      rw [prop_some hj] at h4
      simp only [Bool.and_eq_true, decide_eq_true_eq] at h4
      exact (apart_iff (by omega) _).1 h4.2 i hi hij
  · rintro ⟨h1, h2, h3⟩
    refine ⟨h1, all_range.2 fun j hj => ?_⟩
    rw [prop_some hj]
    simp only [Bool.and_eq_true, decide_eq_true_eq]
    refine ⟨h2 _ (List.getElem_mem hj), (apart_iff (by omega) _).2 fun i hi hij => ?_⟩
    exact List.pairwise_iff_getElem.1 h3 i j hi hj hij
theorem propsB_perm {a b : List Pr} (hp : a.Perm b) (h : propsB a = true) : propsB b = true := by
  obtain ⟨h1, h2, h3⟩ := propsB_iff.1 h
  exact propsB_iff.2 ⟨by rw [← hp.length_eq]; exact h1, fun y hy => h2 y (hp.symm.subset hy), hp.pairwise h3 fun hab e => hab e.symm⟩
theorem valF_some {ps : List Pr} {k v : ByteArray} (h : ps.Pairwise (fun a b => a.n ≠ b.n)) : valF ps k = some v ↔ ∃ y ∈ ps, y.n = k ∧ y.v = v := by
  induction ps with
  | nil => simp [valF]
  | cons x r ih =>
    rw [List.pairwise_cons] at h
    unfold valF at ih ⊢
    rw [List.find?_cons]
    by_cases hx : x.n = k
    · rw [decide_eq_true hx]
      simp only [Option.map_some, Option.some.injEq, List.mem_cons]
      constructor
      · intro hv
        exact ⟨x, .inl rfl, hx, hv⟩
      · rintro ⟨y, rfl | hy, h1, h2⟩
        · exact h2
        · exact absurd (hx.trans h1.symm) (h.1 y hy)
    · rw [decide_eq_false hx]
      simp only [List.mem_cons]
      rw [ih h.2]
      constructor
      · rintro ⟨y, hy, h1⟩
        exact ⟨y, .inr hy, h1⟩
      · rintro ⟨y, rfl | hy, h1, h2⟩
        · exact absurd h1 hx
        · exact ⟨y, hy, h1, h2⟩
theorem valF_perm {a b : List Pr} (hp : a.Perm b) (h : propsB a = true) (k : ByteArray) : valF b k = valF a k := by
  have h1 := (propsB_iff.1 h).2.2
  have h2 := (propsB_iff.1 (propsB_perm hp h)).2.2
  apply Option.ext
  intro v
  rw [valF_some h1, valF_some h2]
  constructor
  · rintro ⟨y, hy, e⟩
    exact ⟨y, hp.symm.subset hy, e⟩
  · rintro ⟨y, hy, e⟩
    exact ⟨y, hp.subset hy, e⟩
theorem rev_perm {α : Type} (l : List α) : l.Perm l.reverse := (List.reverse_perm l).symm
theorem valS_rev {a : List Pr} (h : propsB a = true) (k : ByteArray) : valS a.reverse k = valS a k := by unfold valS; rw [valF_perm (rev_perm a) h]
theorem valB_rev {a : List Pr} (h : propsB a = true) (k : ByteArray) : valB a.reverse k = valB a k := by unfold valB; rw [valF_perm (rev_perm a) h]
theorem onN_rev {a : List Pr} (h : propsB a = true) : onN a.reverse = onN a := by unfold onN; rw [valS_rev h, valB_rev h]
theorem handF_rev {a : List Pr} (h : propsB a = true) : handF a.reverse = handF a := by unfold handF; rw [valS_rev h, valB_rev h]
theorem saysL_rev {a : List Pr} (h : propsB a = true) : saysL a.reverse = saysL a := by unfold saysL; rw [valS_rev h]
theorem sort_rev {a : List Pr} (h : propsB a = true) : sortN (fun q : Pr => q.n.data.toList) a.reverse = sortN (fun q : Pr => q.n.data.toList) a := by
  have h1 := props_apart h
  have h2 := props_apart (propsB_perm (rev_perm a) h)
  obtain ⟨s1, s2⟩ := sort_ok _ _ h2
  exact sort_is _ h1 (s1.trans (rev_perm a).symm) s2
theorem sort_sort {a : List Pr} (h : propsB a = true) : sortN (fun q : Pr => q.n.data.toList) (sortN (fun q : Pr => q.n.data.toList) a) = sortN (fun q : Pr => q.n.data.toList) a := by
  have h1 := props_apart h
  obtain ⟨s1, s2⟩ := sort_ok _ _ h1
  have h2 := props_apart (propsB_perm s1.symm h)
  exact (sort_is _ h2 (.refl _) s2).symm
/-! The other way round. -/
def mir : Fo → Fo
  | .nil => .nil
  | .cons n ps k s => snocFo n ps.reverse (mir k) (mir s)
theorem mir_sz : ∀ F : Fo, (mir F).sz = F.sz
  | .nil => rfl
  | .cons n ps k s => by simp only [mir, snoc_sz, mir_sz k, mir_sz s, Fo.sz]; omega
theorem good_mir : ∀ {F : Fo} {d : Nat} {seen : List ByteArray}, Good F d seen → Good (mir F) d seen
  | .nil, _, _, _ => trivial
  | .cons n ps k s, d, seen, ⟨h1, h2, h3, h4, h5, h6⟩ => (good_mir h6).snoc h1 (propsB_perm (rev_perm ps) h2) h3 h4 (good_mir h5)
theorem sort_mir : ∀ {F : Fo} {d : Nat} {seen : List ByteArray}, Good F d seen → sortFo (mir F) = sortFo F
  | .nil, _, _, _ => rfl
  | .cons n ps k s, d, seen, ⟨h1, h2, h3, h4, h5, h6⟩ => by
    rw [mir, sort_snoc _ (fun hc => ((good_mir h6).tops _ hc) List.mem_cons_self), sort_rev h2, sort_mir h5, sort_mir h6]
    rfl
theorem good_ins {n : ByteArray} {ps : List Pr} {k : Fo} : ∀ {F : Fo} {d : Nat} {seen : List ByteArray}, Good F d (n :: seen) → nameB n.data.toList = true → propsB ps = true → d ≤ 16 → n ∉ seen → Good k (d + 1) [] → Good (insFo n ps k F) d seen
  | .nil, d, seen, _, h1, h2, h3, h4, h5 => ⟨h1, h2, h3, h4, h5, trivial⟩
  | .cons m qs j s, d, seen, ⟨g1, g2, g3, g4, g5, g6⟩, h1, h2, h3, h4, h5 => by
    rw [insFo]
    split
    · exact ⟨h1, h2, h3, h4, h5, g1, g2, g3, g4, g5, g6⟩
    · rw [List.mem_cons, not_or] at g4
      refine ⟨g1, g2, g3, g4.2, g5, good_ins (g6.fewer fun x hx => ?_) h1 h2 h3 ?_ h5⟩
      · simp only [List.mem_cons] at hx ⊢
        rcases hx with h | h | h
        · exact .inr (.inl h)
        · exact .inl h
        · exact .inr (.inr h)
      · rw [List.mem_cons, not_or]
        exact ⟨fun e => g4.1 e.symm, h4⟩
theorem good_sort : ∀ {F : Fo} {d : Nat} {seen : List ByteArray}, Good F d seen → Good (sortFo F) d seen
  | .nil, _, _, _ => trivial
  | .cons n ps k s, d, seen, ⟨h1, h2, h3, h4, h5, h6⟩ => good_ins (good_sort h6) h1 (propsB_perm (sort_ok _ _ (props_apart h2)).1.symm h2) h3 h4 (good_sort h5)
theorem ins_sz (n : ByteArray) (ps : List Pr) (k : Fo) : ∀ F : Fo, (insFo n ps k F).sz = F.sz + (1 + k.sz)
  | .nil => by simp [insFo, Fo.sz]
  | .cons m qs j s => by
    rw [insFo]
    split
    · simp only [Fo.sz]; omega
    · simp only [Fo.sz, ins_sz n ps k s]; omega
theorem sort_sz : ∀ F : Fo, (sortFo F).sz = F.sz
  | .nil => rfl
  | .cons n ps k s => by simp only [sortFo, ins_sz, sort_sz k, sort_sz s, Fo.sz]; omega
/-- A forest in order. -/
def UpFo : Fo → Prop
  | .nil => True
  | .cons n ps k s => (∀ m ∈ tops s, ltN n.data.toList m.data.toList = true) ∧ sortN (fun q : Pr => q.n.data.toList) ps = ps ∧ UpFo k ∧ UpFo s
theorem sort_up : ∀ {F : Fo}, UpFo F → sortFo F = F
  | .nil, _ => rfl
  | .cons n ps k s, ⟨h1, h2, h3, h4⟩ => by
    rw [sortFo, h2, sort_up h3, sort_up h4]
    cases s with
    | nil => rfl
    | cons m qs j t => rw [insFo, if_pos (h1 m List.mem_cons_self)]
theorem ins_tops {n : ByteArray} {ps : List Pr} {k : Fo} : ∀ {F : Fo} {x : ByteArray}, x ∈ tops (insFo n ps k F) → x = n ∨ x ∈ tops F
  | .nil, x, h => by
    simp only [insFo, tops, List.mem_singleton] at h
    exact .inl h
  | .cons m qs j s, x, h => by
    rw [insFo] at h
    split at h
    · simp only [tops, List.mem_cons] at h ⊢
      exact h
    · simp only [tops, List.mem_cons] at h ⊢
      rcases h with h | h
      · exact .inr (.inl h)
      · rcases ins_tops h with h | h
        · exact .inl h
        · exact .inr (.inr h)
theorem up_ins {n : ByteArray} {ps : List Pr} {k : Fo} (hs : sortN (fun q : Pr => q.n.data.toList) ps = ps) (hk : UpFo k) : ∀ {F : Fo}, UpFo F → n ∉ tops F → UpFo (insFo n ps k F)
  | .nil, _, _ => ⟨fun m hm => (by cases hm), hs, hk, trivial⟩
  | .cons m qs j s, ⟨h1, h2, h3, h4⟩, hn => by
    simp only [tops, List.mem_cons, not_or] at hn
    rw [insFo]
    split
    · rename_i hlt
      refine ⟨fun x hx => ?_, hs, hk, h1, h2, h3, h4⟩
      simp only [tops, List.mem_cons] at hx
      rcases hx with rfl | hx
      · exact hlt
      · exact ltN_swo.trans _ _ _ hlt (h1 x hx)
    · rename_i hlt
      refine ⟨fun x hx => ?_, h2, h3, up_ins hs hk h4 hn.2⟩
      rcases ins_tops hx with rfl | hx
      · rcases ltN_total (toL_ne hn.1) with h | h
        · exact absurd h hlt
        · exact h
      · exact h1 x hx
theorem sort_tops : ∀ {F : Fo} {x : ByteArray}, x ∈ tops (sortFo F) → x ∈ tops F
  | .nil, _, h => h
  | .cons n ps k s, x, h => by
    rcases ins_tops h with h | h
    · simp only [tops, List.mem_cons]; exact .inl h
    · simp only [tops, List.mem_cons]; exact .inr (sort_tops h)
theorem up_sort : ∀ {F : Fo} {d : Nat} {seen : List ByteArray}, Good F d seen → UpFo (sortFo F)
  | .nil, _, _, _ => trivial
  | .cons n ps k s, d, seen, ⟨h1, h2, h3, h4, h5, h6⟩ => up_ins (sort_sort h2) (up_sort h5) (up_sort h6) (fun hc => h6.tops _ (sort_tops hc) List.mem_cons_self)
/-! What the recursion writes. -/
def turnF (l : List Nd) : Nat → Nat → Int → Nat → List Nd
  | 0, _, _, _ => []
  | f + 1, i, par, b => { p := par, n := bareN l i, ps := (propsN l i).reverse } :: ordKids (fun k c => turnF l f k b c) (kidsN l i).reverse (b + 1)
theorem turnF_fuel (l : List Nd) : ∀ (f g i : Nat) (par : Int) (b : Nat), i < l.length → l.length ≤ i + f → l.length ≤ i + g → turnF l f i par b = turnF l g i par b
  | 0, _, _, _, _, h, h1, _ => by omega
  | _ + 1, 0, _, _, _, h, _, h2 => by omega
  | f + 1, g + 1, i, par, b, h, h1, h2 => by
    rw [turnF, turnF]
    congr 1
    refine ordKids_congr _ _ fun k hk c => ?_
    obtain ⟨h3, h4, _⟩ := kidsN_mem (List.mem_reverse.1 hk)
    exact turnF_fuel l f g k b c h4 (by omega) (by omega)
def turnN (l : List Nd) (i : Nat) (par : Int) (b : Nat) : List Nd := turnF l (l.length - i) i par b
theorem turnN_step (l : List Nd) (i : Nat) (par : Int) (b : Nat) (h : i < l.length) :
    turnN l i par b = { p := par, n := bareN l i, ps := (propsN l i).reverse } :: ordKids (fun k c => turnN l k b c) (kidsN l i).reverse (b + 1) := by
  unfold turnN
  obtain ⟨f, hf⟩ : ∃ f, l.length - i = f + 1 := ⟨l.length - i - 1, by omega⟩
  rw [hf, turnF]
  congr 1
  refine ordKids_congr _ _ fun k hk c => ?_
  obtain ⟨h3, h4, _⟩ := kidsN_mem (List.mem_reverse.1 hk)
  exact turnF_fuel l f (l.length - k) k b c h4 (by omega) (by omega)
theorem ordKids_append (rec : Nat → Nat → List Nd) : ∀ (a b : List Nat) (c : Nat), ordKids rec (a ++ b) c = ordKids rec a c ++ ordKids rec b (c + (ordKids rec a c).length)
  | [], _, _ => by simp [ordKids]
  | k :: r, b, c => by
    rw [List.cons_append, ordKids, ordKids, ordKids_append rec r b, List.append_assoc, List.length_append, Nat.add_assoc]
/-- A list of places stands for a forest, the other way. -/
def RepT (l : List Nd) : List Nat → Fo → Prop
  | [], .nil => True
  | t :: r, .cons n ps k s => (∀ (q : Int) (c : Nat), turnN l t q c = ⟨q, n, ps⟩ :: flat k (c : Int) (c + 1)) ∧ RepT l r s
  | _, _ => False
theorem repT_ord {l : List Nd} (q : Int) : ∀ {r : List Nat} {F : Fo} (c : Nat), RepT l r F → ordKids (fun k c => turnN l k q c) r c = flat F q c
  | [], .nil, _, _ => rfl
  | t :: r, .cons n ps k s, c, h => by
    obtain ⟨h2, h3⟩ := h
    rw [ordKids, h2, List.length_cons, flat_len, repT_ord q _ h3, flat, show c + (k.sz + 1) = c + 1 + k.sz by omega]
    rfl
  | [], .cons _ _ _ _, _, h => h.elim
  | _ :: _, .nil, _, h => h.elim
theorem repT_snoc {l : List Nd} {t : Nat} {n : ByteArray} {ps : List Pr} {k : Fo} (ho : ∀ (q : Int) (c : Nat), turnN l t q c = ⟨q, n, ps⟩ :: flat k (c : Int) (c + 1)) :
    ∀ {r : List Nat} {F : Fo}, RepT l r F → RepT l (r ++ [t]) (snocFo n ps k F)
  | [], .nil, _ => ⟨ho, trivial⟩
  | u :: r, .cons m qs j s, h => ⟨h.1, repT_snoc ho h.2⟩
  | [], .cons _ _ _ _, h => h.elim
  | _ :: _, .nil, h => h.elim
theorem rep_mir {l : List Nd} : ∀ (F : Fo) (p b : Nat), Lie l F (p : Int) b → p < b → b + F.sz ≤ l.length → (∀ j : Nat, b + F.sz ≤ j → j < l.length → ∀ i : Nat, b ≤ i → i < b + F.sz → parAt l j ≠ (i : Int)) →
    RepT l (posns F b).reverse (mir F)
  | .nil, _, _, _, _, _, _ => trivial
  | .cons n ps k s, p, b, h, hpb, hle, hout => by
    obtain ⟨ha, hk, hs⟩ := h
    simp only [Fo.sz] at hle hout
    have hsout : ∀ j : Nat, b + 1 + k.sz ≤ j → j < l.length → ∀ i : Nat, b ≤ i → i < b + 1 + k.sz → parAt l j ≠ (i : Int) := fun j h1 h2 i h3 h4 he => by
      rcases Nat.lt_or_ge j (b + 1 + k.sz + s.sz) with h5 | h5
      · rcases hs.par j h1 h5 with h6 | h6 <;> omega
      · exact hout j (by omega) h2 i h3 (by omega) he
    have hkR := rep_mir k b (b + 1) hk (Nat.lt_succ_self b) (by omega) (fun j h1 h2 i h3 h4 => hsout j h1 h2 i (by omega) h4)
    have hsR := rep_mir s p (b + 1 + k.sz) hs (by omega) (by omega) (fun j h1 h2 i h3 h4 => hout j (by omega) h2 i (by omega) (by omega))
    rw [posns, List.reverse_cons, mir]
    refine repT_snoc ?_ hsR
    intro q c
    rw [turnN_step l b q c (by omega)]
    have e1 : bareN l b = n := by unfold bareN; rw [ha]
    have e2 : propsN l b = ps := by unfold propsN; rw [ha]
    have e3 : kidsN l b = posns k (b + 1) := kids_of k b (b + 1) hk (Nat.lt_succ_self b) (by omega) (fun j h1 h2 => hsout j h1 h2 b (Nat.le_refl _) (by omega))
    rw [e1, e2, e3, repT_ord _ _ hkR]
theorem turn_tree (ps : List Pr) (F : Fo) : turnN (treeOf ps F) 0 (-1) 0 = treeOf ps.reverse (mir F) := by
  have hl := tree_lie ps F
  have hlen := tree_len ps F
  have h0 : (treeOf ps F)[0]? = some ⟨-1, ByteArray.empty, ps⟩ := rfl
  rw [turnN_step _ 0 (-1) 0 (by omega)]
  have e1 : bareN (treeOf ps F) 0 = ByteArray.empty := by unfold bareN; rw [h0]
  have e2 : propsN (treeOf ps F) 0 = ps := by unfold propsN; rw [h0]
  have e3 : kidsN (treeOf ps F) 0 = posns F 1 := kids_of F 0 1 hl (by omega) (by omega) (fun j h1 h2 => by omega)
  have hr := rep_mir F 0 1 hl (by omega) (by omega) (fun j h1 h2 => by omega)
  rw [e1, e2, e3, repT_ord _ _ hr]
  rfl
/-! Who stands where: the names and props from a node up. -/
abbrev Up1 := List UInt8 × List Pr
def upD (l : List Nd) (i : Int) : List Up1 := (above l i).map fun j => (nameAt l j.toNat, holdF.propsAt l j.toNat)
def rv (x : Up1) : Up1 := (x.1, x.2.reverse)
inductive InU : Fo → Nat → Nat → List Up1 → Nat → List Up1 → Prop
  | here {n : ByteArray} {ps : List Pr} {k s : Fo} {p b : Nat} {up : List Up1} : InU (.cons n ps k s) p b up b ((n.data.toList, ps) :: up)
  | side {m : ByteArray} {qs : List Pr} {j s : Fo} {p b i : Nat} {up U : List Up1} (h : InU s p (b + 1 + j.sz) up i U) : InU (.cons m qs j s) p b up i U
  | down {m : ByteArray} {qs : List Pr} {j s : Fo} {p b i : Nat} {up U : List Up1} (h : InU j b (b + 1) ((m.data.toList, qs) :: up) i U) : InU (.cons m qs j s) p b up i U
theorem inU_exists : ∀ (F : Fo) (p b i : Nat) (up : List Up1), b ≤ i → i < b + F.sz → ∃ U, InU F p b up i U
  | .nil, p, b, i, up, h1, h2 => by simp only [Fo.sz] at h2; omega
  | .cons m qs j s, p, b, i, up, h1, h2 => by
    simp only [Fo.sz] at h2
    rcases Nat.eq_or_lt_of_le h1 with rfl | h3
    · exact ⟨_, .here⟩
    · rcases Nat.lt_or_ge i (b + 1 + j.sz) with h4 | h4
      · obtain ⟨U, h⟩ := inU_exists j b (b + 1) i ((m.data.toList, qs) :: up) h3 h4
        exact ⟨_, .down h⟩
      · obtain ⟨U, h⟩ := inU_exists s p (b + 1 + j.sz) i up h4 (by omega)
        exact ⟨_, .side h⟩
theorem inU_bounds {F : Fo} {p b i : Nat} {up U : List Up1} (h : InU F p b up i U) : b ≤ i ∧ i < b + F.sz := by
  induction h with
  | here => simp only [Fo.sz]; omega
  | side h ih => simp only [Fo.sz]; omega
  | down h ih => simp only [Fo.sz]; omega
theorem upD_step {l : List Nd} (hf : Fine l l.length) {i : Nat} (hi : i < l.length) {p : Int} {n : ByteArray} {ps : List Pr} (ha : l[i]? = some ⟨p, n, ps⟩) : upD l i = (n.data.toList, ps) :: upD l p := by
  unfold upD
  rw [above_step hf (Nat.le_refl _) hi, List.map_cons, par_at ha, Int.toNat_natCast]
  unfold nameAt holdF.propsAt
  rw [ha]
theorem inU_up {l : List Nd} (hf : Fine l l.length) {F : Fo} {p b i : Nat} {up U : List Up1} (h : InU F p b up i U) : Lie l F (p : Int) b → b + F.sz ≤ l.length → upD l (p : Int) = up → upD l (i : Int) = U := by
  induction h with
  | here =>
    intro hl hle hu
    simp only [Fo.sz] at hle
    rw [upD_step hf (by omega) hl.1, hu]
  | side h ih =>
    intro hl hle hu
    simp only [Fo.sz] at hle
    exact ih hl.2.2 (by omega) hu
  | down h ih =>
    intro hl hle hu
    simp only [Fo.sz] at hle
    exact ih hl.2.1 (by omega) (by rw [upD_step hf (by omega) hl.1, hu])
theorem inU_left {n : ByteArray} {ps : List Pr} {k : Fo} {G : Fo} {p b i : Nat} {up U : List Up1} (h : InU G p b up i U) : InU (snocFo n ps k G) p b up i U := by
  induction h with
  | here => exact .here
  | side h ih => exact .side ih
  | down h ih => exact .down h
theorem inU_last {n : ByteArray} {ps : List Pr} {k : Fo} {up : List Up1} : ∀ (G : Fo) (p b : Nat), InU (snocFo n ps k G) p b up (b + G.sz) ((n.data.toList, ps) :: up)
  | .nil, p, b => .here
  | .cons m qs j s, p, b => by
    have := inU_last (n := n) (ps := ps) (k := k) (up := up) s p (b + 1 + j.sz)
    rw [show b + 1 + j.sz + s.sz = b + (Fo.cons m qs j s).sz by simp only [Fo.sz]; omega] at this
    exact .side this
theorem inU_under {n : ByteArray} {ps : List Pr} {k : Fo} {up U : List Up1} {i : Nat} : ∀ (G : Fo) (p b : Nat), InU k (b + G.sz) (b + G.sz + 1) ((n.data.toList, ps) :: up) i U → InU (snocFo n ps k G) p b up i U
  | .nil, p, b, h => .down h
  | .cons m qs j s, p, b, h => by
    refine .side (inU_under s p (b + 1 + j.sz) ?_)
    rw [show b + 1 + j.sz + s.sz = b + (Fo.cons m qs j s).sz by simp only [Fo.sz]; omega]
    exact h
theorem inU_mir {F : Fo} {p b i : Nat} {up U : List Up1} (h : InU F p b up i U) : ∀ (p' c : Nat), ∃ k, InU (mir F) p' c (up.map rv) k (U.map rv) := by
  induction h with
  | here => intro p' c; exact ⟨_, inU_last _ p' c⟩
  | side h ih =>
    intro p' c
    obtain ⟨k, hk⟩ := ih p' c
    exact ⟨k, inU_left hk⟩
  | @down m qs j s p b i up U h ih =>
    intro p' c
    obtain ⟨k, hk⟩ := ih (c + (mir s).sz) (c + (mir s).sz + 1)
    exact ⟨k, inU_under _ p' c hk⟩
def pathU (U : List Up1) : List UInt8 := if U.length ≤ 1 then [47] else strokes ((U.dropLast.reverse).map (·.1))
theorem path_up {l : List Nd} (h : Is l) {i : Nat} (hi : i < l.length) : pathL l i = pathU (upD l i) := by
  have hs := (above_segs h.fine i hi).1
  have hlen : (upD l i).length = (above l i).length := by unfold upD; rw [List.length_map]
  unfold pathL pathU
  rw [hlen]
  rcases Nat.eq_zero_or_pos i with rfl | h0
  · have hp := (fine_par h.fine (j := 0) hi hi).1
    have : above l ((0 : Nat) : Int) = [((0 : Nat) : Int)] := by
      rw [above_step h.fine (Nat.le_refl _) hi, above_neg l (i := parAt l ((0 : Nat) : Int)) (by omega)]
    rw [if_pos rfl, if_pos (by rw [this]; simp)]
  · obtain ⟨p, hp, hpi⟩ := h.par h0 hi
    have h2 : 2 ≤ (above l (i : Int)).length := by
      rw [above_step h.fine (Nat.le_refl _) hi, hp, above_step h.fine (Nat.le_refl _) (by omega), List.length_cons, List.length_cons]
      omega
    rw [if_neg (by omega), if_neg (by omega), ← hs]
    congr 1
    unfold upD
    rw [← List.map_dropLast, ← List.map_reverse, List.map_map]
    rfl
theorem on_up (l : List Nd) (i : Int) : onB l i = (upD l i).all fun x => onN x.2 := by
  unfold onB upD
  rw [List.all_map]
  rfl
theorem props_up {l : List Nd} (h : Is l) {i : Nat} (hi : i < l.length) : ∃ r, upD l i = (nameAt l i, holdF.propsAt l i) :: r := by
  refine ⟨upD l l[i].p, ?_⟩
  rw [upD_step h.fine hi (p := (l[i]).p) (n := l[i].n) (ps := l[i].ps) (List.getElem?_eq_getElem hi)]
  unfold nameAt holdF.propsAt
  rw [List.getElem?_eq_getElem hi]
/-! Handles: how many nodes have one. -/
def hasH (x : Nat) (d : Nd) : Bool := handF d.ps == x
theorem cnt_mir (x : Nat) : ∀ {F : Fo} {d : Nat} {seen : List ByteArray} {p p' : Int} {b b' : Nat}, Good F d seen → (flat (mir F) p b).countP (hasH x) = (flat F p' b').countP (hasH x)
  | .nil, _, _, _, _, _, _, _ => rfl
  | .cons n ps k s, d, seen, p, p', b, b', ⟨h1, h2, h3, h4, h5, h6⟩ => by
    simp only [mir, snoc_flat, flat, List.countP_append, List.countP_cons]
    rw [cnt_mir x (p' := p') (b' := b' + 1 + k.sz) h6, cnt_mir x (p' := (b' : Int)) (b' := b' + 1) h5]
    have : hasH x ⟨p, n, ps.reverse⟩ = hasH x ⟨p', n, ps⟩ := by unfold hasH; rw [handF_rev h2]
    rw [this]
    omega
theorem two_count {l : List Nd} {f : Nd → Bool} {i j : Nat} (hij : i < j) (hj : j < l.length) (h1 : f (l[i]'(by omega)) = true) (h2 : f l[j] = true) : 2 ≤ l.countP f := by
  have hi : i < l.length := by omega
  have e1 : l = l.take j ++ l[j] :: l.drop (j + 1) := by rw [List.getElem_cons_drop, List.take_append_drop]
  have e2 : 0 < (l.take j).countP f := by
    rw [List.countP_pos_iff]
    exact ⟨l[i], by rw [List.mem_take_iff_getElem]; exact ⟨i, by omega, rfl⟩, h1⟩
  rw [e1, List.countP_append, List.countP_cons, if_pos h2]
  omega
theorem hold_one {l : List Nd} {x i : Nat} (hc : l.countP (hasH x) = 1) (hi : i < l.length) (hx : handF (holdF.propsAt l i) = x) : holdF l x = some i := by
  have hat : ∀ (j : Nat) (hj : j < l.length), holdF.propsAt l j = l[j].ps := fun j hj => by
    unfold holdF.propsAt
    rw [List.getElem?_eq_getElem hj]
  unfold holdF
  rw [List.find?_range_eq_some]
  refine ⟨by rw [hx]; exact beq_self_eq_true x, by simpa using hi, fun j hj => ?_⟩
  cases hb : handF (holdF.propsAt l j) == x with
  | false => rfl
  | true =>
    exfalso
    have h1 : hasH x (l[j]'(by omega)) = true := by unfold hasH; rw [← hat j (by omega)]; exact hb
    have h2 : hasH x l[i] = true := by unfold hasH; rw [← hat i hi, hx]; exact beq_self_eq_true x
    have := two_count hj hi h1 h2
    omega
/-- A tree and the same the other way round. -/
structure Turned (D T : List Nd) : Prop where
  ist : Is T
  len : T.length = D.length
  data : turnN D 0 (-1) 0 = T
  same : sortR T = sortR D
  twice : sortR (sortR D) = sortR D
  ord : Is (sortR D)
  cor : ∀ i : Nat, i < D.length → ∃ k : Nat, k < T.length ∧ upD T k = (upD D i).map rv
  cnt : ∀ x : Nat, T.countP (hasH x) = D.countP (hasH x)
theorem good_props : ∀ {F : Fo} {d : Nat} {seen : List ByteArray} {p : Int} {b : Nat}, Good F d seen → ∀ x ∈ flat F p b, propsB x.ps = true
  | .nil, _, _, _, _, _, x, hx => by cases hx
  | .cons n ps k s, d, seen, p, b, ⟨h1, h2, h3, h4, h5, h6⟩, x, hx => by
    simp only [flat, List.mem_cons, List.mem_append] at hx
    rcases hx with rfl | hx | hx
    · exact h2
    · exact good_props h5 x hx
    · exact good_props h6 x hx
theorem turned_law {D : List Nd} (h : Is D) : ∃ T, Turned D T := by
  obtain ⟨ps0, F, rfl⟩ := parse h
  obtain ⟨t1, t2, t3⟩ := tree_iff.1 h
  have hT : Is (treeOf ps0.reverse (mir F)) := tree_iff.2 ⟨propsB_perm (rev_perm ps0) t1, by rw [mir_sz]; exact t2, good_mir t3⟩
  have hS : Is (treeOf (sortN (fun q : Pr => q.n.data.toList) ps0) (sortFo F)) := tree_iff.2 ⟨propsB_perm (sort_ok _ _ (props_apart t1)).1.symm t1, by rw [sort_sz]; exact t2, good_sort t3⟩
  have e0 : sortR (treeOf ps0 F) = treeOf (sortN (fun q : Pr => q.n.data.toList) ps0) (sortFo F) := by
    unfold sortR
    rw [if_pos h.ok, sorted_tree]
  refine ⟨_, hT, by rw [tree_len, tree_len, mir_sz], turn_tree ps0 F, ?_, ?_, by rw [e0]; exact hS, ?_, fun x => ?_⟩
  · rw [e0]
    unfold sortR
    rw [if_pos hT.ok, sorted_tree, sort_rev t1, sort_mir t3]
  · rw [e0]
    unfold sortR
    rw [if_pos hS.ok, sorted_tree, sort_sort t1, sort_up (up_sort t3)]
  · intro i hi
    have hlen := tree_len ps0 F
    have hlT := tree_len ps0.reverse (mir F)
    have u0 : ∀ (ps : List Pr) (G : Fo), Is (treeOf ps G) → upD (treeOf ps G) ((0 : Nat) : Int) = [([], ps)] := fun ps G hG => by
      rw [upD_step hG.fine hG.pos (p := -1) (n := ByteArray.empty) (ps := ps) rfl]
      unfold upD
      rw [above_neg _ (i := -1) (by decide)]
      rfl
    rcases Nat.eq_zero_or_pos i with rfl | h0
    · refine ⟨0, hT.pos, ?_⟩
      rw [u0 _ _ hT, u0 _ _ h]
      rfl
    · obtain ⟨U, hU⟩ := inU_exists F 0 1 i [([], ps0)] h0 (by omega)
      obtain ⟨k, hk⟩ := inU_mir hU 0 1
      obtain ⟨b1, b2⟩ := inU_bounds hk
      refine ⟨k, by rw [hlT]; omega, ?_⟩
      rw [inU_up hT.fine hk (tree_lie _ _) (by rw [hlT]; omega) (u0 _ _ hT), inU_up h.fine hU (tree_lie _ _) (by rw [hlen]; omega) (u0 _ _ h)]
  · unfold treeOf
    rw [List.countP_cons, List.countP_cons, cnt_mir x (p' := 0) (b' := 1) t3]
    have : hasH x ⟨-1, ByteArray.empty, ps0.reverse⟩ = hasH x ⟨-1, ByteArray.empty, ps0⟩ := by unfold hasH; rw [handF_rev t1]
    rw [this]
theorem fine_propsAt {l : List Nd} (h : Is l) {i : Nat} (hi : i < l.length) : propsB (holdF.propsAt l i) = true := by
  have hn := h.fine i hi
  unfold nodeOkB at hn
  unfold holdF.propsAt
  rw [List.getElem?_eq_getElem hi] at hn ⊢
  simp only [Bool.and_eq_true] at hn
  exact hn.1.2
/-- What is said of a node, and of the one that stands for it. -/
theorem turned_at {D T : List Nd} (h : Is D) (ht : Turned D T) {i : Nat} (hi : i < D.length) : ∃ k : Nat, k < T.length ∧ findV T (pathB D i) = ((k : Int), 0) ∧ onV T (k : Int) = onV D (i : Int) ∧ handofV T (k : Int) = handofV D (i : Int) ∧ plainV T (k : Int) = plainV D (i : Int) ∧
    compL T (k : Int) = compL D (i : Int) ∧ ∀ x : Nat, handofV D (i : Int) = (x, 0) → D.countP (hasH x) = 1 → handV D x = ((i : Int), 0) ∧ handV T x = ((k : Int), 0) := by
  obtain ⟨k, hk, hu⟩ := ht.cor i hi
  have hps := fine_propsAt h hi
  obtain ⟨r, hr⟩ := props_up h hi
  obtain ⟨r', hr'⟩ := props_up ht.ist hk
  have hpr : holdF.propsAt T k = (holdF.propsAt D i).reverse := by
    rw [hr, hr', List.map_cons] at hu
    injection hu with hu _
    unfold rv at hu
    exact congrArg Prod.snd hu
  have hpath : pathB T k = pathB D i := by
    unfold pathB
    rw [path_up ht.ist hk, path_up h hi, hu]
    unfold pathU
    rw [List.length_map, ← List.map_dropLast, ← List.map_reverse, List.map_map]
    rfl
  have hmem : ∀ x ∈ upD D (i : Int), propsB x.2 = true := fun x hx => by
    unfold upD at hx
    obtain ⟨j, hj, rfl⟩ := List.mem_map.1 hx
    obtain ⟨j0, j1⟩ := h.mem_above hi hj
    exact fine_propsAt h (by omega)
  have hon : onB T (k : Int) = onB D (i : Int) := by
    rw [on_up, on_up, hu, List.all_map]
    rw [Bool.eq_iff_iff, List.all_eq_true, List.all_eq_true]
    constructor
    · intro g x hx
      have := g x hx
      simp only [Function.comp, rv] at this
      rwa [onN_rev (hmem x hx)] at this
    · intro g x hx
      simp only [Function.comp, rv]
      rw [onN_rev (hmem x hx)]
      exact g x hx
  have hw1 := h.wrong hi
  have hw2 := ht.ist.wrong hk
  have hhd : handofV T (k : Int) = handofV D (i : Int) := by
    unfold handofV
    rw [if_pos hw1, if_pos hw2, Int.toNat_natCast, Int.toNat_natCast, hpr, handF_rev hps]
  refine ⟨k, hk, by rw [← hpath]; exact ht.ist.find hk, ?_, hhd, ?_, ?_, fun x hx hc => ?_⟩
  · unfold onV
    rw [if_pos hw1, if_pos hw2, hon]
  · unfold plainV
    rw [if_pos hw1, if_pos hw2, Int.toNat_natCast, Int.toNat_natCast, hpr, valB_rev hps, hon]
  · unfold compL
    rw [if_pos hw1, if_pos hw2, Int.toNat_natCast, Int.toNat_natCast, hpr, saysL_rev hps]
  · have hh : handF (holdF.propsAt D i) = x ∧ x ≠ 0 := by
      unfold handofV at hx
      rw [if_pos hw1, Int.toNat_natCast] at hx
      split at hx
      · injection hx with _ hx; cases hx
      · rename_i h0
        injection hx with hx _
        exact ⟨hx, by rw [← hx]; exact h0⟩
    have h1 := hold_one hc hi hh.1
    have h2 := hold_one (l := T) (by rw [ht.cnt]; exact hc) hk (by rw [hpr, handF_rev hps]; exact hh.1)
    unfold handV
    rw [if_pos h.ok, if_pos ht.ist.ok, if_neg hh.2, if_neg hh.2, h1, h2]
    exact ⟨rfl, rfl⟩
end Go.Proofs.YtmdnbajbfnhecaaGreatDoor
