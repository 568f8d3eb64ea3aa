/- What TreeParts' functions give of a tree: a node taken out and put back. -/
import Derived.Test.YtmdnbajbfnhecaaGreatDoorFo
import Derived.Test.YtmdnbajbfnhecaaGreatDoorGraftY
import Derived.Test.YtmdnbajbfnhecaaGreatDoorSSort
set_option linter.unusedVariables false
namespace Go.Proofs.YtmdnbajbfnhecaaGreatDoor
open Go.RowKit
theorem name_size {n : ByteArray} (h : nameB n.data.toList = true) : n.size ≤ 31 := by
  unfold nameB at h
  simp only [Bool.and_eq_true, decide_eq_true_eq] at h
  have h2 := h.1.2
  rw [Array.length_toList] at h2
  exact h2
theorem props_size {ps : List Pr} (h : propsB ps = true) : ps.length ≤ 32 ∧ ∀ y ∈ ps, y.n.size ≤ 1048576 ∧ y.v.size ≤ 1048576 := by
  unfold propsB at h
  rw [Bool.and_eq_true] at h
  refine ⟨of_decide_eq_true h.1, fun y hy => ?_⟩
  obtain ⟨j, hj, rfl⟩ := List.mem_iff_getElem.1 hy
  have h2 := all_range.1 h.2 j hj
  rw [prop_some hj] at h2
  simp only [Bool.and_eq_true, decide_eq_true_eq] at h2
  refine ⟨?_, by omega⟩
  have := name_size h2.1.1
  omega
theorem is_sized {l : List Nd} (h : Is l) : SizedD l := by
  obtain ⟨hf, h0, h5⟩ := check_fine h.ok
  have key : ∀ x ∈ l, x.n.size ≤ 31 ∧ propsB x.ps = true ∧ -1 ≤ x.p ∧ x.p ≤ 512 := fun x hx => by
    obtain ⟨j, hj, rfl⟩ := List.mem_iff_getElem.1 hx
    have hp := fine_par hf hj hj
    rw [par_at (List.getElem?_eq_getElem hj)] at hp
    have hn := hf j hj
    rcases Nat.eq_zero_or_pos j with rfl | hj0
    · unfold nodeOkB at hn
      rw [List.getElem?_eq_getElem hj] at hn
      simp only [if_true, Bool.and_eq_true, decide_eq_true_eq] at hn
      refine ⟨?_, hn.1.2, by omega, by omega⟩
      rw [hn.2.2]
      decide
    · rw [node_some hj (by omega)] at hn
      simp only [Bool.and_eq_true, decide_eq_true_eq] at hn
      exact ⟨name_size hn.2.1.1.1.1.1, hn.1.2, by omega, by omega⟩
  refine ⟨by omega, fun x hx => ?_, fun x hx => ?_, fun x hx => ?_⟩
  · obtain ⟨k1, k2, _⟩ := key x hx
    exact ⟨by omega, fun y hy => by have := (props_size k2).2 y hy; omega⟩
  · have := (props_size (key x hx).2.1).1
    omega
  · obtain ⟨_, _, k3, k4⟩ := key x hx
    exact WalkArith.wf_i64 (by omega)
theorem piece_sized {n : ByteArray} {ps : List Pr} {k : Fo} (hn : nameB n.data.toList = true) (h : Is (treeOf ps k)) : SizedD (⟨-1, n, ps⟩ :: flat k 0 1) := by
  obtain ⟨h1, h2, h3, h4⟩ := is_sized h
  refine ⟨h1, fun x hx => ?_, fun x hx => ?_, fun x hx => ?_⟩
  · rcases List.mem_cons.1 hx with rfl | hx
    · exact ⟨by have := name_size hn; show n.size ≤ _; omega, (h2 _ List.mem_cons_self).2⟩
    · exact h2 x (List.mem_cons_of_mem _ hx)
  · rcases List.mem_cons.1 hx with rfl | hx
    · exact h3 ⟨-1, ByteArray.empty, ps⟩ List.mem_cons_self
    · exact h3 x (List.mem_cons_of_mem _ hx)
  · rcases List.mem_cons.1 hx with rfl | hx
    · exact h4 ⟨-1, ByteArray.empty, ps⟩ List.mem_cons_self
    · exact h4 x (List.mem_cons_of_mem _ hx)
/-- All that TreeParts asks. -/
structure Parts (l : List Nd) (i q : Nat) (rest piece back : List Nd) : Prop where
  ePar : parAt l (i : Int) = (q : Int)
  lt : q < i
  eC : cutE l (i : Int) = 0
  eR : cutR l (i : Int) = rest
  eP : cutP l (i : Int) = piece
  plen : i + piece.length = endN l i
  rlen : rest.length + piece.length = l.length
  hd : ∃ x r, piece = x :: r ∧ x.p = -1
  ris : Is rest
  psz : SizedD piece
  gr : graftE rest (q : Int) piece = 0
  eB : graftR rest (q : Int) piece = back
  bis : Is back
  same : sortR back = sortR l
  last : endN l i = endN l q → back = l
theorem parts_law {l : List Nd} (h : Is l) {i : Nat} (h0 : 0 < i) (hi : i < l.length) : ∃ (q : Nat) (rest piece back : List Nd), Parts l i q rest piece back := by
  obtain ⟨ps0, F, rfl⟩ := parse h
  have hlen := tree_len ps0 F
  obtain ⟨q, n, ps, k, R, o, B, hc⟩ := cutd_exists F 0 1 i h0 (by omega)
  obtain ⟨e1, e2, e3, e4, e5, e6, e7⟩ := cut_graft h hc
  obtain ⟨b1, b2, b3, b4, b5, b6⟩ := hc.bounds (by omega)
  obtain ⟨t1, t2, t3⟩ := tree_iff.1 h
  obtain ⟨g1, g2, g3, g4, g5⟩ := hc.good (Nat.le_refl 2) t3
  have hR : Is (treeOf ps0 R) := tree_iff.2 ⟨t1, by omega, g1⟩
  have hB : Is (treeOf ps0 B) := tree_iff.2 ⟨t1, by omega, g2⟩
  have hK : Is (treeOf ps k) := tree_iff.2 ⟨g5, by omega, g3⟩
  have z1 : endN (treeOf ps0 F) i = i + 1 + k.sz := end_one (endN_at hi) e2
  have z2 : endN (treeOf ps0 F) q = o := end_one (endN_at (by omega)) e3
  have hlenR := tree_len ps0 R
  have hqR : q < (treeOf ps0 R).length := by omega
  have z3 : endN (treeOf ps0 R) q = o - (1 + k.sz) := end_one (endN_at hqR) e6
  have hce : cutE (treeOf ps0 F) (i : Int) = 0 := by
    unfold cutE
    rw [if_neg (fun hh => by omega)]
    exact h.wrong hi
  have hpb : pieceB ((⟨-1, n, ps⟩ : Nd) :: flat k 0 1) = true := by
    show (nameB n.data.toList && ((checkF (treeOf ps k)).2 == 0)) = true
    rw [g4, hK.ok]
    rfl
  have hge : graftE (treeOf ps0 R) (q : Int) ((⟨-1, n, ps⟩ : Nd) :: flat k 0 1) = 0 := by
    unfold graftE
    rw [if_neg (by rw [hR.wrong hqR]; simp), if_neg (by rw [hpb]; simp), Int.toNat_natCast, z3, e7]
    exact hB.ok
  refine ⟨q, treeOf ps0 R, ⟨-1, n, ps⟩ :: flat k 0 1, treeOf ps0 B, e1, b1, hce, ?_, ?_, ?_, ?_, ⟨_, _, rfl, rfl⟩, hR, piece_sized g4 hK, hge, ?_, hB, ?_, ?_⟩
  · unfold cutR
    rw [if_pos hce, Int.toNat_natCast, z1, e4]
  · unfold cutP
    rw [if_pos hce, Int.toNat_natCast, z1, e5]
  · rw [z1, List.length_cons, flat_len]
    omega
  · rw [List.length_cons, flat_len, hlen, hlenR]
    omega
  · unfold graftR
    rw [if_pos hge, Int.toNat_natCast, z3, e7]
  · unfold sortR
    rw [if_pos h.ok, if_pos hB.ok, sorted_tree, sorted_tree, hc.sort t3]
  · intro he
    rw [z1, z2] at he
    rw [hc.last (by omega) he.symm]
theorem mem_dat {l : List Nm} {x : Nd} (h : x ∈ dat l) : ∃ y ∈ l, y.d = x := by unfold dat at h; exact List.mem_map.1 h
/-- What a tree in order is made of. -/
theorem ord_from (l : List Nd) : ∀ (f i : Nat) (par : Int) (b : Nat), i < l.length → ∀ x ∈ ordF l f i par b, (∃ y ∈ l, x.n = y.n ∧ x.ps = sortN prKey y.ps) ∧ (x.p = par ∨ ((b : Int) ≤ x.p ∧ x.p < b + (ordF l f i par b).length))
  | 0, _, _, _, _, _, hx => by cases hx
  | f + 1, i, par, b, hi, x, hx => by
    have key : ∀ (ks : List Nat) (c : Nat), b + 1 ≤ c → (∀ k ∈ ks, k < l.length) → ∀ x ∈ ordKids (fun k c => ordF l f k b c) ks c, (∃ y ∈ l, x.n = y.n ∧ x.ps = sortN prKey y.ps) ∧ ((b : Int) ≤ x.p ∧ x.p < c + (ordKids (fun k c => ordF l f k b c) ks c).length) := by
      intro ks
      induction ks with
      | nil => intro c _ _ x hx; cases hx
      | cons k r ih =>
        intro c hc hk x hx
        rw [ordKids] at hx ⊢
        rw [List.length_append]
        rcases List.mem_append.1 hx with hx | hx
        · obtain ⟨h1, h2⟩ := ord_from l f k b c (hk k (List.mem_cons_self ..)) x hx
          refine ⟨h1, ?_⟩
          rcases h2 with h2 | h2
          · have : 0 < (ordF l f k b c).length := List.length_pos_of_mem hx
            omega
          · omega
        · obtain ⟨h1, h2⟩ := ih _ (by omega) (fun k hk' => hk k (List.mem_cons_of_mem _ hk')) x hx
          refine ⟨h1, ?_⟩
          push_cast at h2
          push_cast
          omega
    rw [ordF] at hx ⊢
    rw [List.length_cons]
    rcases List.mem_cons.1 hx with e | hx
    · subst e
      refine ⟨⟨l[i], List.getElem_mem hi, ?_, ?_⟩, .inl rfl⟩
      · unfold bareN
        rw [List.getElem?_eq_getElem hi]
      · unfold propsN
        rw [List.getElem?_eq_getElem hi]
        rfl
    · obtain ⟨h1, h2⟩ := key _ (b + 1) (Nat.le_refl _) (fun k hk => (kidsN_mem (sort_mem _ _ _ hk)).2.1) x hx
      refine ⟨h1, .inr ?_⟩
      push_cast at h2
      push_cast
      omega
theorem sort_small {l : List Nm} (hz : Sized l) : SizedD (sortR (dat l)) ∧ (sortR (dat l)).length ≤ 512 ∧ ∀ x ∈ sortR (dat l), ∃ y ∈ l, x.ps.length = y.d.ps.length := by
  unfold sortR
  split
  · rename_i h0
    obtain ⟨hf, hpos, h5⟩ := check_fine h0
    have htr := fine_tr hf
    have hp0 : parAt (dat l) 0 < 0 := by
      have := (fine_par hf (j := 0) hpos hpos).1
      simpa using this
    have hlen : (sortedL (dat l)).length = (dat l).length := ord_total htr hp0 hpos
    have hfrom : ∀ x ∈ sortedL (dat l), (∃ y ∈ dat l, x.n = y.n ∧ x.ps = sortN prKey y.ps) ∧ -1 ≤ x.p ∧ x.p ≤ 512 := fun x hx => by
      obtain ⟨h1, h2⟩ := ord_from (dat l) _ 0 (-1) 0 hpos x hx
      refine ⟨h1, ?_⟩
      have h3 : (ordF (dat l) ((dat l).length - 0) 0 (-1) 0).length = (dat l).length := hlen
      omega
    refine ⟨⟨by omega, fun x hx => ?_, fun x hx => ?_, fun x hx => ?_⟩, by omega, fun x hx => ?_⟩
    · obtain ⟨⟨y, hy, e1, e2⟩, _⟩ := hfrom x hx
      obtain ⟨h1, h2⟩ := hz.small y hy
      refine ⟨by rw [e1]; exact h1, fun q hq => h2 q ?_⟩
      rw [e2] at hq
      exact sort_mem _ _ _ hq
    · obtain ⟨⟨y, hy, e1, e2⟩, _⟩ := hfrom x hx
      obtain ⟨z, hz2, rfl⟩ := mem_dat hy
      rw [e2, sort_len]
      exact hz.props z hz2
    · obtain ⟨_, h1, h2⟩ := hfrom x hx
      exact WalkArith.wf_i64 (by omega)
    · obtain ⟨⟨y, hy, e1, e2⟩, _⟩ := hfrom x hx
      obtain ⟨z, hz2, rfl⟩ := mem_dat hy
      exact ⟨z, hz2, by rw [e2, sort_len]⟩
  · exact ⟨⟨by simp, by simp [Small], by simp, by simp⟩, by simp, by simp⟩
end Go.Proofs.YtmdnbajbfnhecaaGreatDoor
