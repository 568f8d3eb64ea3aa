/- The document's Sorted; the walk of TreeSorts. -/
import Derived.Test.YtmdnbajbfnhecaaRSort
import Derived.Test.YtmdnbajbfnhecaaCutsB
set_option linter.unusedVariables false
namespace Go.Proofs.Ytmdnbajbfnhecaa
open Go.RowKit
theorem fine_props {l : List Nm} (hf : Fine (dat l) (dat l).length) : ∀ x ∈ l, propsB x.d.ps = true := fun x hx => by
  obtain ⟨j, hj, rfl⟩ := List.mem_iff_getElem.1 hx
  have := hf j (by rw [dat_len]; exact hj)
  unfold nodeOkB at this
  rw [List.getElem?_eq_getElem (by rw [dat_len]; exact hj)] at this
  simp only [dat_get l hj, Bool.and_eq_true] at this
  exact this.1.2
/-- What a tree in order is made of. -/
theorem ord_from (l : List Nd) : ∀ (f i : Nat) (par : Int) (b : Nat), i < l.length → ∀ x ∈ ordF l f i par b, (∃ y ∈ l, x.n = y.n ∧ x.ps = sortN prKey y.ps) ∧ (x.p = par ∨ ((b : Int) ≤ x.p ∧ x.p < b + (ordF l f i par b).length))
  | 0, _, _, _, _, _, hx => by cases hx
  | f + 1, i, par, b, hi, x, hx => by
    have key : ∀ (ks : List Nat) (c : Nat), b + 1 ≤ c → (∀ k ∈ ks, k < l.length) → ∀ x ∈ ordKids (fun k c => ordF l f k b c) ks c, (∃ y ∈ l, x.n = y.n ∧ x.ps = sortN prKey y.ps) ∧ ((b : Int) ≤ x.p ∧ x.p < c + (ordKids (fun k c => ordF l f k b c) ks c).length) := by
      intro ks
      induction ks with
      | nil => intro c _ _ x hx; cases hx
      | cons k r ih =>
        intro c hc hk x hx
        rw [ordKids] at hx ⊢
        rw [List.length_append]
        rcases List.mem_append.1 hx with hx | hx
        · obtain ⟨h1, h2⟩ := ord_from l f k b c (hk k (List.mem_cons_self ..)) x hx
          refine ⟨h1, ?_⟩
          rcases h2 with h2 | h2
          · have : 0 < (ordF l f k b c).length := List.length_pos_of_mem hx
            omega
          · omega
        · obtain ⟨h1, h2⟩ := ih _ (by omega) (fun k hk' => hk k (List.mem_cons_of_mem _ hk')) x hx
          refine ⟨h1, ?_⟩
          push_cast at h2
          push_cast
          omega
    rw [ordF] at hx ⊢
    rw [List.length_cons]
    rcases List.mem_cons.1 hx with e | hx
    · subst e
      refine ⟨⟨l[i], List.getElem_mem hi, ?_, ?_⟩, .inl rfl⟩
      · unfold bareN
        rw [List.getElem?_eq_getElem hi]
      · unfold propsN
        rw [List.getElem?_eq_getElem hi]
        rfl
    · obtain ⟨h1, h2⟩ := key _ (b + 1) (Nat.le_refl _) (fun k hk => (kidsN_mem (sort_mem _ _ _ hk)).2.1) x hx
      refine ⟨h1, .inr ?_⟩
      push_cast at h2
      push_cast
      omega
theorem sort_small {l : List Nm} (hz : Sized l) : SizedD (sortR (dat l)) ∧ (sortR (dat l)).length ≤ 512 ∧ ∀ x ∈ sortR (dat l), ∃ y ∈ l, x.ps.length = y.d.ps.length := by
  unfold sortR
  split
  · rename_i h0
    obtain ⟨hf, hpos, h5⟩ := check_fine h0
    have htr := fine_tr hf
    have hp0 : parAt (dat l) 0 < 0 := by
      have := (fine_par hf (j := 0) hpos hpos).1
      simpa using this
    have hlen : (sortedL (dat l)).length = (dat l).length := ord_total htr hp0 hpos
    have hfrom : ∀ x ∈ sortedL (dat l), (∃ y ∈ dat l, x.n = y.n ∧ x.ps = sortN prKey y.ps) ∧ -1 ≤ x.p ∧ x.p ≤ 512 := fun x hx => by
      obtain ⟨h1, h2⟩ := ord_from (dat l) _ 0 (-1) 0 hpos x hx
      refine ⟨h1, ?_⟩
      have h3 : (ordF (dat l) ((dat l).length - 0) 0 (-1) 0).length = (dat l).length := hlen
      omega
    refine ⟨⟨by omega, fun x hx => ?_, fun x hx => ?_, fun x hx => ?_⟩, by omega, fun x hx => ?_⟩
    · obtain ⟨⟨y, hy, e1, e2⟩, _⟩ := hfrom x hx
      obtain ⟨h1, h2⟩ := hz.small y hy
      refine ⟨by rw [e1]; exact h1, fun q hq => h2 q ?_⟩
      rw [e2] at hq
      exact sort_mem _ _ _ hq
    · obtain ⟨⟨y, hy, e1, e2⟩, _⟩ := hfrom x hx
      obtain ⟨z, hz2, rfl⟩ := mem_dat hy
      rw [e2, sort_len]
      exact hz.props z hz2
    · obtain ⟨_, h1, h2⟩ := hfrom x hx
      exact WalkArith.wf_i64 (by omega)
    · obtain ⟨⟨y, hy, e1, e2⟩, _⟩ := hfrom x hx
      obtain ⟨z, hz2, rfl⟩ := mem_dat hy
      exact ⟨z, hz2, by rw [e2, sort_len]⟩
  · exact ⟨⟨by simp, by simp [Small], by simp, by simp⟩, by simp, by simp⟩
set_option maxRecDepth 100000 in
set_option maxHeartbeats 2000000 in
theorem rsorted_any (A : Option Addr) (cap n : Nat) (l : List Nm) (hn : n = l.length) (hsz : Sized l) (w : World) (B : Nat) (hB : B ≤ w.heap.size) (hs : Nodes w B A l) :
    Calls Try.prog 17 #[.slice A n cap] w fun e w' => (∃ (A' : Option Addr) (c' n' : Nat) (acc : List Nm), e = .returned (.tuple #[.slice A' n' c', .int .i64 (checkF (dat l)).2]) ∧ OwnN w' w.heap.size A' n' c' acc ∧ dat acc = sortR (dat l)) ∧ Below w.heap.size w w' := by
  have hm := may_any A cap n l hn hsz w B hB hs
  rcases check_two (dat l) with h0 | h0
  · obtain ⟨hf, hpos, h5⟩ := check_fine h0
    have htr := fine_tr hf
    have hp0 : parAt (dat l) 0 < 0 := by
      have := (fine_par hf (j := 0) hpos hpos).1
      simpa using this
    have hlen : (ordN (dat l) 0 (-1) 0).length = (dat l).length := ord_total htr hp0 hpos
    have hyes : sortR (dat l) = ordN (dat l) 0 (-1) 0 := by unfold sortR; rw [if_pos h0]; rfl
    rw [dat_len] at hpos h5
    have hrs : ∀ w1, Below w.heap.size w w1 → Calls Try.prog 39 #[.slice A n cap, .int .i64 0, .int .i64 (-1), .slice none 0 0] w1 fun e w' => ∃ (A' : Option Addr) (n' c' : Nat) (acc' : List Nm), e = .returned (.slice A' n' c') ∧ OwnN w' w.heap.size A' n' c' acc' ∧ dat acc' = dat [] ++ ordN (dat l) 0 (-1) 0 ∧ Frame (Own1 none) w1 w' ∧ (∀ g, Own1 A' g → Own1 none g ∨ w1.heap.size ≤ g) := fun w1 (hb : Below w.heap.size w w1) => rsort_any A cap n l hn hsz (by omega) htr (fine_props hf) w.heap.size n 0 (-1) (by omega) (by omega) (by omega) (by omega) w1 none 0 [] (own_none _ _) hb.size ((hs.below (hb.mono hB)).more hB) (by rw [List.length_nil, hlen, dat_len]; omega)
    rw [h0, show ((0 : Int) == 0) = true from rfl] at hm
    rw [h0]
    have HM := Lib.hid hm
    have HRS := Lib.hid hrs
    have HY := Lib.hid hyes
    clear hm hrs hyes hs hlen hp0 htr hf hn hsz hpos h5 h0
    go_enter Try.func17, Try.ntmps17
    go_wp2_with (first
      | (go_at_call 31; refine HM.out.mono ?_; rintro e w1 ⟨rfl, hb1⟩; have HB1 := Lib.hid hb1; clear hb1)
      | (go_at_call 39; refine (HRS.out w1 HB1.out).mono ?_; rintro e w2 ⟨A', n', c', acc, rfl, ho, hd, hf2, _⟩; have HO := Lib.hid ho; have HD := Lib.hid hd; have HF2 := Lib.hid hf2; clear ho hd hf2))
    go_ret2
    exact ⟨⟨A', c', n', acc, rfl, HO.out, by rw [HD.out, HY.out]; rfl⟩, HB1.out.trans (HF2.out.toBelow HB1.out.size fun k _ hk => by cases hk)⟩
  · have hno : sortR (dat l) = [] := by unfold sortR; rw [if_neg (by rw [h0]; decide)]
    rw [h0, show ((40 : Int) == 0) = false from rfl] at hm
    rw [h0]
    have HM := Lib.hid hm
    have HNO := Lib.hid hno
    clear hm hno hs hn hsz h0
    go_enter Try.func17, Try.ntmps17
    go_wp2_with (first
      | (go_at_call 31; refine HM.out.mono ?_; rintro e w1 ⟨rfl, hb1⟩; have HB1 := Lib.hid hb1; clear hb1))
    go_ret2
    exact ⟨⟨none, 0, 0, [], rfl, own_none _ _, HNO.out.symm⟩, HB1.out⟩
set_option maxRecDepth 100000 in
set_option maxHeartbeats 8000000 in
theorem treeSorts_walk (A : Option Addr) (c n : Nat) (la : List Nm) (hn : n = la.length) (hl : n * 48 ≤ 140737488351232) (ha : Lim 0 0 la) (w : World) (hs : Nodes w w.heap.size A la) :
    Calls Try.prog 5 #[.slice A n c] w fun e w' => e = .returned (.bool true) ∧ Below w.heap.size w w' := by
  have hz : Sized la := ha.sized (by omega)
  obtain ⟨hzD, h512, hfr⟩ := sort_small hz
  have hpb : ∀ l3 : List Nm, dat l3 = sortR (dat la) → Sized l3 ∧ l3.length ≤ 512 ∧ ∀ x ∈ l3, x.d.ps.length * 32 ≤ 140737488351232 := fun l3 h => by
    refine ⟨SizedD.mem (by rw [h]; exact hzD), by rw [← dat_len, h]; exact h512, fun x hx => ?_⟩
    obtain ⟨y, hy, e⟩ := hfr x.d (by rw [← h]; unfold dat; exact List.mem_map_of_mem hx)
    rw [e]
    obtain ⟨j, hj, rfl⟩ := List.mem_iff_getElem.1 hy
    exact (ha j hj).2.2.1
  obtain ⟨ce, hce⟩ : ∃ ce, ce = (checkF (dat la)).2 := ⟨_, rfl⟩
  have HCE := Lib.hid hce
  have HPB := Lib.hid hpb
  have HZ := Lib.hid hz
  have HN := Lib.hid hn
  have HS := Lib.hid hs
  clear hzD h512 hfr hpb hce hz hn hs ha
  go_enter Try.func5, Try.ntmps5
  go_wp2_with (first
    | (go_at_call 9
       refine (rsame_eq A1 c1 n l1 HI7.out.len (sized_dat HZ.out HD1.out) A c n la HN.out w7 HI7.out.nodes ((HS.out.below HB7.out).more HB7.out.size) HD1.out).mono ?_
       rintro e w8 ⟨rfl, hb8⟩
       have HB8 := Lib.hid (below_next HB7.out hb8)
       clear hb8)
    | (go_at_call 9
       refine (rsame_eq A3 c3 n3 l3 HC6.out.len (HPB.out _ HDC.out).1 A4 c4 n4 l4 HE6.out.len w6 HC6.out.nodes HE6.out.nodes (HDC.out.trans HDE.out.symm)).mono ?_
       rintro e w7 ⟨rfl, hb7⟩
       have HB7 := Lib.hid (below_next HB6.out hb7)
       have HI7 := Lib.hid (HI6.out.below hb7)
       clear hb7)
    | (go_at_call 13
       refine (spoil_any A2 c2 n2 l2 w5 _ HX5.out HA5.out (by have := HA5.out.len; have := (HPB.out _ HDA.out).2.1; omega) (HPB.out _ HDA.out).2.2).mono ?_
       rintro e w6 ⟨rfl, hf6⟩
       have HB6 := Lib.hid (HB5.out.trans (hf6.toBelow HB5.out.size fun k hk hs => by have := (HA5.out.blk hs).1; have := HB1.out.size; omega))
       have HI6 := Lib.hid (HI5.out.frame hf6 fun g hg hs => by have := (HA5.out.blk hs).1; have := HT1.out g hg; omega)
       have HC6 := Lib.hid (HC5.out.frame hf6 fun g hg hs => by have := (HA2.out.blk hs).2; have := (HC5.out.blk hg).1; omega)
       have HE6 := Lib.hid (HE5.out.frame hf6 fun g hg hs => by have := (HA2.out.blk hs).2; have := (HE5.out.blk hg).1; have := H23.out; omega)
       clear hf6)
    | (go_at_call 9
       refine (rsame_eq A2 c2 n2 l2 HA4.out.len (HPB.out _ HDA.out).1 A4 c4 n4 l4 HE4.out.len w4 HA4.out.nodes HE4.out.nodes (HDA.out.trans HDE.out.symm)).mono ?_
       rintro e w5 ⟨rfl, hb5⟩
       have HB5 := Lib.hid (below_next HB4.out hb5)
       have HI5 := Lib.hid (HI4.out.below hb5)
       have HA5 := Lib.hid (HA4.out.below hb5)
       have HC5 := Lib.hid (HC4.out.below hb5)
       have HE5 := Lib.hid (HE4.out.below hb5)
       have HX5 := Lib.hid (show w1.heap.size ≤ w5.heap.size by have := H12.out; have := H23.out; have := H34.out; have := hb5.size; omega)
       clear hb5)
    | (go_at_call 17
       refine (rsorted_any A c n la HN.out HZ.out w3 w.heap.size HB3.out.size (HS.out.below HB3.out)).mono ?_
       rintro e w4 ⟨⟨A4, c4, n4, l4, rfl, ho4, hd4⟩, hb4⟩
       rw [← HCE.out]
       have HB4 := Lib.hid (below_next HB3.out hb4)
       have HI4 := Lib.hid (HI3.out.below hb4)
       have HA4 := Lib.hid (HA3.out.below hb4)
       have HC4 := Lib.hid (HC3.out.below hb4)
       have HE4 := Lib.hid ho4
       have HDE := Lib.hid hd4
       have H34 := Lib.hid hb4.size
       clear ho4 hd4 hb4)
    | (go_at_call 16
       refine (psorted_any A1 c1 n l1 HI2.out.len (sized_dat HZ.out HD1.out) w2 w2.heap.size (Nat.le_refl _) HI2.out.nodes).mono ?_
       rintro e w3 ⟨⟨A3, c3, n3, l3, rfl, ho3, hd3⟩, hb3⟩
       rw [HD1.out] at hd3 ⊢
       rw [← HCE.out]
       have HB3 := Lib.hid (below_next HB2.out hb3)
       have HI3 := Lib.hid (HI2.out.below hb3)
       have HA3 := Lib.hid (HA2.out.below hb3)
       have HC3 := Lib.hid ho3
       have HDC := Lib.hid hd3
       have H23 := Lib.hid hb3.size
       clear ho3 hd3 hb3)
    | (go_at_call 16
       refine (psorted_any A1 c1 n l1 HI1.out.len (sized_dat HZ.out HD1.out) w1 w1.heap.size (Nat.le_refl _) HI1.out.nodes).mono ?_
       rintro e w2 ⟨⟨A2, c2, n2, l2, rfl, ho2, hd2⟩, hb2⟩
       rw [HD1.out] at hd2 ⊢
       rw [← HCE.out]
       have HB2 := Lib.hid (below_next HB1.out hb2)
       have HI2 := Lib.hid (HI1.out.below hb2)
       have HT1 := Lib.hid (fun g (hg : Blk A1 l1 g) => (HI1.out.blk hg).2)
       have HA2 := Lib.hid ho2
       have HDA := Lib.hid hd2
       have H12 := Lib.hid hb2.size
       clear ho2 hd2 hb2)
    | (go_at_call 6
       refine (rtwin_any A c n la HN.out HZ.out w _ (Nat.le_refl _) HS.out).mono ?_
       rintro e w1 ⟨A1, c1, l1, rfl, hd1, ho1, hb1⟩
       have HI1 := Lib.hid ho1
       have HD1 := Lib.hid hd1
       have HB1 := Lib.hid hb1
       clear ho1 hd1 hb1))
  go_ret
  exact ⟨rfl, HB8.out⟩
end Go.Proofs.Ytmdnbajbfnhecaa
