/- Put and Set at both nets: the same answers. -/
import Derived.Test.YtbahclnpgdejlaaPairGet
set_option linter.unusedVariables false
namespace Go.Proofs.Ytbahclnpgdejlaa
open Go.RowKit
section
variable {w w' : World} {B nb n gu gh gr : Nat} {Ac Ar Au Ah : Option Addr} {cc cr cu ch rb : Nat} {Al Ru : Option Addr} {cl ru : Nat} {s : St} {l : List Clk} {us : List Int}
theorem pair_put (h : Both w B nb n Ac Ar Au Ah cc cr cu ch rb Al Ru cl ru s) (ap : Apart n gu gh gr Au Ah Ru) (I : Int) :
    ∃ (t : List (Int × Bool)) (z : Int) (s' : St), t.length ≤ 1026 ∧ Pair w B nb n gu gh gr Au Ah cu ch rb Ru ru s.l s.us 14 36 [.int .i64 I] 80 109 2 (turnCells t) t.length z s' := by
  by_cases hI : I < 0 ∨ n ≤ I
  · refine ⟨[], 1, s, by simp, ⟨(pput_no h.net I hI).mono ?_, fun w1 Al cl hr _ => (rput_no hr I hI).mono ?_, h.inv, h.bal, h.pos, h.us0, h.us1⟩⟩
    · rintro e w' ⟨rfl, rfl⟩
      exact ⟨none, 0, _, _, _, _, rfl, own_none _ _ _ _, h.net, Frame.refl _ _⟩
    · rintro e w' ⟨rfl, rfl⟩
      exact ⟨none, 0, _, _, rfl, own_none _ _ _ _, hr, Frame.refl _ _⟩
  · obtain ⟨k, rfl⟩ := Int.eq_ofNat_of_zero_le (show 0 ≤ I by omega)
    have hkn : k < n := by omega
    have h0 : 0 < n := by omega
    obtain rfl := ap.au h0
    obtain rfl := ap.ah h0
    obtain rfl := ap.ru h0
    have hlen := h.net.len
    have hlenh := h.net.lenh
    have hlenu := h.net.lenu
    have hu0 := h.us0 k
    have hu1 := h.us1 k
    have hhs : ∀ j : Nat, j < n → s.hs.getD j 0 ≤ 70000 := fun j hj => by
      have := h.bal j (by omega)
      have := kids_nonneg s.l s.hs j s.l.length
      have := h.us1 j
      have := h.n5
      simp only at *
      omega
    by_cases hz : s.us.getD k 0 = 0
    · refine ⟨[], 6, s, by simp, ⟨(put_none h.net hkn hz).mono ?_, fun w1 Al cl hr _ => (rput_none hr hkn hz).mono ?_, h.inv, h.bal, h.pos, h.us0, h.us1⟩⟩
      · rintro e w' ⟨rfl, rfl⟩
        exact ⟨none, 0, _, _, _, _, rfl, own_none _ _ _ _, h.net, Frame.refl _ _⟩
      · rintro e w' ⟨rfl, rfl⟩
        exact ⟨none, 0, _, _, rfl, own_none _ _ _ _, hr, Frame.refl _ _⟩
    · have huk : ∀ j : Nat, (j : Int) = (k : Int) → 1 ≤ s.us.getD j 0 := fun j e => by
        obtain rfl : j = k := by omega
        omega
      have hhb := drop_bal h.inv.good 513 k s.hs _ (by omega) (by omega) (by have := h.n5; omega) (by omega) h.pos h.bal h.us0 huk
      have hdn := drop_down h.inv.good 513 k s.hs _ (by omega) (by omega) (by have := h.n5; omega) (by omega) h.pos h.bal h.us0 huk
      have hup := drop_up h.inv.good 513 k s.hs (by omega) (by omega) s.l.length
      have hset : ∀ j, (s.us.set k (s.us.getD k 0 - 1)).getD j 0 = if j = k then s.us.getD k 0 - 1 else s.us.getD j 0 := fun j => getD_set _ _ _ _ (by omega)
      have hb' : Bal s.l (fun j => (s.us.set k (s.us.getD k 0 - 1)).getD j 0) (dropF s.l 513 k s.hs).1 := hhb.1.congr fun j hj => by
        simp only [hset]
        unfold bump
        by_cases e : j = k
        · subst e; simp; omega
        · rw [if_neg e, if_neg (by omega)]
      have ht : (dropF s.l 513 k s.hs).2 = refTurns (onL s.l s.hs 0) (onL s.l (dropF s.l 513 k s.hs).1 0) n := by
        unfold refTurns
        rw [hlen, hup, List.nil_append]
        exact hdn
      refine ⟨(dropF s.l 513 k s.hs).2, 0, { s with us := s.us.set k (s.us.getD k 0 - 1), hs := (dropF s.l 513 k s.hs).1 }, by have := dropF_turns s.l 513 k s.hs; omega, ⟨(put_ok h.net h.inv.good h.n5 hkn hz hu0 hu1 (fun j hj => ⟨by have := h.pos j; omega, by have := hhs j (by omega); omega⟩)).mono ?_, fun w1 Al cl hr _ => (rput_ok hr h.inv.good h.n5 hkn (by omega) hu1 h.bal h.us0 hb').mono ?_, ⟨h.inv.may, h.inv.fit, h.inv.rates⟩, hb', hhb.2, ?_, ?_⟩⟩
      · rintro e w' ⟨A, c, rfl, ho, hn, hf⟩
        exact ⟨A, c, _, _, _, _, rfl, ho, hn, hf.mono (fun i _ hi => .inr ⟨h0, hi⟩)⟩
      · rintro e w' ⟨A, c, rfl, ho, hn, hf⟩
        rw [← ht] at ho ⊢
        exact ⟨A, c, _, _, rfl, ho, hn, hf.mono (fun i _ hi => .inr ⟨h0, hi⟩)⟩
      · intro j
        simp only [hset]
        split
        · omega
        · exact h.us0 j
      · intro j
        simp only [hset]
        split
        · omega
        · exact h.us1 j
theorem fit_or (l' : List Clk) (n : Nat) : (∀ j, j < n → fitsAt l' j = true) ∨ ∃ j, j < n ∧ fitsAt l' j = false := by
  by_cases hx : ∃ j, j < n ∧ fitsAt l' j = false
  · exact .inr hx
  · exact .inl fun j hj => by
      rcases hb : fitsAt l' j with _ | _
      · exact absurd ⟨j, hj, hb⟩ hx
      · rfl
/-- The least place at which it holds. -/
theorem least_of (P : Nat → Bool) (n : Nat) : (∀ j, j < n → P j = false) ∨ ∃ j, j < n ∧ P j = true ∧ ∀ i, i < j → P i = false := by
  induction n with
  | zero => exact .inl fun j hj => absurd hj (Nat.not_lt_zero j)
  | succ n ih =>
    rcases ih with h | ⟨j, hj, h1, h2⟩
    · rcases hb : P n with _ | _
      · exact .inl fun j hj => by
          rcases (show j < n ∨ j = n by omega) with h3 | rfl
          · exact h j h3
          · exact hb
      · exact .inr ⟨n, by omega, hb, h⟩
    · exact .inr ⟨j, by omega, h1, h2⟩
theorem capOk_no {l : List Clk} (hg : Good l) (n : Nat) (hn : n = l.length) (hx : ∃ j, j < n ∧ fitsAt l j = false) : capOk l n = false := by
  rcases h : capOk l n with _ | _
  · rfl
  · obtain ⟨j, hj, hb⟩ := hx
    have := (capOk_iff hg n hn).1 h j hj
    rw [hb] at this
    cases this
theorem frm_div {l : List Clk} {k : Nat} (hk : k < l.length) (d : Int) (i : Int) : frmAt (l.set k { l[k] with div := d }) i = frmAt l i := by
  unfold frmAt
  simp only [List.getElem?_set]
  by_cases e : k = i.toNat
  · subst e
    rw [if_pos rfl, if_pos hk, List.getElem?_eq_getElem hk]
  · rw [if_neg e]
theorem kids_div {l : List Clk} {k : Nat} (hk : k < l.length) (d : Int) (hs : List Int) (m : Int) : ∀ K, kids (l.set k { l[k] with div := d }) hs m K = kids l hs m K
  | 0 => rfl
  | K + 1 => by
    unfold kids
    rw [kids_div hk d hs m K, frm_div hk]
theorem may_set {l l' : List Clk} (h : l'.length = l.length) (hm : mayB l = true) (hg : Good l') : mayB l' = true := mayB_iff.2 ⟨by rw [h]; exact (mayB_iff.1 hm).1, hg⟩
theorem pair_set (h : Both w B nb n Ac Ar Au Ah cc cr cu ch rb Al Ru cl ru s) (ap : Apart n gu gh gr Au Ah Ru) (hBw : B ≤ w.heap.size) (I want : Int) :
    ∃ (t : List (Nat × Int × Int)) (z : Int) (s' : St), t.length ≤ 1026 ∧ Pair w B nb n gu gh gr Au Ah cu ch rb Ru ru s.l s.us 29 37 [.int .i64 I, .int .i64 want] 78 111 3 (chgCells t) t.length z s' := by
  by_cases hI : I < 0 ∨ n ≤ I ∨ want < 0 ∨ 1099511627776 < want
  · refine ⟨[], 1, s, by simp, ⟨(pset_no h.net I want hI).mono ?_, fun w1 Al cl hr _ => (rset_no hr I want hI).mono ?_, h.inv, h.bal, h.pos, h.us0, h.us1⟩⟩
    · rintro e w' ⟨rfl, hb⟩
      exact ⟨none, 0, _, _, _, _, rfl, own_none _ _ _ _, h.net.below hb, Frame.of_below hb⟩
    · rintro e w' ⟨rfl, rfl⟩
      exact ⟨none, 0, _, _, rfl, own_none _ _ _ _, hr, Frame.refl _ _⟩
  · obtain ⟨k, rfl⟩ := Int.eq_ofNat_of_zero_le (show 0 ≤ I by omega)
    have hkn : k < n := by omega
    have hlen := h.net.len
    have hkl : k < s.l.length := by omega
    have h1 : 0 ≤ want := by omega
    have h2 : want ≤ 1099511627776 := by omega
    obtain ⟨b0, b1⟩ := h.inv.base_bd hkl
    have o := h.inv.good.at_ hkl
    obtain ⟨p1, _, _, _⟩ := prod_bd b0 b1 o.m1 o.m2 (D := 1) (by omega)
    obtain ⟨d, hd⟩ : ∃ d, d = (roundOf (baseOf s.rs s.l[k] * s.l[k].mul) want).1 := ⟨_, rfl⟩
    have dbd := round_bd (baseOf s.rs s.l[k] * s.l[k].mul) want p1 h1
    rw [← hd] at dbd
    obtain ⟨l', hl'⟩ : ∃ l', l' = s.l.set k { s.l[k] with div := d } := ⟨_, rfl⟩
    have hg' : Good l' := by rw [hl']; exact good_set h.inv.good hkl d dbd.1 dbd.2
    have hll : l'.length = s.l.length := by rw [hl', List.length_set]
    have hbal' : Bal l' (fun j => s.us.getD j 0) s.hs := fun i hi => by
      have := h.bal i (by omega)
      rw [this, hl', List.length_set, kids_div hkl]
    have hcl := chg_len s.rs (ratesOf l') n
    have hn5 := h.n5
    rcases fit_or l' n with hfit | hbad
    · have hinv' : Inv { s with l := l', rs := ratesOf l' } := ⟨may_set hll h.inv.may hg', fun j hj => hfit j (by simp only at hj; omega), rfl⟩
      rcases least_of (busyAt l' s.rs (ratesOf l') s.hs) n with hfree | ⟨j0, hj0, hz, hy⟩
      · refine ⟨chg s.rs (ratesOf l') n, 0, { s with l := l', rs := ratesOf l' }, by omega, ⟨(set_ok h.net h.inv hkl want d h1 h2 hd l' hl' hfit hfree).mono ?_, fun w1 Al cl hr hB1 => (rset_good (hs := s.hs) hr h.inv.good hn5 h.caps hB1 h.bal h.us0 hkl b0 b1 want d h1 h2 hd l' hl' hg' hfit).mono ?_, hinv', hbal', h.pos, h.us0, h.us1⟩⟩
        · rintro e w' ⟨A, c, A', c', g, rfl, ho, hn, hf⟩
          exact ⟨A, c, _, _, _, _, rfl, ho, hn, hf.mono (fun i _ hi => .inl hi)⟩
        · rintro e w' (⟨⟨j, hj, hx⟩, _⟩ | ⟨_, A, c, A', c', rfl, ho, hn, hf⟩)
          · have := hfree j hj
            rw [hx] at this
            cases this
          · exact ⟨A, c, _, _, rfl, ho, hn, hf.mono (fun i _ hi => .inl hi)⟩
      · refine ⟨[], 182, s, by simp, ⟨(pset_via h.net h.inv hkl want d h1 h2 hd l' hl' (fun e w1 => e = .returned (.tuple #[.slice none 0 0, .int .i64 182]) ∧ Below w.heap.size w w1) (fun w4 g c3 hb4 hrow hg1 => (change_busy (c' := c3) (h.net.below hb4) hg' (by omega) hn5 (by omega) (hrow.vec (by omega)) (by have := hb4.size; omega) hfit hj0 hz hy).mono ?_)).mono ?_, fun w1 Al cl hr hB1 => (rset_good (hs := s.hs) hr h.inv.good hn5 h.caps hB1 h.bal h.us0 hkl b0 b1 want d h1 h2 hd l' hl' hg' hfit).mono ?_, h.inv, h.bal, h.pos, h.us0, h.us1⟩⟩
        · rintro e w' ⟨rfl, hb⟩
          exact ⟨_, _, _, _, rfl, rfl, below_next hb4 hb⟩
        · rintro e w' ⟨rfl, hb⟩
          exact ⟨none, 0, _, _, _, _, rfl, own_none _ _ _ _, h.net.below hb, Frame.of_below hb⟩
        · rintro e w' (⟨_, rfl, hb⟩ | ⟨hx, _⟩)
          · exact ⟨none, 0, _, _, rfl, own_none _ _ _ _, hr.below hb, Frame.of_below hb⟩
          · have := hx j0 hj0
            rw [hz] at this
            cases this
    · refine ⟨[], 181, s, by simp, ⟨(pset_via h.net h.inv hkl want d h1 h2 hd l' hl' (fun e w1 => e = .returned (.tuple #[.slice none 0 0, .int .i64 181]) ∧ Below w.heap.size w w1) (fun w4 g c3 hb4 hrow hg1 => (change_rate (c' := c3) (h.net.below hb4) hg' (by omega) hn5 (hrow.seg hrow.lt) hbad).mono ?_)).mono ?_, fun w1 Al cl hr hB1 => (rset_bad hr h.inv.good hn5 h.caps hkl b0 b1 want d h1 h2 hd l' hl' hg' (capOk_no hg' n (by omega) hbad)).mono ?_, h.inv, h.bal, h.pos, h.us0, h.us1⟩⟩
      · rintro e w' ⟨rfl, hb⟩
        exact ⟨_, _, _, _, rfl, rfl, below_next hb4 hb⟩
      · rintro e w' ⟨rfl, hb⟩
        exact ⟨none, 0, _, _, _, _, rfl, own_none _ _ _ _, h.net.below hb, Frame.of_below hb⟩
      · rintro e w' ⟨rfl, hb⟩
        exact ⟨none, 0, _, _, rfl, own_none _ _ _ _, hr.below hb, Frame.of_below hb⟩
end
end Go.Proofs.Ytbahclnpgdejlaa
