/- The program's side of each move; a move at the statement's book: Get, Put, Move, none. -/
import Derived.Test.YtbahclnpgdejlaaHolds
import Derived.Test.YtbahclnpgdejlaaPairMove
import Derived.Test.YtbahclnpgdejlaaBest
import Derived.Test.YtbahclnpgdejlaaTold
import Derived.Test.YtbahclnpgdejlaaMoved
set_option linter.unusedVariables false
namespace Go.Proofs.Ytbahclnpgdejlaa
open Go.RowKit
/-- A net's state that stands. -/
structure Sound (s : St) : Prop where
  inv : Inv s
  bal : Bal s.l (fun j => s.us.getD j 0) s.hs
  pos : ∀ j, 0 ≤ s.hs.getD j 0
  us0 : ∀ j, 0 ≤ s.us.getD j 0
  us1 : ∀ j, s.us.getD j 0 ≤ 65535
section
variable {w w' : World} {B nb n gu gh gb : Nat} {Ac Ar Au Ah : Option Addr} {cc cr cu ch bb : Nat} {Al Bu : Option Addr} {cl bu : Nat} {s : St} {l : List Clk} {us : List Int}
theorem Kept.sound (h : Kept w B nb n Ac Ar Au Ah cc cr cu ch bb Al Bu cl bu s) : Sound s := ⟨h.inv, h.bal, h.pos, h.us0, h.us1⟩
theorem Kept.of (h : NetAt w B nb n Ac Ar Au Ah cc cr cu ch s) (hb : BookAt w B bb n Al Bu cl bu s.l s.us) (hs : Sound s) : Kept w B nb n Ac Ar Au Ah cc cr cu ch bb Al Bu cl bu s := ⟨h, hb, hs.inv, hs.bal, hs.pos, hs.us0, hs.us1⟩
/-- What a call that answers turns and a number comes to. -/
def Turns1 (w : World) (B nb n gu gh : Nat) (Au Ah : Option Addr) (cu ch : Nat) (t : List (Int × Bool)) (z : Int) (s' : St) (e : Ending) (w1 : World) : Prop :=
  ∃ A c Ac' Ar' cc' cr', e = .returned (.tuple #[.slice A t.length c, .int .i64 z]) ∧ w1.ownsRow w.heap.size 80 2 (.slice A t.length c) t.length (turnCells t) ∧ NetAt w1 B nb n Ac' Ar' Au Ah cc' cr' cu ch s' ∧ Frame (SP nb n gu gh) w w1
theorem act_get (h : Kept w B nb n Ac Ar Au Ah cc cr cu ch bb Al Bu cl bu s) (ap : Apart n gu gh gb Au Ah Bu) (I : Int) :
    ∃ (t : List (Int × Bool)) (z : Int) (s' : St), t.length ≤ 1026 ∧ Sound s' ∧ (∀ w1, Below w.heap.size w w1 → Calls Try.prog 12 #[.pointer (some ⟨nb, 0, none⟩), .int .i64 I] w1 (Turns1 w1 B nb n gu gh Au Ah cu ch t z s')) ∧
      ((z ≠ 0 ∧ t = [] ∧ s' = s) ∨ (z = 0 ∧ ∃ k : Nat, I = (k : Int) ∧ k < n ∧ s'.l = s.l ∧ s'.rs = s.rs ∧ s'.us = s.us.set k (s.us.getD k 0 + 1) ∧ s.us.getD k 0 < 65535 ∧ t = refTurns (onL s.l s.hs 0) (onL s'.l s'.hs 0) n)) := by
  by_cases hI : I < 0 ∨ n ≤ I
  · refine ⟨[], 1, s, by simp, h.sound, fun w1 hb1 => (pget_no (h.net.below hb1) I hI).mono ?_, .inl ⟨by decide, rfl, rfl⟩⟩
    rintro e w' ⟨rfl, rfl⟩
    exact ⟨none, 0, _, _, _, _, rfl, own_none _ _ _ _, h.net.below hb1, Frame.refl _ _⟩
  · obtain ⟨k, rfl⟩ := Int.eq_ofNat_of_zero_le (show 0 ≤ I by omega)
    have hkn : k < n := by omega
    have h0 : 0 < n := by omega
    obtain rfl := ap.au h0
    obtain rfl := ap.ah h0
    have hlen := h.net.len
    have hlenh := h.net.lenh
    have hlenu := h.net.lenu
    have hu0 := h.us0 k
    have hu1 := h.us1 k
    have hhs : ∀ j : Nat, j < n → s.hs.getD j 0 ≤ 70000 := fun j hj => by
      have := h.bal j (by omega)
      have := kids_nonneg s.l s.hs j s.l.length
      have := h.us1 j
      have := h.n5
      simp only at *
      omega
    by_cases hfull : s.us.getD k 0 = 65535
    · refine ⟨[], 3, s, by simp, h.sound, fun w1 hb1 => (pget_full (h.net.below hb1) hkn hfull).mono ?_, .inl ⟨by decide, rfl, rfl⟩⟩
      rintro e w' ⟨rfl, rfl⟩
      exact ⟨none, 0, _, _, _, _, rfl, own_none _ _ _ _, h.net.below hb1, Frame.refl _ _⟩
    · have hhb := hold_bal h.inv.good 513 k s.hs _ (by omega) (by omega) (by have := h.n5; omega) (by omega) h.pos h.bal
      have hup := hold_up h.inv.good 513 k s.hs (by omega) (by omega) (by have := h.n5; omega) (by omega) h.pos
      have hdn := hold_down h.inv.good 513 k s.hs (by omega) (by omega) s.l.length
      have hset : ∀ j, (s.us.set k (s.us.getD k 0 + 1)).getD j 0 = if j = k then s.us.getD k 0 + 1 else s.us.getD j 0 := fun j => getD_set _ _ _ _ (by omega)
      have hb' : Bal s.l (fun j => (s.us.set k (s.us.getD k 0 + 1)).getD j 0) (holdF s.l 513 k s.hs).1 := hhb.1.congr fun j hj => by
        simp only [hset]
        unfold bump
        by_cases e : j = k
        · subst e; simp
        · rw [if_neg e, if_neg (by omega)]
      have ht : (holdF s.l 513 k s.hs).2 = refTurns (onL s.l s.hs 0) (onL s.l (holdF s.l 513 k s.hs).1 0) n := by
        unfold refTurns
        rw [hlen, hdn, List.append_nil]
        exact hup
      refine ⟨(holdF s.l 513 k s.hs).2, 0, { s with us := s.us.set k (s.us.getD k 0 + 1), hs := (holdF s.l 513 k s.hs).1 }, by have := holdF_turns s.l 513 k s.hs; omega, ⟨⟨h.inv.may, h.inv.fit, h.inv.rates⟩, hb', hhb.2, ?_, ?_⟩,
        fun w1 hb1 => (get_ok (h.net.below hb1) h.inv.good h.n5 hkn hfull hu0 hu1 (fun j hj => ⟨h.pos j, by have := hhs j (by omega); omega⟩)).mono ?_, .inr ⟨rfl, k, rfl, hkn, rfl, rfl, rfl, by omega, ht⟩⟩
      · intro j
        simp only [hset]
        split
        · omega
        · exact h.us0 j
      · intro j
        simp only [hset]
        split
        · omega
        · exact h.us1 j
      · rintro e w' ⟨A, c, rfl, ho, hn, hf⟩
        exact ⟨A, c, _, _, _, _, rfl, ho, hn, hf.mono (fun i _ hi => .inr ⟨h0, hi⟩)⟩
theorem act_put (h : Kept w B nb n Ac Ar Au Ah cc cr cu ch bb Al Bu cl bu s) (ap : Apart n gu gh gb Au Ah Bu) (I : Int) :
    ∃ (t : List (Int × Bool)) (z : Int) (s' : St), t.length ≤ 1026 ∧ Sound s' ∧ (∀ w1, Below w.heap.size w w1 → Calls Try.prog 14 #[.pointer (some ⟨nb, 0, none⟩), .int .i64 I] w1 (Turns1 w1 B nb n gu gh Au Ah cu ch t z s')) ∧
      ((z ≠ 0 ∧ t = [] ∧ s' = s) ∨ (z = 0 ∧ ∃ k : Nat, I = (k : Int) ∧ k < n ∧ s'.l = s.l ∧ s'.rs = s.rs ∧ s'.us = s.us.set k (s.us.getD k 0 - 1) ∧ 0 < s.us.getD k 0 ∧ t = refTurns (onL s.l s.hs 0) (onL s'.l s'.hs 0) n)) := by
  by_cases hI : I < 0 ∨ n ≤ I
  · refine ⟨[], 1, s, by simp, h.sound, fun w1 hb1 => (pput_no (h.net.below hb1) I hI).mono ?_, .inl ⟨by decide, rfl, rfl⟩⟩
    rintro e w' ⟨rfl, rfl⟩
    exact ⟨none, 0, _, _, _, _, rfl, own_none _ _ _ _, h.net.below hb1, Frame.refl _ _⟩
  · obtain ⟨k, rfl⟩ := Int.eq_ofNat_of_zero_le (show 0 ≤ I by omega)
    have hkn : k < n := by omega
    have h0 : 0 < n := by omega
    obtain rfl := ap.au h0
    obtain rfl := ap.ah h0
    have hlen := h.net.len
    have hlenh := h.net.lenh
    have hlenu := h.net.lenu
    have hu0 := h.us0 k
    have hu1 := h.us1 k
    have hhs : ∀ j : Nat, j < n → s.hs.getD j 0 ≤ 70000 := fun j hj => by
      have := h.bal j (by omega)
      have := kids_nonneg s.l s.hs j s.l.length
      have := h.us1 j
      have := h.n5
      simp only at *
      omega
    by_cases hz : s.us.getD k 0 = 0
    · refine ⟨[], 6, s, by simp, h.sound, fun w1 hb1 => (put_none (h.net.below hb1) hkn hz).mono ?_, .inl ⟨by decide, rfl, rfl⟩⟩
      rintro e w' ⟨rfl, rfl⟩
      exact ⟨none, 0, _, _, _, _, rfl, own_none _ _ _ _, h.net.below hb1, Frame.refl _ _⟩
    · have huk : ∀ j : Nat, (j : Int) = (k : Int) → 1 ≤ s.us.getD j 0 := fun j e => by
        obtain rfl : j = k := by omega
        omega
      have hhb := drop_bal h.inv.good 513 k s.hs _ (by omega) (by omega) (by have := h.n5; omega) (by omega) h.pos h.bal h.us0 huk
      have hdn := drop_down h.inv.good 513 k s.hs _ (by omega) (by omega) (by have := h.n5; omega) (by omega) h.pos h.bal h.us0 huk
      have hup := drop_up h.inv.good 513 k s.hs (by omega) (by omega) s.l.length
      have hset : ∀ j, (s.us.set k (s.us.getD k 0 - 1)).getD j 0 = if j = k then s.us.getD k 0 - 1 else s.us.getD j 0 := fun j => getD_set _ _ _ _ (by omega)
      have hb' : Bal s.l (fun j => (s.us.set k (s.us.getD k 0 - 1)).getD j 0) (dropF s.l 513 k s.hs).1 := hhb.1.congr fun j hj => by
        simp only [hset]
        unfold bump
        by_cases e : j = k
        · subst e; simp; omega
        · rw [if_neg e, if_neg (by omega)]
      have ht : (dropF s.l 513 k s.hs).2 = refTurns (onL s.l s.hs 0) (onL s.l (dropF s.l 513 k s.hs).1 0) n := by
        unfold refTurns
        rw [hlen, hup, List.nil_append]
        exact hdn
      refine ⟨(dropF s.l 513 k s.hs).2, 0, { s with us := s.us.set k (s.us.getD k 0 - 1), hs := (dropF s.l 513 k s.hs).1 }, by have := dropF_turns s.l 513 k s.hs; omega, ⟨⟨h.inv.may, h.inv.fit, h.inv.rates⟩, hb', hhb.2, ?_, ?_⟩,
        fun w1 hb1 => (put_ok (h.net.below hb1) h.inv.good h.n5 hkn hz hu0 hu1 (fun j hj => ⟨by have := h.pos j; omega, by have := hhs j (by omega); omega⟩)).mono ?_, .inr ⟨rfl, k, rfl, hkn, rfl, rfl, rfl, by omega, ht⟩⟩
      · intro j
        simp only [hset]
        split
        · omega
        · exact h.us0 j
      · intro j
        simp only [hset]
        split
        · omega
        · exact h.us1 j
      · rintro e w' ⟨A, c, rfl, ho, hn, hf⟩
        exact ⟨A, c, _, _, _, _, rfl, ho, hn, hf.mono (fun i _ hi => .inr ⟨h0, hi⟩)⟩
/-- What a call that answers changes and a number comes to. -/
def Chgs1 (w : World) (B nb n gu gh : Nat) (Au Ah : Option Addr) (cu ch : Nat) (t : List (Nat × Int × Int)) (z : Int) (s' : St) (e : Ending) (w1 : World) : Prop :=
  ∃ A c Ac' Ar' cc' cr', e = .returned (.tuple #[.slice A t.length c, .int .i64 z]) ∧ w1.ownsRow w.heap.size 78 3 (.slice A t.length c) t.length (chgCells t) ∧ NetAt w1 B nb n Ac' Ar' Au Ah cc' cr' cu ch s' ∧ Frame (SP nb n gu gh) w w1
/-- No Steady one that was on has changed. -/
def Calm (n : Nat) (s s' : St) : Prop := ∀ j, j < n → s.rs.getD j 0 ≠ s'.rs.getD j 0 → (onL s.l s.hs 0).getD j false = true → steadyAt s'.l j = false
theorem calm_of {n : Nat} {s : St} {l' : List Clk} {rs' : List Int} {hs' us' : List Int} (hn : n = s.l.length) (hfree : ∀ j, j < n → busyAt l' s.rs rs' s.hs j = false) : Calm n s ⟨l', rs', us', hs'⟩ := fun j hj h1 h2 => by
  have h := hfree j hj
  rw [onL0_get _ _ _ (by omega)] at h2
  unfold busyAt at h
  rw [h2, show (s.rs.getD j 0 == rs'.getD j 0) = false by simpa using h1] at h
  simpa using h
theorem act_set (h : Kept w B nb n Ac Ar Au Ah cc cr cu ch bb Al Bu cl bu s) (I want : Int) (hI : ¬ (I < 0 ∨ n ≤ I ∨ want < 0 ∨ 1099511627776 < want)) (k : Nat) (hIk : I = (k : Int)) (hkl : k < s.l.length) (d : Int) (hd : d = (roundOf (baseOf s.rs s.l[k] * s.l[k].mul) want).1) :
    ∃ (t : List (Nat × Int × Int)) (z : Int) (s' : St), t.length ≤ 1026 ∧ Sound s' ∧ (∀ w1, Below w.heap.size w w1 → Calls Try.prog 29 #[.pointer (some ⟨nb, 0, none⟩), .int .i64 I, .int .i64 want] w1 (Chgs1 w1 B nb n gu gh Au Ah cu ch t z s')) ∧
      ((z ≠ 0 ∧ t = [] ∧ s' = s) ∨ (z = 0 ∧ s'.l = s.l.set k { s.l[k] with div := d } ∧ s'.us = s.us ∧ s'.hs = s.hs ∧ t = chg s.rs s'.rs n ∧ Calm n s s')) := by
  subst hIk
  have hBw : B ≤ w.heap.size := Nat.le_of_lt (Nat.lt_of_le_of_lt h.net.low h.net.lt)
  have hkn : k < n := by omega
  have hlen := h.net.len
  have h1 : 0 ≤ want := by omega
  have h2 : want ≤ 1099511627776 := by omega
  obtain ⟨b0, b1⟩ := h.inv.base_bd hkl
  have o := h.inv.good.at_ hkl
  obtain ⟨p1, _, _, _⟩ := prod_bd b0 b1 o.m1 o.m2 (D := 1) (by omega)
  have dbd := round_bd (baseOf s.rs s.l[k] * s.l[k].mul) want p1 h1
  rw [← hd] at dbd
  obtain ⟨l', hl'⟩ : ∃ l', l' = s.l.set k { s.l[k] with div := d } := ⟨_, rfl⟩
  have hg' : Good l' := by rw [hl']; exact good_set h.inv.good hkl d dbd.1 dbd.2
  have hll : l'.length = s.l.length := by rw [hl', List.length_set]
  have hbal' : Bal l' (fun j => s.us.getD j 0) s.hs := fun i hi => by
    have := h.bal i (by omega)
    rw [this, hl', List.length_set, kids_div hkl]
  have hcl := chg_len s.rs (ratesOf l') n
  have hn5 := h.n5
  rcases fit_or l' n with hfit | hbad
  · have hinv' : Inv { s with l := l', rs := ratesOf l' } := ⟨may_set hll h.inv.may hg', fun j hj => hfit j (by simp only at hj; omega), rfl⟩
    rcases least_of (busyAt l' s.rs (ratesOf l') s.hs) n with hfree | ⟨j0, hj0, hz, hy⟩
    · refine ⟨chg s.rs (ratesOf l') n, 0, { s with l := l', rs := ratesOf l' }, by omega, ⟨hinv', hbal', h.pos, h.us0, h.us1⟩, fun w1 hb1 => (set_ok (h.net.below hb1) h.inv hkl want d h1 h2 hd l' hl' hfit hfree).mono ?_, .inr ⟨rfl, hl', rfl, rfl, rfl, calm_of hlen hfree⟩⟩
      rintro e w' ⟨A, c, A', c', g, rfl, ho, hn, hf⟩
      exact ⟨A, c, _, _, _, _, rfl, ho, hn, hf.mono (fun i _ hi => .inl hi)⟩
    · refine ⟨[], 182, s, by simp, h.sound, fun w1 hb1 => (pset_via (h.net.below hb1) h.inv hkl want d h1 h2 hd l' hl' (fun e w2 => e = .returned (.tuple #[.slice none 0 0, .int .i64 182]) ∧ Below w1.heap.size w1 w2) (fun w4 g c3 hb4 hrow hg1 => (change_busy (c' := c3) ((h.net.below hb1).below hb4) hg' (by omega) hn5 (by omega) (hrow.vec (by have := hb1.size; omega)) (by have := hb4.size; have := hb1.size; omega) hfit hj0 hz hy).mono ?_)).mono ?_, .inl ⟨by decide, rfl, rfl⟩⟩
      · rintro e w' ⟨rfl, hb⟩
        exact ⟨_, _, _, _, rfl, rfl, below_next hb4 hb⟩
      · rintro e w' ⟨rfl, hb⟩
        exact ⟨none, 0, _, _, _, _, rfl, own_none _ _ _ _, (h.net.below hb1).below hb, Frame.of_below hb⟩
  · refine ⟨[], 181, s, by simp, h.sound, fun w1 hb1 => (pset_via (h.net.below hb1) h.inv hkl want d h1 h2 hd l' hl' (fun e w2 => e = .returned (.tuple #[.slice none 0 0, .int .i64 181]) ∧ Below w1.heap.size w1 w2) (fun w4 g c3 hb4 hrow hg1 => (change_rate (c' := c3) ((h.net.below hb1).below hb4) hg' (by omega) hn5 (hrow.seg hrow.lt) hbad).mono ?_)).mono ?_, .inl ⟨by decide, rfl, rfl⟩⟩
    · rintro e w' ⟨rfl, hb⟩
      exact ⟨_, _, _, _, rfl, rfl, below_next hb4 hb⟩
    · rintro e w' ⟨rfl, hb⟩
      exact ⟨none, 0, _, _, _, _, rfl, own_none _ _ _ _, (h.net.below hb1).below hb, Frame.of_below hb⟩
/-- What a call of Move comes to. -/
def Both2 (w : World) (B nb n gu gh : Nat) (Au Ah : Option Addr) (cu ch : Nat) (t : List (Nat × Int × Int)) (t2 : List (Int × Bool)) (z : Int) (s' : St) (e : Ending) (w1 : World) : Prop :=
  ∃ A c A2 c2 Ac' Ar' cc' cr', e = .returned (.tuple #[.slice A t.length c, .slice A2 t2.length c2, .int .i64 z]) ∧ w1.ownsRow w.heap.size 78 3 (.slice A t.length c) t.length (chgCells t) ∧ w1.ownsRow w.heap.size 80 2 (.slice A2 t2.length c2) t2.length (turnCells t2) ∧ NetAt w1 B nb n Ac' Ar' Au Ah cc' cr' cu ch s' ∧ Frame (SP nb n gu gh) w w1
theorem act_move (h : Kept w B nb n Ac Ar Au Ah cc cr cu ch bb Al Bu cl bu s) (ap : Apart n gu gh gb Au Ah Bu) (I F : Int) :
    ∃ (t : List (Nat × Int × Int)) (t2 : List (Int × Bool)) (z : Int) (s' : St), t.length ≤ 1026 ∧ t2.length ≤ 1026 ∧ Sound s' ∧ (∀ w1, Below w.heap.size w w1 → Calls Try.prog 39 #[.pointer (some ⟨nb, 0, none⟩), .int .i64 I, .int .i64 F] w1 (Both2 w1 B nb n gu gh Au Ah cu ch t t2 z s')) ∧
      ((z ≠ 0 ∧ t = [] ∧ t2 = [] ∧ s' = s) ∨ (z = 0 ∧ ∃ (k f : Nat) (hk : k < s.l.length), I = (k : Int) ∧ F = (f : Int) ∧ k < n ∧ s'.l = s.l.set k { s.l[k] with frm := (f : Int) } ∧ s'.us = s.us ∧ t = chg s.rs s'.rs n ∧ t2 = refTurns (onL s.l s.hs 0) (onL s'.l s'.hs 0) n ∧ Calm n s s')) := by
  have hBw : B ≤ w.heap.size := Nat.le_of_lt (Nat.lt_of_le_of_lt h.net.low h.net.lt)
  by_cases hI : I < 0 ∨ n ≤ I ∨ F < 0 ∨ I ≤ F ∨ frmAt s.l I < 0
  · refine ⟨[], [], 1, s, by simp, by simp, h.sound, fun w1 hb1 => (pmove_no (h.net.below hb1) I F hI).mono ?_, .inl ⟨by decide, rfl, rfl, rfl⟩⟩
    rintro e w' ⟨rfl, rfl⟩
    exact ⟨none, 0, none, 0, _, _, _, _, rfl, own_none _ _ _ _, own_none _ _ _ _, h.net.below hb1, Frame.refl _ _⟩
  · obtain ⟨k, rfl⟩ := Int.eq_ofNat_of_zero_le (show 0 ≤ I by omega)
    obtain ⟨f, rfl⟩ := Int.eq_ofNat_of_zero_le (show 0 ≤ F by omega)
    have hkn : k < n := by omega
    have hfk : f < k := by omega
    have hF : 0 ≤ frmAt s.l k := by omega
    have h0 : 0 < n := by omega
    obtain rfl := ap.ah h0
    have hlen := h.net.len
    have hlenh := h.net.lenh
    have hkl : k < s.l.length := by omega
    obtain ⟨l', hl'⟩ : ∃ l', l' = s.l.set k { s.l[k] with frm := (f : Int) } := ⟨_, rfl⟩
    have hg' : Good l' := by rw [hl']; exact good_move h.inv.good hkl f hfk hF
    have hll : l'.length = s.l.length := by rw [hl', List.length_set]
    have hcl := chg_len s.rs (ratesOf l') n
    have hn5 := h.n5
    have hgh : gh < w.heap.size := by
      obtain ⟨g', e', _, hr⟩ := h.net.row_h h0
      injection e' with e'
      injection e' with e'
      rw [e']; exact hr.lt
    have hp := fun w1 (hb1 : Below w.heap.size w w1) => pmove_any (h.net.below hb1) h.inv (Nat.le_trans hBw hb1.size) hkl hF f hfk l' hl' hg'
    rcases fit_or l' n with hfit | hbad
    · have hinv' : Inv { s with l := l', rs := ratesOf l' } := ⟨may_set hll h.inv.may hg', fun j hj => hfit j (by simp only at hj; omega), rfl⟩
      rcases least_of (busyAt l' s.rs (ratesOf l') s.hs) n with hfree | ⟨j0, hj0, hz, hy⟩
      · have hok := fun w1 (hb1 : Below w.heap.size w w1) => pmove_ok (h.net.below hb1) h.inv (Nat.le_trans hBw hb1.size) (Nat.lt_of_lt_of_le hgh hb1.size) hkl hF f hfk l' hl' hg' hfit hfree
        by_cases hoff : s.hs.getD k 0 = 0
        · have hbal' : Bal l' (fun j => s.us.getD j 0) s.hs := by rw [hl']; exact moved_off h.bal hkl f hoff
          have hts : refTurns (onL s.l s.hs 0) (onL l' s.hs 0) n = [] := by rw [onL_same s.l l' s.hs hll.symm]; exact turns_same _ _
          refine ⟨chg s.rs (ratesOf l') n, [], 0, { s with l := l', rs := ratesOf l' }, by omega, by simp, ⟨hinv', hbal', h.pos, h.us0, h.us1⟩, fun w1 hb1 => ((hok w1 hb1).1 hoff).mono ?_, .inr ⟨rfl, k, f, hkl, rfl, rfl, hkn, hl', rfl, rfl, hts.symm, calm_of hlen hfree⟩⟩
          rintro e w' ⟨A, c, A', c', g, rfl, ho, hn, hf⟩
          exact ⟨A, c, none, 0, _, _, _, _, rfl, ho, own_none _ _ _ _, hn, hf.mono (fun i _ hi => .inl hi)⟩
        · have hon : 0 < s.hs.getD k 0 := by have := h.pos k; omega
          obtain ⟨hs1, e1⟩ : ∃ hs1, hs1 = (holdF l' 513 f s.hs).1 := ⟨_, rfl⟩
          obtain ⟨hs2, e2⟩ : ∃ hs2, hs2 = (dropF l' 513 (frmAt s.l k) hs1).1 := ⟨_, rfl⟩
          obtain ⟨m1, m2, m3, m4⟩ := move_law h.inv.good (by omega) (by omega) h.bal h.pos h.us0 h.us1 hkl hF f hfk hon l' hl' hg' hs1 hs2 e1 e2
          have hhs : ∀ j : Nat, j < n → s.hs.getD j 0 ≤ 100000 := fun j hj => by
            have := h.bal j (by omega)
            have := kids_nonneg s.l s.hs j s.l.length
            have := h.us1 j
            simp only at *
            omega
          have hl1 := holdF_turns l' 513 f s.hs
          have hl2 := dropF_turns l' 513 (frmAt s.l k) hs1
          have hmv := fun w1 hb1 => (hok w1 hb1).2 hon hs1 hs2 e1 e2 (fun j hj => ⟨h.pos j, hhs j hj⟩) (fun j hj => m3 j (by omega))
          rw [← hlen] at m4
          refine ⟨chg s.rs (ratesOf l') n, (holdF l' 513 f s.hs).2 ++ (dropF l' 513 (frmAt s.l k) hs1).2, 0, { s with l := l', rs := ratesOf l', hs := hs2 }, by omega, by simp; omega, ⟨⟨hinv'.may, hinv'.fit, hinv'.rates⟩, m1, m2, h.us0, h.us1⟩, fun w1 hb1 => (hmv w1 hb1).mono ?_, .inr ⟨rfl, k, f, hkl, rfl, rfl, hkn, hl', rfl, rfl, m4, calm_of hlen hfree⟩⟩
          rintro e w' ⟨A, c, A2, c2, A', c', g, rfl, ho, ho2, hn, hf⟩
          exact ⟨A, c, A2, c2, _, _, _, _, rfl, ho, ho2, hn, hf.mono (fun i _ hi => hi.elim .inl fun hi => .inr ⟨h0, .inr hi⟩)⟩
      · refine ⟨[], [], 182, s, by simp, by simp, h.sound, fun w1 hb1 => ((hp w1 hb1).2 hfit j0 hj0 hz hy).mono ?_, .inl ⟨by decide, rfl, rfl, rfl⟩⟩
        rintro e w' ⟨rfl, hb⟩
        exact ⟨none, 0, none, 0, _, _, _, _, rfl, own_none _ _ _ _, own_none _ _ _ _, (h.net.below hb1).below hb, Frame.of_below hb⟩
    · refine ⟨[], [], 181, s, by simp, by simp, h.sound, fun w1 hb1 => ((hp w1 hb1).1 hbad).mono ?_, .inl ⟨by decide, rfl, rfl, rfl⟩⟩
      rintro e w' ⟨rfl, hb⟩
      exact ⟨none, 0, none, 0, _, _, _, _, rfl, own_none _ _ _ _, own_none _ _ _ _, (h.net.below hb1).below hb, Frame.of_below hb⟩
end
end Go.Proofs.Ytbahclnpgdejlaa

set_option linter.unusedVariables false
namespace Go.Proofs.Ytbahclnpgdejlaa
open Go.RowKit
section
variable {w w' : World} {B nb n gu gh gb : Nat} {Ac Ar Au Ah : Option Addr} {cc cr cu ch bb : Nat} {Al Bu : Option Addr} {cl bu : Nat} {s : St} {l : List Clk} {us : List Int}
theorem BookAt.keepS (h : BookAt w B bb n Al Bu cl bu l us)
    (hk : ∀ (g : Nat) (cur : Array Value) (e : TypeId), w.heap[g]? = some (.cells cur e (0, 0)) → (e = 59 ∨ e = 81 ∨ (e = 3 ∧ 0 < n ∧ Bu = some ⟨g, 0, none⟩)) → w'.heap[g]? = w.heap[g]?) : BookAt w' B bb n Al Bu cl bu l us := by
  refine ⟨h.low, h.len, h.lenu, (hk bb _ _ h.box (.inl rfl)).trans h.box, fun hx => ?_, fun hx => ?_⟩
  · obtain ⟨g, hA, hb, hrg⟩ := h.vl hx
    obtain ⟨cur, hh, _⟩ := id hrg
    exact ⟨g, hA, hb, hrg.keep (hk g cur _ hh (.inr (.inl rfl)))⟩
  · obtain ⟨g, hA, hb, hrg⟩ := h.vu hx
    obtain ⟨cur, hh, _⟩ := id hrg
    refine ⟨g, hA, hb, hrg.keep (hk g cur _ hh (.inr (.inr ⟨rfl, ?_, hA⟩)))⟩
    rcases Nat.eq_zero_or_pos n with h0 | h0
    · exact absurd (by simp [i64s]; exact List.eq_nil_of_length_eq_zero (by have := h.lenu; omega)) hx
    · exact h0
theorem BookAt.frameP (h : BookAt w B bb n Al Bu cl bu l us) (hnet : NetAt w B nb n Ac Ar Au Ah cc cr cu ch s) (ap : Apart n gu gh gb Au Ah Bu) (hf : Frame (SP nb n gu gh) w w') : BookAt w' B bb n Al Bu cl bu l us := by
  refine h.keepS fun g cur e hh he => hf.block g (lt_of_heap hh) ?_
  rintro (rfl | ⟨h0, hg⟩)
  · have := type_of hh hnet.box
    subst this
    rcases he with h | h | ⟨h, _⟩ <;> cases h
  · have hrow : ∃ cur, w.heap[g]? = some (.cells cur 3 (0, 0)) := by
      rcases hg with rfl | rfl
      · obtain ⟨g', e', _, cur, hc, _⟩ := hnet.row_u h0
        rw [ap.au h0] at e'
        injection e' with e'
        injection e' with e'
        exact ⟨cur, by rw [e']; exact hc⟩
      · obtain ⟨g', e', _, cur, hc, _⟩ := hnet.row_h h0
        rw [ap.ah h0] at e'
        injection e' with e'
        injection e' with e'
        exact ⟨cur, by rw [e']; exact hc⟩
    obtain ⟨cur', hc⟩ := hrow
    have := type_of hh hc
    subst this
    rcases he with h | h | ⟨_, _, h⟩
    · cases h
    · cases h
    · rw [ap.ru h0] at h
      injection h with h
      injection h with h
      have := ap.n1 h0
      have := ap.n2 h0
      omega
/-- The net behind a store into the book's users, or into its clocks. -/
theorem NetAt.storeB (h : NetAt w B nb n Ac Ar Au Ah cc cr cu ch s) {g : Nat} {e0 : TypeId} {xs : List Value} (hr : RowAt w g e0 xs) (he0 : e0 = 81 ∨ (e0 = 3 ∧ Au ≠ some ⟨g, 0, none⟩ ∧ Ah ≠ some ⟨g, 0, none⟩)) (k : Nat) (u : Value) : NetAt (w.setCell ⟨g, k, none⟩ u) B nb n Ac Ar Au Ah cc cr cu ch s := by
  refine h.keepS fun g' cur e hh he => Below.heap_setCell w ⟨g, k, none⟩ u g' ?_
  show g' ≠ g
  rintro rfl
  obtain ⟨cur', hc, _⟩ := hr
  have := type_of hh hc
  subst this
  rcases he0 with rfl | ⟨rfl, h1, h2⟩
  · rcases he with h | h | h | ⟨h, _⟩ <;> cases h
  · rcases he with h | h | h | ⟨_, _, h⟩
    · cases h
    · cases h
    · cases h
    · rcases h with h | h
      · exact h1 h
      · exact h2 h
theorem BookAt.storeU (h : BookAt w B bb n Al (some ⟨gb, 0, none⟩) cl bu l us) (hn : 0 < n) (k : Nat) (v : Int) : BookAt (w.setCell ⟨gb, k, none⟩ (.int .i64 v)) B bb n Al (some ⟨gb, 0, none⟩) cl bu l (us.set k v) := by
  obtain ⟨g, e, hb, hrow⟩ := h.row_u hn
  injection e with e
  injection e with e
  subst e
  have hst := hrow.store k (.int .i64 v)
  rw [i64s_set] at hst
  have hx : ∀ (g' : Nat) (cur : Array Value) (e : TypeId), w.heap[g']? = some (.cells cur e (0, 0)) → e ≠ 3 → (w.setCell ⟨gb, k, none⟩ (.int .i64 v)).heap[g']? = w.heap[g']? := fun g' cur e hh he => Below.heap_setCell w _ _ g' (by
    show g' ≠ gb
    rintro rfl
    obtain ⟨cur', hc, _⟩ := hrow
    exact he (type_of hh hc))
  refine ⟨h.low, h.len, by rw [List.length_set]; exact h.lenu, (hx _ _ _ h.box (by decide)).trans h.box, fun hy => ?_, fun _ => ⟨gb, rfl, hb, hst⟩⟩
  obtain ⟨g, hA, hb2, hrg⟩ := h.vl hy
  obtain ⟨cur, hh, _⟩ := id hrg
  exact ⟨g, hA, hb2, hrg.keep (hx _ _ _ hh (by decide))⟩
theorem BookAt.storeL {gl : Nat} (h : BookAt w B bb n (some ⟨gl, 0, none⟩) Bu cl bu l us) (hn : 0 < n) (k : Nat) (v : Value) (l' : List Clk) (hl : l'.length = l.length) (hc : (clkCells l).set k v = clkCells l') : BookAt (w.setCell ⟨gl, k, none⟩ v) B bb n (some ⟨gl, 0, none⟩) Bu cl bu l' us := by
  obtain ⟨g, e, hb, hrow⟩ := h.row_l hn
  injection e with e
  injection e with e
  subst e
  have hst := hrow.store k v
  rw [hc] at hst
  have hx : ∀ (g' : Nat) (cur : Array Value) (e : TypeId), w.heap[g']? = some (.cells cur e (0, 0)) → e ≠ 81 → (w.setCell ⟨gl, k, none⟩ v).heap[g']? = w.heap[g']? := fun g' cur e hh he => Below.heap_setCell w _ _ g' (by
    show g' ≠ gl
    rintro rfl
    obtain ⟨cur', hc, _⟩ := hrow
    exact he (type_of hh hc))
  refine ⟨h.low, by rw [hl]; exact h.len, h.lenu, (hx _ _ _ h.box (by decide)).trans h.box, fun _ => ⟨gl, rfl, hb, hst⟩, fun hy => ?_⟩
  obtain ⟨g, hA, hb2, hrg⟩ := h.vu hy
  obtain ⟨cur, hh, _⟩ := id hrg
  exact ⟨g, hA, hb2, hrg.keep (hx _ _ _ hh (by decide))⟩
/-- base, by a net and a book that need not be of one state. -/
theorem bbase2 {w : World} {B nb n : Nat} {Ac Ar Au Ah : Option Addr} {cc cr cu ch bb : Nat} {Al Bu : Option Addr} {cl bu : Nat} {s : St} (h : NetAt w B nb n Ac Ar Au Ah cc cr cu ch s) (hk : BookAt w B bb n Al Bu cl bu l us) (hg : Good l) {k : Nat} (hkl : k < l.length) :
    Calls Try.prog 44 #[.pointer (some ⟨bb, 0, none⟩), .pointer (some ⟨nb, 0, none⟩), .int .i64 k] w fun e w' => e = .returned (.int .i64 (baseOf s.rs l[k])) ∧ w = w' := by
  have hlen := hk.len
  have d0 := hk.c0
  have hki : (k : Int) < (n : Int) := by omega
  obtain ⟨b, off, rfl, hbb, g0, g1, _⟩ := hk.vl.seg.clk hkl
  have o := hg.at_ hkl
  rcases o.src with ⟨h1, _, _⟩ | ⟨h1, h2, _⟩
  · have e : baseOf s.rs l[k] = l[k].rate := by unfold baseOf; rw [if_pos (by omega)]
    have hF : l[k].frm < 0 := by omega
    rw [e]
    generalize l[k].frm = F at *
    generalize l[k].rate = R at *
    clear h hk o h1 e
    go_enter Try.func44, Try.ntmps44
    go_wp2
    go_ret
    exact ⟨rfl, rfl⟩
  · have e : baseOf s.rs l[k] = s.rs.getD l[k].frm.toNat 0 := by unfold baseOf; rw [if_neg (by omega)]
    obtain ⟨f, hf⟩ := Int.eq_ofNat_of_zero_le h1
    rw [e, hf, Int.toNat_natCast]
    rw [hf] at g0
    have hr := rate_ok h.c0 h.c1 h.vr.seg (k := f) (by omega) h.lenr
    generalize s.rs.getD f 0 = r at *
    have HR := Lib.hid hr
    clear h hk o h1 h2 e hf hr
    go_enter Try.func44, Try.ntmps44
    go_wp2_with (go_at_call 28; refine HR.out.mono ?_; rintro e w' ⟨rfl, rfl⟩)
    go_ret
    exact ⟨rfl, rfl⟩
end
end Go.Proofs.Ytbahclnpgdejlaa

set_option linter.unusedVariables false
namespace Go.Proofs.Ytbahclnpgdejlaa
open Go.RowKit
section
variable {w w' : World} {B nb n gu gh gb : Nat} {Ac Ar Au Ah : Option Addr} {cc cr cu ch bb : Nat} {Al Bu : Option Addr} {cl bu : Nat} {s s' : St} {l : List Clk} {us : List Int}
/-- Behind a move: the net and its book stand again. -/
def HeldTo (B nb n : Nat) (Au Ah : Option Addr) (cu ch bb : Nat) (Al Bu : Option Addr) (cl bu : Nat) (w : World) (e : Ending) (w' : World) : Prop :=
  e = .returned (.bool true) ∧ (∃ Ac Ar cc cr s, Kept w' B nb n Ac Ar Au Ah cc cr cu ch bb Al Bu cl bu s) ∧ Below B w w'
theorem sp_ge (h : NetAt w B nb n Ac Ar Au Ah cc cr cu ch s) (ap : Apart n gu gh gb Au Ah Bu) (j : Nat) (hj : SP nb n gu gh j) : B ≤ j := by
  rcases hj with rfl | ⟨h0, rfl | rfl⟩
  · exact h.low
  · obtain ⟨g', e', hb, _⟩ := h.row_u h0
    rw [ap.au h0] at e'
    injection e' with e'
    injection e' with e'
    rw [e']; exact hb
  · obtain ⟨g', e', hb, _⟩ := h.row_h h0
    rw [ap.ah h0] at e'
    injection e' with e'
    injection e' with e'
    rw [e']; exact hb
/-- What a call at the net leaves of all else. -/
structure Behind (w w1 w2 : World) (B bb n : Nat) (Al Bu : Option Addr) (cl bu : Nat) (s : St) : Prop where
  book : BookAt w2 B bb n Al Bu cl bu s.l s.us
  low : Below B w w2
  size : w1.heap.size ≤ w2.heap.size
  row : ∀ g e xs, w.heap.size ≤ g → RowAt w1 g e xs → RowAt w2 g e xs
  cell : ∀ p : Addr, w.heap.size ≤ p.block → p.block < w1.heap.size → w2.cell? p = w1.cell? p
theorem behind (h : Kept w B nb n Ac Ar Au Ah cc cr cu ch bb Al Bu cl bu s) (ap : Apart n gu gh gb Au Ah Bu) {w1 w2 : World} (hb1 : Below w.heap.size w w1) (hf : Frame (SP nb n gu gh) w1 w2) : Behind w w1 w2 B bb n Al Bu cl bu s := by
  have hBw : B ≤ w.heap.size := Nat.le_of_lt (Nat.lt_of_le_of_lt h.net.low h.net.lt)
  have hlt := fun j hj => h.net.lts (gr := gb) (Ru := Bu) ap j hj
  have hge := fun j hj => sp_ge (Bu := Bu) (gb := gb) h.net ap j hj
  refine ⟨(h.book.below hb1).frameP (h.net.below hb1) ap hf, (hb1.mono hBw).trans (hf.toBelow (Nat.le_trans hBw hb1.size) fun k hk hs => by have := hge k hs; omega), hf.size, fun g e xs hg hr => hr.frame hf fun hs => by have := hlt g hs; omega, fun p hp hl => ?_⟩
  have := hf.block p.block hl fun hs => by have := hlt _ hs; omega
  unfold World.cell?
  rw [this]
theorem stored (h : NetAt w B nb n Ac Ar Au Ah cc cr cu ch s') (hb : BookAt w B bb n Al (some ⟨gb, 0, none⟩) cl bu s.l s.us) (ap : Apart n gu gh gb Au Ah (some ⟨gb, 0, none⟩)) (hn : 0 < n) (hs : Sound s') (k : Nat) (v : Int) (e1 : s'.l = s.l) (e3 : s'.us = s.us.set k v) :
    Kept (w.setCell ⟨gb, k, none⟩ (.int .i64 v)) B nb n Ac Ar Au Ah cc cr cu ch bb Al (some ⟨gb, 0, none⟩) cl bu s' := by
  obtain ⟨g, e, _, hrow⟩ := hb.row_u hn
  injection e with e
  injection e with e
  subst e
  refine Kept.of (h.storeB hrow (.inr ⟨rfl, ?_, ?_⟩) k _) ?_ hs
  · rw [ap.au hn]; intro e; injection e with e; injection e with e; exact ap.n1 hn e.symm
  · rw [ap.ah hn]; intro e; injection e with e; injection e with e; exact ap.n2 hn e.symm
  · rw [e1, e3]
    exact hb.storeU hn k v
theorem storedL {gl : Nat} (h : NetAt w B nb n Ac Ar Au Ah cc cr cu ch s') (hb : BookAt w B bb n (some ⟨gl, 0, none⟩) Bu cl bu s.l s.us) (hn : 0 < n) (hs : Sound s') (k : Nat) (hk : k < s.l.length) (i : Nat) (v : Value) (c : Clk) (hc : (clkCells s.l).set i v = clkCells (s.l.set k c)) (e1 : s'.l = s.l.set k c) (e3 : s'.us = s.us) :
    Kept (w.setCell ⟨gl, i, none⟩ v) B nb n Ac Ar Au Ah cc cr cu ch bb (some ⟨gl, 0, none⟩) Bu cl bu s' := by
  obtain ⟨g, e, _, hrow⟩ := hb.row_l hn
  injection e with e
  injection e with e
  subst e
  refine Kept.of (h.storeB hrow (.inl rfl) i _) ?_ hs
  rw [e3, e1]
  exact hb.storeL hn i v _ (by rw [List.length_set]) hc
theorem chg_none (a : List Int) : ∀ n, chg a a n = []
  | 0 => rfl
  | n + 1 => by unfold chg; rw [if_pos rfl]; exact chg_none a n
set_option maxRecDepth 100000 in
set_option maxHeartbeats 4000000 in
theorem hold0_ok (h : Kept w B nb n Ac Ar Au Ah cc cr cu ch bb Al Bu cl bu s) (ap : Apart n gu gh gb Au Ah Bu) (F W : Int) (k : Nat) (hk : k < n) (t : List (Int × Bool)) (s' : St) (hl : t.length ≤ 1026) (hs' : Sound s')
    (hp : ∀ w1, Below w.heap.size w w1 → Calls Try.prog 12 #[.pointer (some ⟨nb, 0, none⟩), .int .i64 k] w1 (Turns1 w1 B nb n gu gh Au Ah cu ch t 0 s'))
    (e1 : s'.l = s.l) (e2 : s'.rs = s.rs) (e3 : s'.us = s.us.set k (s.us.getD k 0 + 1)) (e4 : s.us.getD k 0 < 65535) (e5 : t = refTurns (onL s.l s.hs 0) (onL s'.l s'.hs 0) n) :
    Calls Try.prog 21 #[.pointer (some ⟨bb, 0, none⟩), .pointer (some ⟨nb, 0, none⟩), .agg #[.int .i64 0, .int .i64 k, .int .i64 F, .int .i64 W]] w (HeldTo B nb n Au Ah cu ch bb Al Bu cl bu w) := by
  have hn5 := h.n5
  have h0 : 0 < n := by omega
  obtain rfl := ap.ru h0
  have hb0 : Below w.heap.size w (w.alloc (.cells #[.int .i64 0, .int .i64 k, .int .i64 F, .int .i64 W] 54)) := (Below.refl _ _).alloc (Nat.le_refl _) _
  have esz : (w.alloc (.cells #[.int .i64 0, .int .i64 k, .int .i64 F, .int .i64 W] 54)).heap.size = w.heap.size + 1 := by simp
  have hwas := was_any (h.net.below hb0) hn5
  rw [esz] at hwas
  have d0 := h.book.c0
  have hbbw := h.book.lt
  have hu0 := h.us0 k
  obtain ⟨u, hu⟩ : ∃ u, u = s.us.getD k 0 := ⟨_, rfl⟩
  rw [← hu] at e3 e4 hu0
  have hlenu := h.net.lenu
  have hcu : ∀ w2, BookAt w2 B bb n Al (some ⟨gb, 0, none⟩) cl bu s.l s.us → w2.cell? ⟨gb, k, none⟩ = some (.int .i64 u) ∧ w2.frozen? ⟨gb, k, none⟩ = false := fun w2 hb => by
    obtain ⟨g, e, _, hrow⟩ := hb.row_u h0
    injection e with e
    injection e with e
    subst e
    have := hrow.cell (k := k) (by rw [i64s_len, ← hlenu]; exact hk)
    rw [i64s_get _ _ (by rw [← hlenu]; exact hk), ← hu] at this
    exact ⟨this, hrow.frozen k⟩
  have hgbw : gb < w.heap.size := by
    obtain ⟨g, e, _, hrow⟩ := h.book.row_u h0
    injection e with e
    injection e with e
    rw [e]; exact hrow.lt
  have hge : B ≤ gb := by
    obtain ⟨g, e, hb, _⟩ := h.book.row_u h0
    injection e with e
    injection e with e
    rw [e]; exact hb
  have htold := fun (w3 : World) (h3 : ∃ Ac Ar cc cr, Kept w3 B nb n Ac Ar Au Ah cc cr cu ch bb Al (some ⟨gb, 0, none⟩) cl bu s') (A5 : Option Addr) (c5 : Nat) (r1 : RowAt w3 (w.heap.size + 1) 2 (i64s s.rs)) (r2 : RowAt w3 (w.heap.size + 1 + 1) 4 (bools (onL s.l s.hs 0))) (s5 : Seg w3 w3.heap.size A5 (turnCells t)) =>
    (show Calls Try.prog 46 #[.pointer (some ⟨bb, 0, none⟩), .pointer (some ⟨nb, 0, none⟩), .slice (some ⟨w.heap.size + 1, 0, none⟩) n n, .slice (some ⟨w.heap.size + 1 + 1, 0, none⟩) n n, .slice none 0 0, .slice A5 t.length c5] w3 (fun e w' => e = .returned (.bool true) ∧ Below w3.heap.size w3 w') from by
      obtain ⟨_, _, _, _, h3⟩ := h3
      exact told_any h3 s.rs (onL s.l s.hs 0) h.net.lenr (by rw [onL_len]; exact h.net.len) _ _ none A5 n n 0 c5 0 t.length (by rw [e2, chg_none]; rfl) (by rw [← e5]) hl w3.heap.size (Nat.le_refl _) (r1.seg r1.lt) (r2.seg r2.lt) (by rw [e2, chg_none]; exact Seg.nil) (by rw [← e5]; exact s5) (fun j _ hne => absurd (by rw [e2]) hne))
  have HT := Lib.hid htold
  have HW := Lib.hid hwas
  have HH := Lib.hid h
  have HP := Lib.hid hp
  have HA := Lib.hid ap
  have HB0 := Lib.hid hb0
  have HCU := Lib.hid hcu
  have HS' := Lib.hid hs'
  have E1 := Lib.hid e1
  have E3 := Lib.hid e3
  have d0' := (hb0.cell (p := ⟨bb, 0, none⟩) hbbw).trans d0
  have hk1 : (k : Int) < (n : Int) := by omega
  have hx := heap_alloc_new w (.cells #[.int .i64 0, .int .i64 k, .int .i64 F, .int .i64 W] 54)
  have q0 := cell_of_row _ w.heap.size 0 _ _ (0, 0) hx
  have q1 := cell_of_row _ w.heap.size 1 _ _ (0, 0) hx
  simp only [List.getElem?_toArray, List.getElem?_cons_succ, List.getElem?_cons_zero] at q0 q1
  clear htold hwas h hp ap hb0 hcu hs' e1 e2 e3 e5 hu hlenu d0 hx
  go_enter Try.func21, Try.ntmps21
  go_wp2_with (first
    | (go_at_call 45
       refine HW.out.mono ?_
       rintro e w1 ⟨rfl, r1, r2, hb1⟩
       have z0 := (hb1.cell (p := ⟨w.heap.size, 0, none⟩) (by show w.heap.size < w.heap.size + 1; omega)).trans q0
       have z1 := (hb1.cell (p := ⟨w.heap.size, 1, none⟩) (by show w.heap.size < w.heap.size + 1; omega)).trans q1
       have k0 := (hb1.cell (p := ⟨bb, 0, none⟩) (by show bb < w.heap.size + 1; omega)).trans d0'
       have R1 := Lib.hid r1
       have R2 := Lib.hid r2
       have HB1 := Lib.hid hb1
       clear r1 r2 hb1))
  go_quiet (fail)
  go_wp2_with (first
    | (go_at_call 12
       refine (HP.out _ (below_drewN ((HB0.out.trans (HB1.out.mono (by omega)))) _)).mono ?_
       rintro e w2 ⟨A, c, Ac', Ar', cc', cr', rfl, ho, hn2, hf⟩
       have hbe := behind HH.out HA.out (below_drewN ((HB0.out.trans (HB1.out.mono (by omega)))) _) hf
       have k1 := hbe.book.c1
       have k2 := hbe.book.c0
       obtain ⟨c1, c2⟩ := HCU.out _ hbe.book
       have hsz := HB1.out.size
       have z5 := (hbe.cell ⟨w.heap.size, 1, none⟩ (Nat.le_refl _) (by show w.heap.size < w1.heap.size; omega)).trans z1
       have HBE := Lib.hid hbe
       have HO := Lib.hid ho
       have HN2 := Lib.hid hn2
       clear ho hn2 hf hbe))
  go_region
  have hgbw2 : gb < w2.heap.size := by have := HBE.out.size; have := HB1.out.size; simp at *; omega
  have hkp := stored HN2.out HBE.out.book HA.out h0 HS'.out k (u + 1) E1.out E3.out
  have hf3 : Frame (fun j => j = gb) w2 (w2.setCell ⟨gb, k, none⟩ (.int .i64 (u + 1))) := (Frame.refl (fun j => j = gb) _).setCell (p := ⟨gb, k, none⟩) (fun _ => rfl) _
  have ho3 := own_frame HO.out hf3 (fun g hg hx => by have := (HO.out.lt g hg).1; have := HB1.out.size; simp at *; omega)
  have hr1 := (HBE.out.row _ _ _ (by omega) R1.out).frame hf3 (by omega)
  have hr2 := (HBE.out.row _ _ _ (by omega) R2.out).frame hf3 (by omega)
  have hlo := HBE.out.low.setCell (p := ⟨gb, k, none⟩) hge (.int .i64 (u + 1))
  have hBs : B ≤ (w2.setCell ⟨gb, k, none⟩ (.int .i64 (u + 1))).heap.size := by simp; omega
  generalize w2.setCell ⟨gb, k, none⟩ (.int .i64 (u + 1)) = w3 at *
  have hd : Below w3.heap.size w3 w3.drew := below_drewN (Below.refl _ _) 1
  have htl := HT.out w3.drew ⟨_, _, _, _, hkp.below hd⟩ A c (hr1.below hd) (hr2.below hd) ((own_seg ho3).below hd)
  have HTL := Lib.hid htl
  have HKP := Lib.hid (hkp.below hd)
  have HLO := Lib.hid (hlo.trans (hd.mono hBs))
  clear htl hkp hf3 ho3 hr1 hr2 hlo hd
  go_wp2_with (first
    | (go_at_call 46
       refine HTL.out.mono ?_
       rintro e w4 ⟨rfl, hb4⟩
       have HB4 := Lib.hid hb4
       clear hb4)
    | (go_at_call 20
       refine (holds_any (HKP.out.below HB4.out)).mono ?_
       rintro e w5 ⟨rfl, hb5⟩
       have HB5 := Lib.hid hb5
       clear hb5))
  go_ret
  have hs4 := HB4.out.size
  exact ⟨rfl, ⟨_, _, _, _, _, (HKP.out.below HB4.out).below HB5.out⟩, (HLO.out.trans (HB4.out.mono hBs)).trans (HB5.out.mono (Nat.le_trans hBs hs4))⟩
set_option maxRecDepth 100000 in
set_option maxHeartbeats 4000000 in
theorem hold1_ok (h : Kept w B nb n Ac Ar Au Ah cc cr cu ch bb Al Bu cl bu s) (ap : Apart n gu gh gb Au Ah Bu) (F W : Int) (k : Nat) (hk : k < n) (t : List (Int × Bool)) (s' : St) (hl : t.length ≤ 1026) (hs' : Sound s')
    (hp : ∀ w1, Below w.heap.size w w1 → Calls Try.prog 14 #[.pointer (some ⟨nb, 0, none⟩), .int .i64 k] w1 (Turns1 w1 B nb n gu gh Au Ah cu ch t 0 s'))
    (e1 : s'.l = s.l) (e2 : s'.rs = s.rs) (e3 : s'.us = s.us.set k (s.us.getD k 0 - 1)) (e4 : 0 < s.us.getD k 0) (e5 : t = refTurns (onL s.l s.hs 0) (onL s'.l s'.hs 0) n) :
    Calls Try.prog 21 #[.pointer (some ⟨bb, 0, none⟩), .pointer (some ⟨nb, 0, none⟩), .agg #[.int .i64 1, .int .i64 k, .int .i64 F, .int .i64 W]] w (HeldTo B nb n Au Ah cu ch bb Al Bu cl bu w) := by
  have hn5 := h.n5
  have h0 : 0 < n := by omega
  obtain rfl := ap.ru h0
  have hb0 : Below w.heap.size w (w.alloc (.cells #[.int .i64 1, .int .i64 k, .int .i64 F, .int .i64 W] 54)) := (Below.refl _ _).alloc (Nat.le_refl _) _
  have esz : (w.alloc (.cells #[.int .i64 1, .int .i64 k, .int .i64 F, .int .i64 W] 54)).heap.size = w.heap.size + 1 := by simp
  have hwas := was_any (h.net.below hb0) hn5
  rw [esz] at hwas
  have d0 := h.book.c0
  have hbbw := h.book.lt
  have hu0 := h.us1 k
  obtain ⟨u, hu⟩ : ∃ u, u = s.us.getD k 0 := ⟨_, rfl⟩
  rw [← hu] at e3 e4 hu0
  have hlenu := h.net.lenu
  have hcu : ∀ w2, BookAt w2 B bb n Al (some ⟨gb, 0, none⟩) cl bu s.l s.us → w2.cell? ⟨gb, k, none⟩ = some (.int .i64 u) ∧ w2.frozen? ⟨gb, k, none⟩ = false := fun w2 hb => by
    obtain ⟨g, e, _, hrow⟩ := hb.row_u h0
    injection e with e
    injection e with e
    subst e
    have := hrow.cell (k := k) (by rw [i64s_len, ← hlenu]; exact hk)
    rw [i64s_get _ _ (by rw [← hlenu]; exact hk), ← hu] at this
    exact ⟨this, hrow.frozen k⟩
  have hgbw : gb < w.heap.size := by
    obtain ⟨g, e, _, hrow⟩ := h.book.row_u h0
    injection e with e
    injection e with e
    rw [e]; exact hrow.lt
  have hge : B ≤ gb := by
    obtain ⟨g, e, hb, _⟩ := h.book.row_u h0
    injection e with e
    injection e with e
    rw [e]; exact hb
  have htold := fun (w3 : World) (h3 : ∃ Ac Ar cc cr, Kept w3 B nb n Ac Ar Au Ah cc cr cu ch bb Al (some ⟨gb, 0, none⟩) cl bu s') (A5 : Option Addr) (c5 : Nat) (r1 : RowAt w3 (w.heap.size + 1) 2 (i64s s.rs)) (r2 : RowAt w3 (w.heap.size + 1 + 1) 4 (bools (onL s.l s.hs 0))) (s5 : Seg w3 w3.heap.size A5 (turnCells t)) =>
    (show Calls Try.prog 46 #[.pointer (some ⟨bb, 0, none⟩), .pointer (some ⟨nb, 0, none⟩), .slice (some ⟨w.heap.size + 1, 0, none⟩) n n, .slice (some ⟨w.heap.size + 1 + 1, 0, none⟩) n n, .slice none 0 0, .slice A5 t.length c5] w3 (fun e w' => e = .returned (.bool true) ∧ Below w3.heap.size w3 w') from by
      obtain ⟨_, _, _, _, h3⟩ := h3
      exact told_any h3 s.rs (onL s.l s.hs 0) h.net.lenr (by rw [onL_len]; exact h.net.len) _ _ none A5 n n 0 c5 0 t.length (by rw [e2, chg_none]; rfl) (by rw [← e5]) hl w3.heap.size (Nat.le_refl _) (r1.seg r1.lt) (r2.seg r2.lt) (by rw [e2, chg_none]; exact Seg.nil) (by rw [← e5]; exact s5) (fun j _ hne => absurd (by rw [e2]) hne))
  have HT := Lib.hid htold
  have HW := Lib.hid hwas
  have HH := Lib.hid h
  have HP := Lib.hid hp
  have HA := Lib.hid ap
  have HB0 := Lib.hid hb0
  have HCU := Lib.hid hcu
  have HS' := Lib.hid hs'
  have E1 := Lib.hid e1
  have E3 := Lib.hid e3
  have d0' := (hb0.cell (p := ⟨bb, 0, none⟩) hbbw).trans d0
  have hk1 : (k : Int) < (n : Int) := by omega
  have hx := heap_alloc_new w (.cells #[.int .i64 1, .int .i64 k, .int .i64 F, .int .i64 W] 54)
  have q0 := cell_of_row _ w.heap.size 0 _ _ (0, 0) hx
  have q1 := cell_of_row _ w.heap.size 1 _ _ (0, 0) hx
  simp only [List.getElem?_toArray, List.getElem?_cons_succ, List.getElem?_cons_zero] at q0 q1
  clear htold hwas h hp ap hb0 hcu hs' e1 e2 e3 e5 hu hlenu d0 hx
  go_enter Try.func21, Try.ntmps21
  go_wp2_with (first
    | (go_at_call 45
       refine HW.out.mono ?_
       rintro e w1 ⟨rfl, r1, r2, hb1⟩
       have z0 := (hb1.cell (p := ⟨w.heap.size, 0, none⟩) (by show w.heap.size < w.heap.size + 1; omega)).trans q0
       have z1 := (hb1.cell (p := ⟨w.heap.size, 1, none⟩) (by show w.heap.size < w.heap.size + 1; omega)).trans q1
       have k0 := (hb1.cell (p := ⟨bb, 0, none⟩) (by show bb < w.heap.size + 1; omega)).trans d0'
       have R1 := Lib.hid r1
       have R2 := Lib.hid r2
       have HB1 := Lib.hid hb1
       clear r1 r2 hb1))
  go_quiet (fail)
  go_wp2_with (first
    | (go_at_call 14
       refine (HP.out _ (below_drewN ((HB0.out.trans (HB1.out.mono (by omega)))) _)).mono ?_
       rintro e w2 ⟨A, c, Ac', Ar', cc', cr', rfl, ho, hn2, hf⟩
       have hbe := behind HH.out HA.out (below_drewN ((HB0.out.trans (HB1.out.mono (by omega)))) _) hf
       have k1 := hbe.book.c1
       have k2 := hbe.book.c0
       obtain ⟨c1, c2⟩ := HCU.out _ hbe.book
       have hsz := HB1.out.size
       have z5 := (hbe.cell ⟨w.heap.size, 1, none⟩ (Nat.le_refl _) (by show w.heap.size < w1.heap.size; omega)).trans z1
       have HBE := Lib.hid hbe
       have HO := Lib.hid ho
       have HN2 := Lib.hid hn2
       clear ho hn2 hf hbe))
  go_region
  have hgbw2 : gb < w2.heap.size := by have := HBE.out.size; have := HB1.out.size; simp at *; omega
  have hkp := stored HN2.out HBE.out.book HA.out h0 HS'.out k (u - 1) E1.out E3.out
  have hf3 : Frame (fun j => j = gb) w2 (w2.setCell ⟨gb, k, none⟩ (.int .i64 (u - 1))) := (Frame.refl (fun j => j = gb) _).setCell (p := ⟨gb, k, none⟩) (fun _ => rfl) _
  have ho3 := own_frame HO.out hf3 (fun g hg hx => by have := (HO.out.lt g hg).1; have := HB1.out.size; simp at *; omega)
  have hr1 := (HBE.out.row _ _ _ (by omega) R1.out).frame hf3 (by omega)
  have hr2 := (HBE.out.row _ _ _ (by omega) R2.out).frame hf3 (by omega)
  have hlo := HBE.out.low.setCell (p := ⟨gb, k, none⟩) hge (.int .i64 (u - 1))
  have hBs : B ≤ (w2.setCell ⟨gb, k, none⟩ (.int .i64 (u - 1))).heap.size := by simp; omega
  generalize w2.setCell ⟨gb, k, none⟩ (.int .i64 (u - 1)) = w3 at *
  have hd : Below w3.heap.size w3 w3.drew := below_drewN (Below.refl _ _) 1
  have htl := HT.out w3.drew ⟨_, _, _, _, hkp.below hd⟩ A c (hr1.below hd) (hr2.below hd) ((own_seg ho3).below hd)
  have HTL := Lib.hid htl
  have HKP := Lib.hid (hkp.below hd)
  have HLO := Lib.hid (hlo.trans (hd.mono hBs))
  clear htl hkp hf3 ho3 hr1 hr2 hlo hd
  go_wp2_with (first
    | (go_at_call 46
       refine HTL.out.mono ?_
       rintro e w4 ⟨rfl, hb4⟩
       have HB4 := Lib.hid hb4
       clear hb4)
    | (go_at_call 20
       refine (holds_any (HKP.out.below HB4.out)).mono ?_
       rintro e w5 ⟨rfl, hb5⟩
       have HB5 := Lib.hid hb5
       clear hb5))
  go_ret
  have hs4 := HB4.out.size
  exact ⟨rfl, ⟨_, _, _, _, _, (HKP.out.below HB4.out).below HB5.out⟩, (HLO.out.trans (HB4.out.mono hBs)).trans (HB5.out.mono (Nat.le_trans hBs hs4))⟩
set_option maxRecDepth 100000 in
set_option maxHeartbeats 4000000 in
theorem hold0_no (h : Kept w B nb n Ac Ar Au Ah cc cr cu ch bb Al Bu cl bu s) (ap : Apart n gu gh gb Au Ah Bu) (I F W z : Int) (hz : z ≠ 0)
    (hp : ∀ w1, Below w.heap.size w w1 → Calls Try.prog 12 #[.pointer (some ⟨nb, 0, none⟩), .int .i64 I] w1 (Turns1 w1 B nb n gu gh Au Ah cu ch [] z s)) :
    Calls Try.prog 21 #[.pointer (some ⟨bb, 0, none⟩), .pointer (some ⟨nb, 0, none⟩), .agg #[.int .i64 0, .int .i64 I, .int .i64 F, .int .i64 W]] w (HeldTo B nb n Au Ah cu ch bb Al Bu cl bu w) := by
  have hn5 := h.n5
  have hb0 : Below w.heap.size w (w.alloc (.cells #[.int .i64 0, .int .i64 I, .int .i64 F, .int .i64 W] 54)) := (Below.refl _ _).alloc (Nat.le_refl _) _
  have esz : (w.alloc (.cells #[.int .i64 0, .int .i64 I, .int .i64 F, .int .i64 W] 54)).heap.size = w.heap.size + 1 := by simp
  have hwas := was_any (h.net.below hb0) hn5
  rw [esz] at hwas
  have d0 := h.book.c0
  have hbbw := h.book.lt
  have hp2 := fun w1 (hb : Below w.heap.size w w1) => (hp w1 hb).mono (R' := fun e w2 => ∃ A c Ac' Ar' cc' cr', e = .returned (.tuple #[.slice A 0 c, .int .i64 z]) ∧ NetAt w2 B nb n Ac' Ar' Au Ah cc' cr' cu ch s ∧ Frame (SP nb n gu gh) w1 w2) (fun e w2 ⟨A, c, Ac', Ar', cc', cr', he, _, hn, hf⟩ => ⟨A, c, Ac', Ar', cc', cr', he, hn, hf⟩)
  have htold := fun (w3 : World) (h3 : ∃ Ac Ar cc cr, Kept w3 B nb n Ac Ar Au Ah cc cr cu ch bb Al Bu cl bu s) (A5 : Option Addr) (c5 : Nat) (r1 : RowAt w3 (w.heap.size + 1) 2 (i64s s.rs)) (r2 : RowAt w3 (w.heap.size + 1 + 1) 4 (bools (onL s.l s.hs 0))) =>
    (show Calls Try.prog 46 #[.pointer (some ⟨bb, 0, none⟩), .pointer (some ⟨nb, 0, none⟩), .slice (some ⟨w.heap.size + 1, 0, none⟩) n n, .slice (some ⟨w.heap.size + 1 + 1, 0, none⟩) n n, .slice none 0 0, .slice A5 0 c5] w3 (fun e w' => e = .returned (.bool true) ∧ Below w3.heap.size w3 w') from by
      obtain ⟨_, _, _, _, h3⟩ := h3
      exact told_any h3 s.rs (onL s.l s.hs 0) h.net.lenr (by rw [onL_len]; exact h.net.len) _ _ none A5 n n 0 c5 0 0 (by rw [chg_none]; rfl) (by rw [turns_same]; rfl) (by omega) w3.heap.size (Nat.le_refl _) (r1.seg r1.lt) (r2.seg r2.lt) (by rw [chg_none]; exact Seg.nil) (by rw [turns_same]; exact Seg.nil) (fun j _ hne => absurd rfl hne))
  have HT := Lib.hid htold
  have HW := Lib.hid hwas
  have HH := Lib.hid h
  have HP := Lib.hid hp2
  have HA := Lib.hid ap
  have HB0 := Lib.hid hb0
  have d0' := (hb0.cell (p := ⟨bb, 0, none⟩) hbbw).trans d0
  have hx := heap_alloc_new w (.cells #[.int .i64 0, .int .i64 I, .int .i64 F, .int .i64 W] 54)
  have q0 := cell_of_row _ w.heap.size 0 _ _ (0, 0) hx
  have q1 := cell_of_row _ w.heap.size 1 _ _ (0, 0) hx
  simp only [List.getElem?_toArray, List.getElem?_cons_succ, List.getElem?_cons_zero] at q0 q1
  have hBw : B ≤ w.heap.size := Nat.le_of_lt (Nat.lt_of_le_of_lt h.net.low h.net.lt)
  have ez : (z == 0) = false := by simpa using hz
  have ez2 : (z != 0) = true := by simpa using hz
  clear htold hwas h hp hp2 ap hb0 d0 hx hz
  rcases (show decide (0 ≤ I) = false ∨ (decide (0 ≤ I) = true ∧ I < (n : Int)) ∨ (decide (0 ≤ I) = true ∧ decide (I < (n : Int)) = false) by simp only [decide_eq_false_iff_not, decide_eq_true_eq]; omega) with hI | ⟨hI, hI2⟩ | ⟨hI, hI2⟩
  all_goals
    go_enter Try.func21, Try.ntmps21
    go_wp2_with (first
      | (go_at_call 45
         refine HW.out.mono ?_
         rintro e w1 ⟨rfl, r1, r2, hb1⟩
         have z0 := (hb1.cell (p := ⟨w.heap.size, 0, none⟩) (by show w.heap.size < w.heap.size + 1; omega)).trans q0
         have z1 := (hb1.cell (p := ⟨w.heap.size, 1, none⟩) (by show w.heap.size < w.heap.size + 1; omega)).trans q1
         have k0 := (hb1.cell (p := ⟨bb, 0, none⟩) (by show bb < w.heap.size + 1; omega)).trans d0'
         have R1 := Lib.hid r1
         have R2 := Lib.hid r2
         have HB1 := Lib.hid hb1
         clear r1 r2 hb1))
    go_quiet (fail)
    go_wp2_with (first
      | (go_at_call 12
         refine (HP.out _ (below_drewN ((HB0.out.trans (HB1.out.mono (by omega)))) _)).mono ?_
         rintro e w2 ⟨A, c, Ac', Ar', cc', cr', rfl, hn2, hf⟩
         have hbe := behind HH.out HA.out (below_drewN ((HB0.out.trans (HB1.out.mono (by omega)))) _) hf
         have hkp := Kept.of hn2 hbe.book HH.out.sound
         have htl := HT.out w2 ⟨_, _, _, _, hkp⟩ A c (hbe.row _ _ _ (by omega) R1.out) (hbe.row _ _ _ (by omega) R2.out)
         have hs2 := hbe.low.size
         have HTL := Lib.hid htl
         have HKP := Lib.hid hkp
         have HLO := Lib.hid hbe.low
         clear hn2 hf hbe hkp htl)
      | (go_at_call 46
         refine HTL.out.mono ?_
         rintro e w4 ⟨rfl, hb4⟩
         have HB4 := Lib.hid hb4
         clear hb4)
      | (go_at_call 20
         refine (holds_any (HKP.out.below HB4.out)).mono ?_
         rintro e w5 ⟨rfl, hb5⟩
         have HB5 := Lib.hid hb5
         clear hb5))
    go_ret
    have hs4 := HB4.out.size
    exact ⟨rfl, ⟨_, _, _, _, _, (HKP.out.below HB4.out).below HB5.out⟩, (HLO.out.trans (HB4.out.mono (Nat.le_trans hBw hs2))).trans (HB5.out.mono (Nat.le_trans (Nat.le_trans hBw hs2) hs4))⟩
set_option maxRecDepth 100000 in
set_option maxHeartbeats 4000000 in
theorem hold1_no (h : Kept w B nb n Ac Ar Au Ah cc cr cu ch bb Al Bu cl bu s) (ap : Apart n gu gh gb Au Ah Bu) (I F W z : Int) (hz : z ≠ 0)
    (hp : ∀ w1, Below w.heap.size w w1 → Calls Try.prog 14 #[.pointer (some ⟨nb, 0, none⟩), .int .i64 I] w1 (Turns1 w1 B nb n gu gh Au Ah cu ch [] z s)) :
    Calls Try.prog 21 #[.pointer (some ⟨bb, 0, none⟩), .pointer (some ⟨nb, 0, none⟩), .agg #[.int .i64 1, .int .i64 I, .int .i64 F, .int .i64 W]] w (HeldTo B nb n Au Ah cu ch bb Al Bu cl bu w) := by
  have hn5 := h.n5
  have hb0 : Below w.heap.size w (w.alloc (.cells #[.int .i64 1, .int .i64 I, .int .i64 F, .int .i64 W] 54)) := (Below.refl _ _).alloc (Nat.le_refl _) _
  have esz : (w.alloc (.cells #[.int .i64 1, .int .i64 I, .int .i64 F, .int .i64 W] 54)).heap.size = w.heap.size + 1 := by simp
  have hwas := was_any (h.net.below hb0) hn5
  rw [esz] at hwas
  have d0 := h.book.c0
  have hbbw := h.book.lt
  have hp2 := fun w1 (hb : Below w.heap.size w w1) => (hp w1 hb).mono (R' := fun e w2 => ∃ A c Ac' Ar' cc' cr', e = .returned (.tuple #[.slice A 0 c, .int .i64 z]) ∧ NetAt w2 B nb n Ac' Ar' Au Ah cc' cr' cu ch s ∧ Frame (SP nb n gu gh) w1 w2) (fun e w2 ⟨A, c, Ac', Ar', cc', cr', he, _, hn, hf⟩ => ⟨A, c, Ac', Ar', cc', cr', he, hn, hf⟩)
  have htold := fun (w3 : World) (h3 : ∃ Ac Ar cc cr, Kept w3 B nb n Ac Ar Au Ah cc cr cu ch bb Al Bu cl bu s) (A5 : Option Addr) (c5 : Nat) (r1 : RowAt w3 (w.heap.size + 1) 2 (i64s s.rs)) (r2 : RowAt w3 (w.heap.size + 1 + 1) 4 (bools (onL s.l s.hs 0))) =>
    (show Calls Try.prog 46 #[.pointer (some ⟨bb, 0, none⟩), .pointer (some ⟨nb, 0, none⟩), .slice (some ⟨w.heap.size + 1, 0, none⟩) n n, .slice (some ⟨w.heap.size + 1 + 1, 0, none⟩) n n, .slice none 0 0, .slice A5 0 c5] w3 (fun e w' => e = .returned (.bool true) ∧ Below w3.heap.size w3 w') from by
      obtain ⟨_, _, _, _, h3⟩ := h3
      exact told_any h3 s.rs (onL s.l s.hs 0) h.net.lenr (by rw [onL_len]; exact h.net.len) _ _ none A5 n n 0 c5 0 0 (by rw [chg_none]; rfl) (by rw [turns_same]; rfl) (by omega) w3.heap.size (Nat.le_refl _) (r1.seg r1.lt) (r2.seg r2.lt) (by rw [chg_none]; exact Seg.nil) (by rw [turns_same]; exact Seg.nil) (fun j _ hne => absurd rfl hne))
  have HT := Lib.hid htold
  have HW := Lib.hid hwas
  have HH := Lib.hid h
  have HP := Lib.hid hp2
  have HA := Lib.hid ap
  have HB0 := Lib.hid hb0
  have d0' := (hb0.cell (p := ⟨bb, 0, none⟩) hbbw).trans d0
  have hx := heap_alloc_new w (.cells #[.int .i64 1, .int .i64 I, .int .i64 F, .int .i64 W] 54)
  have q0 := cell_of_row _ w.heap.size 0 _ _ (0, 0) hx
  have q1 := cell_of_row _ w.heap.size 1 _ _ (0, 0) hx
  simp only [List.getElem?_toArray, List.getElem?_cons_succ, List.getElem?_cons_zero] at q0 q1
  have hBw : B ≤ w.heap.size := Nat.le_of_lt (Nat.lt_of_le_of_lt h.net.low h.net.lt)
  have ez : (z == 0) = false := by simpa using hz
  have ez2 : (z != 0) = true := by simpa using hz
  clear htold hwas h hp hp2 ap hb0 d0 hx hz
  rcases (show decide (0 ≤ I) = false ∨ (decide (0 ≤ I) = true ∧ I < (n : Int)) ∨ (decide (0 ≤ I) = true ∧ decide (I < (n : Int)) = false) by simp only [decide_eq_false_iff_not, decide_eq_true_eq]; omega) with hI | ⟨hI, hI2⟩ | ⟨hI, hI2⟩
  all_goals
    go_enter Try.func21, Try.ntmps21
    go_wp2_with (first
      | (go_at_call 45
         refine HW.out.mono ?_
         rintro e w1 ⟨rfl, r1, r2, hb1⟩
         have z0 := (hb1.cell (p := ⟨w.heap.size, 0, none⟩) (by show w.heap.size < w.heap.size + 1; omega)).trans q0
         have z1 := (hb1.cell (p := ⟨w.heap.size, 1, none⟩) (by show w.heap.size < w.heap.size + 1; omega)).trans q1
         have k0 := (hb1.cell (p := ⟨bb, 0, none⟩) (by show bb < w.heap.size + 1; omega)).trans d0'
         have R1 := Lib.hid r1
         have R2 := Lib.hid r2
         have HB1 := Lib.hid hb1
         clear r1 r2 hb1))
    go_quiet (fail)
    go_wp2_with (first
      | (go_at_call 14
         refine (HP.out _ (below_drewN ((HB0.out.trans (HB1.out.mono (by omega)))) _)).mono ?_
         rintro e w2 ⟨A, c, Ac', Ar', cc', cr', rfl, hn2, hf⟩
         have hbe := behind HH.out HA.out (below_drewN ((HB0.out.trans (HB1.out.mono (by omega)))) _) hf
         have hkp := Kept.of hn2 hbe.book HH.out.sound
         have htl := HT.out w2 ⟨_, _, _, _, hkp⟩ A c (hbe.row _ _ _ (by omega) R1.out) (hbe.row _ _ _ (by omega) R2.out)
         have hs2 := hbe.low.size
         have HTL := Lib.hid htl
         have HKP := Lib.hid hkp
         have HLO := Lib.hid hbe.low
         clear hn2 hf hbe hkp htl)
      | (go_at_call 46
         refine HTL.out.mono ?_
         rintro e w4 ⟨rfl, hb4⟩
         have HB4 := Lib.hid hb4
         clear hb4)
      | (go_at_call 20
         refine (holds_any (HKP.out.below HB4.out)).mono ?_
         rintro e w5 ⟨rfl, hb5⟩
         have HB5 := Lib.hid hb5
         clear hb5))
    go_ret
    have hs4 := HB4.out.size
    exact ⟨rfl, ⟨_, _, _, _, _, (HKP.out.below HB4.out).below HB5.out⟩, (HLO.out.trans (HB4.out.mono (Nat.le_trans hBw hs2))).trans (HB5.out.mono (Nat.le_trans (Nat.le_trans hBw hs2) hs4))⟩
set_option maxRecDepth 100000 in
set_option maxHeartbeats 4000000 in
theorem hold3_no (h : Kept w B nb n Ac Ar Au Ah cc cr cu ch bb Al Bu cl bu s) (ap : Apart n gu gh gb Au Ah Bu) (I F W z : Int) (hz : z ≠ 0)
    (hp : ∀ w1, Below w.heap.size w w1 → Calls Try.prog 39 #[.pointer (some ⟨nb, 0, none⟩), .int .i64 I, .int .i64 F] w1 (Both2 w1 B nb n gu gh Au Ah cu ch [] [] z s)) :
    Calls Try.prog 21 #[.pointer (some ⟨bb, 0, none⟩), .pointer (some ⟨nb, 0, none⟩), .agg #[.int .i64 3, .int .i64 I, .int .i64 F, .int .i64 W]] w (HeldTo B nb n Au Ah cu ch bb Al Bu cl bu w) := by
  have hn5 := h.n5
  have hb0 : Below w.heap.size w (w.alloc (.cells #[.int .i64 3, .int .i64 I, .int .i64 F, .int .i64 W] 54)) := (Below.refl _ _).alloc (Nat.le_refl _) _
  have esz : (w.alloc (.cells #[.int .i64 3, .int .i64 I, .int .i64 F, .int .i64 W] 54)).heap.size = w.heap.size + 1 := by simp
  have hwas := was_any (h.net.below hb0) hn5
  rw [esz] at hwas
  have d0 := h.book.c0
  have hbbw := h.book.lt
  have hp2 := fun w1 (hb : Below w.heap.size w w1) => (hp w1 hb).mono (R' := fun e w2 => ∃ A c A2 c2 Ac' Ar' cc' cr', e = .returned (.tuple #[.slice A 0 c, .slice A2 0 c2, .int .i64 z]) ∧ NetAt w2 B nb n Ac' Ar' Au Ah cc' cr' cu ch s ∧ Frame (SP nb n gu gh) w1 w2) (fun e w2 ⟨A, c, A2, c2, Ac', Ar', cc', cr', he, _, _, hn, hf⟩ => ⟨A, c, A2, c2, Ac', Ar', cc', cr', he, hn, hf⟩)
  have htold := fun (w3 : World) (h3 : ∃ Ac Ar cc cr, Kept w3 B nb n Ac Ar Au Ah cc cr cu ch bb Al Bu cl bu s) (A4 A5 : Option Addr) (c4 c5 : Nat) (r1 : RowAt w3 (w.heap.size + 1) 2 (i64s s.rs)) (r2 : RowAt w3 (w.heap.size + 1 + 1) 4 (bools (onL s.l s.hs 0))) =>
    (show Calls Try.prog 46 #[.pointer (some ⟨bb, 0, none⟩), .pointer (some ⟨nb, 0, none⟩), .slice (some ⟨w.heap.size + 1, 0, none⟩) n n, .slice (some ⟨w.heap.size + 1 + 1, 0, none⟩) n n, .slice A4 0 c4, .slice A5 0 c5] w3 (fun e w' => e = .returned (.bool true) ∧ Below w3.heap.size w3 w') from by
      obtain ⟨_, _, _, _, h3⟩ := h3
      exact told_any h3 s.rs (onL s.l s.hs 0) h.net.lenr (by rw [onL_len]; exact h.net.len) _ _ A4 A5 n n c4 c5 0 0 (by rw [chg_none]; rfl) (by rw [turns_same]; rfl) (by omega) w3.heap.size (Nat.le_refl _) (r1.seg r1.lt) (r2.seg r2.lt) (by rw [chg_none]; exact Seg.nil) (by rw [turns_same]; exact Seg.nil) (fun j _ hne => absurd rfl hne))
  have HT := Lib.hid htold
  have HW := Lib.hid hwas
  have HH := Lib.hid h
  have HP := Lib.hid hp2
  have HA := Lib.hid ap
  have HB0 := Lib.hid hb0
  have d0' := (hb0.cell (p := ⟨bb, 0, none⟩) hbbw).trans d0
  have hx := heap_alloc_new w (.cells #[.int .i64 3, .int .i64 I, .int .i64 F, .int .i64 W] 54)
  have q0 := cell_of_row _ w.heap.size 0 _ _ (0, 0) hx
  have q1 := cell_of_row _ w.heap.size 1 _ _ (0, 0) hx
  have q2 := cell_of_row _ w.heap.size 2 _ _ (0, 0) hx
  simp only [List.getElem?_toArray, List.getElem?_cons_succ, List.getElem?_cons_zero] at q0 q1 q2
  have hBw : B ≤ w.heap.size := Nat.le_of_lt (Nat.lt_of_le_of_lt h.net.low h.net.lt)
  have ez : (z == 0) = false := by simpa using hz
  have ez2 : (z != 0) = true := by simpa using hz
  clear htold hwas h hp hp2 ap hb0 d0 hx hz
  rcases (show decide (0 ≤ I) = false ∨ (decide (0 ≤ I) = true ∧ I < (n : Int)) ∨ (decide (0 ≤ I) = true ∧ decide (I < (n : Int)) = false) by simp only [decide_eq_false_iff_not, decide_eq_true_eq]; omega) with hI | ⟨hI, hI2⟩ | ⟨hI, hI2⟩
  all_goals
    go_enter Try.func21, Try.ntmps21
    go_wp2_with (first
      | (go_at_call 45
         refine HW.out.mono ?_
         rintro e w1 ⟨rfl, r1, r2, hb1⟩
         have z0 := (hb1.cell (p := ⟨w.heap.size, 0, none⟩) (by show w.heap.size < w.heap.size + 1; omega)).trans q0
         have z1 := (hb1.cell (p := ⟨w.heap.size, 1, none⟩) (by show w.heap.size < w.heap.size + 1; omega)).trans q1
         have z2 := (hb1.cell (p := ⟨w.heap.size, 2, none⟩) (by show w.heap.size < w.heap.size + 1; omega)).trans q2
         have k0 := (hb1.cell (p := ⟨bb, 0, none⟩) (by show bb < w.heap.size + 1; omega)).trans d0'
         have R1 := Lib.hid r1
         have R2 := Lib.hid r2
         have HB1 := Lib.hid hb1
         clear r1 r2 hb1))
    go_quiet (fail)
    go_wp2_with (first
      | (go_at_call 39
         refine (HP.out _ (below_drewN ((HB0.out.trans (HB1.out.mono (by omega)))) _)).mono ?_
         rintro e w2 ⟨A, c, A2, c2, Ac', Ar', cc', cr', rfl, hn2, hf⟩
         have hbe := behind HH.out HA.out (below_drewN ((HB0.out.trans (HB1.out.mono (by omega)))) _) hf
         have hkp := Kept.of hn2 hbe.book HH.out.sound
         have htl := HT.out w2 ⟨_, _, _, _, hkp⟩ A A2 c c2 (hbe.row _ _ _ (by omega) R1.out) (hbe.row _ _ _ (by omega) R2.out)
         have hs2 := hbe.low.size
         have HTL := Lib.hid htl
         have HKP := Lib.hid hkp
         have HLO := Lib.hid hbe.low
         clear hn2 hf hbe hkp htl)
      | (go_at_call 46
         refine HTL.out.mono ?_
         rintro e w4 ⟨rfl, hb4⟩
         have HB4 := Lib.hid hb4
         clear hb4)
      | (go_at_call 20
         refine (holds_any (HKP.out.below HB4.out)).mono ?_
         rintro e w5 ⟨rfl, hb5⟩
         have HB5 := Lib.hid hb5
         clear hb5))
    go_ret
    have hs4 := HB4.out.size
    exact ⟨rfl, ⟨_, _, _, _, _, (HKP.out.below HB4.out).below HB5.out⟩, (HLO.out.trans (HB4.out.mono (Nat.le_trans hBw hs2))).trans (HB5.out.mono (Nat.le_trans (Nat.le_trans hBw hs2) hs4))⟩
set_option maxRecDepth 100000 in
set_option maxHeartbeats 4000000 in
theorem hold4_any (h : Kept w B nb n Ac Ar Au Ah cc cr cu ch bb Al Bu cl bu s) (ap : Apart n gu gh gb Au Ah Bu) (K I F W : Int) (e0 : (K == 0) = false) (e1 : (K == 1) = false) (e2 : (K == 2) = false) (e3 : (K == 3) = false) :
    Calls Try.prog 21 #[.pointer (some ⟨bb, 0, none⟩), .pointer (some ⟨nb, 0, none⟩), .agg #[.int .i64 K, .int .i64 I, .int .i64 F, .int .i64 W]] w (HeldTo B nb n Au Ah cu ch bb Al Bu cl bu w) := by
  have hn5 := h.n5
  have hb0 : Below w.heap.size w (w.alloc (.cells #[.int .i64 K, .int .i64 I, .int .i64 F, .int .i64 W] 54)) := (Below.refl _ _).alloc (Nat.le_refl _) _
  have esz : (w.alloc (.cells #[.int .i64 K, .int .i64 I, .int .i64 F, .int .i64 W] 54)).heap.size = w.heap.size + 1 := by simp
  have hwas := was_any (h.net.below hb0) hn5
  rw [esz] at hwas
  have d0 := h.book.c0
  have hbbw := h.book.lt
  have htold := fun (w3 : World) (h3 : ∃ Ac Ar cc cr, Kept w3 B nb n Ac Ar Au Ah cc cr cu ch bb Al Bu cl bu s) (A5 : Option Addr) (c5 : Nat) (r1 : RowAt w3 (w.heap.size + 1) 2 (i64s s.rs)) (r2 : RowAt w3 (w.heap.size + 1 + 1) 4 (bools (onL s.l s.hs 0))) =>
    (show Calls Try.prog 46 #[.pointer (some ⟨bb, 0, none⟩), .pointer (some ⟨nb, 0, none⟩), .slice (some ⟨w.heap.size + 1, 0, none⟩) n n, .slice (some ⟨w.heap.size + 1 + 1, 0, none⟩) n n, .slice none 0 0, .slice A5 0 c5] w3 (fun e w' => e = .returned (.bool true) ∧ Below w3.heap.size w3 w') from by
      obtain ⟨_, _, _, _, h3⟩ := h3
      exact told_any h3 s.rs (onL s.l s.hs 0) h.net.lenr (by rw [onL_len]; exact h.net.len) _ _ none A5 n n 0 c5 0 0 (by rw [chg_none]; rfl) (by rw [turns_same]; rfl) (by omega) w3.heap.size (Nat.le_refl _) (r1.seg r1.lt) (r2.seg r2.lt) (by rw [chg_none]; exact Seg.nil) (by rw [turns_same]; exact Seg.nil) (fun j _ hne => absurd rfl hne))
  have HT := Lib.hid htold
  have HW := Lib.hid hwas
  have HH := Lib.hid h
  have HA := Lib.hid ap
  have HB0 := Lib.hid hb0
  have d0' := (hb0.cell (p := ⟨bb, 0, none⟩) hbbw).trans d0
  have hx := heap_alloc_new w (.cells #[.int .i64 K, .int .i64 I, .int .i64 F, .int .i64 W] 54)
  have q0 := cell_of_row _ w.heap.size 0 _ _ (0, 0) hx
  have q1 := cell_of_row _ w.heap.size 1 _ _ (0, 0) hx
  simp only [List.getElem?_toArray, List.getElem?_cons_succ, List.getElem?_cons_zero] at q0 q1
  have hBw : B ≤ w.heap.size := Nat.le_of_lt (Nat.lt_of_le_of_lt h.net.low h.net.lt)
  clear htold hwas h ap hb0 d0 hx
  rcases (show decide (0 ≤ I) = false ∨ (decide (0 ≤ I) = true ∧ I < (n : Int)) ∨ (decide (0 ≤ I) = true ∧ decide (I < (n : Int)) = false) by simp only [decide_eq_false_iff_not, decide_eq_true_eq]; omega) with hI | ⟨hI, hI2⟩ | ⟨hI, hI2⟩
  all_goals
    go_enter Try.func21, Try.ntmps21
    go_wp2_with (first
      | (go_at_call 45
         refine HW.out.mono ?_
         rintro e w1 ⟨rfl, r1, r2, hb1⟩
         have z0 := (hb1.cell (p := ⟨w.heap.size, 0, none⟩) (by show w.heap.size < w.heap.size + 1; omega)).trans q0
         have z1 := (hb1.cell (p := ⟨w.heap.size, 1, none⟩) (by show w.heap.size < w.heap.size + 1; omega)).trans q1
         have k0 := (hb1.cell (p := ⟨bb, 0, none⟩) (by show bb < w.heap.size + 1; omega)).trans d0'
         have R1 := Lib.hid r1
         have R2 := Lib.hid r2
         have HB1 := Lib.hid hb1
         clear r1 r2 hb1))
    go_quiet (fail)
    have hbd : Below w.heap.size w (w1.drewN nq) := below_drewN (HB0.out.trans (HB1.out.mono (by omega))) _
    have hkp := HH.out.below hbd
    have htl := HT.out (w1.drewN nq) ⟨_, _, _, _, hkp⟩ none 0 R1.out R2.out
    have hs2 := hbd.size
    have HTL := Lib.hid htl
    have HKP := Lib.hid hkp
    have HLO := Lib.hid (hbd.mono hBw)
    clear hbd hkp htl
    go_wp2_with (first
      | (go_at_call 46
         refine HTL.out.mono ?_
         rintro e w4 ⟨rfl, hb4⟩
         have HB4 := Lib.hid hb4
         clear hb4)
      | (go_at_call 20
         refine (holds_any (HKP.out.below HB4.out)).mono ?_
         rintro e w5 ⟨rfl, hb5⟩
         have HB5 := Lib.hid hb5
         clear hb5))
    go_ret
    have hs4 := HB4.out.size
    exact ⟨rfl, ⟨_, _, _, _, _, (HKP.out.below HB4.out).below HB5.out⟩, (HLO.out.trans (HB4.out.mono (Nat.le_trans hBw hs2))).trans (HB5.out.mono (Nat.le_trans (Nat.le_trans hBw hs2) hs4))⟩
set_option maxRecDepth 100000 in
set_option maxHeartbeats 4000000 in
theorem hold3_ok (h : Kept w B nb n Ac Ar Au Ah cc cr cu ch bb Al Bu cl bu s) (ap : Apart n gu gh gb Au Ah Bu) (W : Int) (k f : Nat) (hk : k < n) (hkl : k < s.l.length) (t : List (Nat × Int × Int)) (t2 : List (Int × Bool)) (s' : St) (hl : t2.length ≤ 1026) (hs' : Sound s')
    (hp : ∀ w1, Below w.heap.size w w1 → Calls Try.prog 39 #[.pointer (some ⟨nb, 0, none⟩), .int .i64 k, .int .i64 f] w1 (Both2 w1 B nb n gu gh Au Ah cu ch t t2 0 s'))
    (e1 : s'.l = s.l.set k { s.l[k] with frm := (f : Int) }) (e3 : s'.us = s.us) (e4 : t = chg s.rs s'.rs n) (e5 : t2 = refTurns (onL s.l s.hs 0) (onL s'.l s'.hs 0) n) (e6 : Calm n s s') :
    Calls Try.prog 21 #[.pointer (some ⟨bb, 0, none⟩), .pointer (some ⟨nb, 0, none⟩), .agg #[.int .i64 3, .int .i64 k, .int .i64 f, .int .i64 W]] w (HeldTo B nb n Au Ah cu ch bb Al Bu cl bu w) := by
  have hn5 := h.n5
  have h0 : 0 < n := by omega
  obtain ⟨gl, rfl, hge, hrl0⟩ := h.book.row_l h0
  have hgbw := hrl0.lt
  have hb0 : Below w.heap.size w (w.alloc (.cells #[.int .i64 3, .int .i64 k, .int .i64 f, .int .i64 W] 54)) := (Below.refl _ _).alloc (Nat.le_refl _) _
  have esz : (w.alloc (.cells #[.int .i64 3, .int .i64 k, .int .i64 f, .int .i64 W] 54)).heap.size = w.heap.size + 1 := by simp
  have hwas := was_any (h.net.below hb0) hn5
  rw [esz] at hwas
  have d0 := h.book.c0
  have hbbw := h.book.lt
  have hcu : ∀ w2, BookAt w2 B bb n (some ⟨gl, 0, none⟩) Bu cl bu s.l s.us → (∃ v, w2.cell? ⟨gl, k * 7, none⟩ = some v) ∧ w2.frozen? ⟨gl, k * 7, none⟩ = false := fun w2 hb => by
    obtain ⟨g, e, _, hrow⟩ := hb.row_l h0
    injection e with e
    injection e with e
    subst e
    have := hrow.cell (k := k * 7) (by rw [clkCells, flat_length _ 7 clk_len]; omega)
    rw [List.getElem?_eq_getElem (by rw [clkCells, flat_length _ 7 clk_len]; omega)] at this
    exact ⟨⟨_, this⟩, hrow.frozen (k * 7)⟩
  have htold := fun (w3 : World) (h3 : ∃ Ac Ar cc cr, Kept w3 B nb n Ac Ar Au Ah cc cr cu ch bb (some ⟨gl, 0, none⟩) Bu cl bu s') (A4 A5 : Option Addr) (c4 c5 : Nat) (r1 : RowAt w3 (w.heap.size + 1) 2 (i64s s.rs)) (r2 : RowAt w3 (w.heap.size + 1 + 1) 4 (bools (onL s.l s.hs 0))) (s4 : Seg w3 w3.heap.size A4 (chgCells t)) (s5 : Seg w3 w3.heap.size A5 (turnCells t2)) =>
    (show Calls Try.prog 46 #[.pointer (some ⟨bb, 0, none⟩), .pointer (some ⟨nb, 0, none⟩), .slice (some ⟨w.heap.size + 1, 0, none⟩) n n, .slice (some ⟨w.heap.size + 1 + 1, 0, none⟩) n n, .slice A4 t.length c4, .slice A5 t2.length c5] w3 (fun e w' => e = .returned (.bool true) ∧ Below w3.heap.size w3 w') from by
      obtain ⟨_, _, _, _, h3⟩ := h3
      exact told_any h3 s.rs (onL s.l s.hs 0) h.net.lenr (by rw [onL_len]; exact h.net.len) _ _ A4 A5 n n c4 c5 t.length t2.length (by rw [← e4]) (by rw [← e5]) hl w3.heap.size (Nat.le_refl _) (r1.seg r1.lt) (r2.seg r2.lt) (by rw [← e4]; exact s4) (by rw [← e5]; exact s5) e6)
  have HT := Lib.hid htold
  have HW := Lib.hid hwas
  have HH := Lib.hid h
  have HP := Lib.hid hp
  have HA := Lib.hid ap
  have HB0 := Lib.hid hb0
  have HCU := Lib.hid hcu
  have HS' := Lib.hid hs'
  have E1 := Lib.hid e1
  have E3 := Lib.hid e3
  have d0' := (hb0.cell (p := ⟨bb, 0, none⟩) hbbw).trans d0
  have hk1 : (k : Int) < (n : Int) := by omega
  have hx := heap_alloc_new w (.cells #[.int .i64 3, .int .i64 k, .int .i64 f, .int .i64 W] 54)
  have q0 := cell_of_row _ w.heap.size 0 _ _ (0, 0) hx
  have q1 := cell_of_row _ w.heap.size 1 _ _ (0, 0) hx
  have q2 := cell_of_row _ w.heap.size 2 _ _ (0, 0) hx
  simp only [List.getElem?_toArray, List.getElem?_cons_succ, List.getElem?_cons_zero] at q0 q1 q2
  clear htold hwas h hp ap hb0 hcu hs' e1 e3 e4 e5 e6 d0 hx hrl0
  go_enter Try.func21, Try.ntmps21
  go_wp2_with (first
    | (go_at_call 45
       refine HW.out.mono ?_
       rintro e w1 ⟨rfl, r1, r2, hb1⟩
       have z0 := (hb1.cell (p := ⟨w.heap.size, 0, none⟩) (by show w.heap.size < w.heap.size + 1; omega)).trans q0
       have z1 := (hb1.cell (p := ⟨w.heap.size, 1, none⟩) (by show w.heap.size < w.heap.size + 1; omega)).trans q1
       have z2 := (hb1.cell (p := ⟨w.heap.size, 2, none⟩) (by show w.heap.size < w.heap.size + 1; omega)).trans q2
       have k0 := (hb1.cell (p := ⟨bb, 0, none⟩) (by show bb < w.heap.size + 1; omega)).trans d0'
       have R1 := Lib.hid r1
       have R2 := Lib.hid r2
       have HB1 := Lib.hid hb1
       clear r1 r2 hb1))
  go_quiet (fail)
  go_wp2_with (first
    | (go_at_call 39
       refine (HP.out _ (below_drewN ((HB0.out.trans (HB1.out.mono (by omega)))) _)).mono ?_
       rintro e w2 ⟨A, c, A2, c2, Ac', Ar', cc', cr', rfl, ho, ho2, hn2, hf⟩
       have hbe := behind HH.out HA.out (below_drewN ((HB0.out.trans (HB1.out.mono (by omega)))) _) hf
       have k1 := hbe.book.c1
       have k2 := hbe.book.c0
       obtain ⟨⟨v1, c1⟩, c3⟩ := HCU.out _ hbe.book
       have hsz := HB1.out.size
       have z5 := (hbe.cell ⟨w.heap.size, 1, none⟩ (Nat.le_refl _) (by show w.heap.size < w1.heap.size; omega)).trans z1
       have z6 := (hbe.cell ⟨w.heap.size, 2, none⟩ (Nat.le_refl _) (by show w.heap.size < w1.heap.size; omega)).trans z2
       have HBE := Lib.hid hbe
       have HO := Lib.hid ho
       have HO2 := Lib.hid ho2
       have HN2 := Lib.hid hn2
       clear ho ho2 hn2 hf hbe))
  go_region
  have hgbw2 : gl < w2.heap.size := by have := HBE.out.size; have := HB1.out.size; simp at *; omega
  have hkp := storedL HN2.out HBE.out.book h0 HS'.out k hkl (k * 7) (.int .i64 f) _ (clk_set_cell (j := 0) hkl (by omega) rfl) E1.out E3.out
  have hf3 : Frame (fun j => j = gl) w2 (w2.setCell ⟨gl, k * 7, none⟩ (.int .i64 f)) := (Frame.refl (fun j => j = gl) _).setCell (p := ⟨gl, k * 7, none⟩) (fun _ => rfl) _
  have ho3 := own_frame HO.out hf3 (fun g hg hx => by have := (HO.out.lt g hg).1; have := HB1.out.size; simp at *; omega)
  have ho4 := own_frame HO2.out hf3 (fun g hg hx => by have := (HO2.out.lt g hg).1; have := HB1.out.size; simp at *; omega)
  have hr1 := (HBE.out.row _ _ _ (by omega) R1.out).frame hf3 (by omega)
  have hr2 := (HBE.out.row _ _ _ (by omega) R2.out).frame hf3 (by omega)
  have hlo := HBE.out.low.setCell (p := ⟨gl, k * 7, none⟩) hge (.int .i64 f)
  have hBs : B ≤ (w2.setCell ⟨gl, k * 7, none⟩ (.int .i64 f)).heap.size := by simp; omega
  generalize w2.setCell ⟨gl, k * 7, none⟩ (.int .i64 f) = w3 at *
  have hd : Below w3.heap.size w3 w3.drew := below_drewN (Below.refl _ _) 1
  have htl := HT.out w3.drew ⟨_, _, _, _, hkp.below hd⟩ A A2 c c2 (hr1.below hd) (hr2.below hd) ((own_seg ho3).below hd) ((own_seg ho4).below hd)
  have HTL := Lib.hid htl
  have HKP := Lib.hid (hkp.below hd)
  have HLO := Lib.hid (hlo.trans (hd.mono hBs))
  clear htl hkp hf3 ho3 ho4 hr1 hr2 hlo hd
  go_wp2_with (first
    | (go_at_call 46
       refine HTL.out.mono ?_
       rintro e w4 ⟨rfl, hb4⟩
       have HB4 := Lib.hid hb4
       clear hb4)
    | (go_at_call 20
       refine (holds_any (HKP.out.below HB4.out)).mono ?_
       rintro e w5 ⟨rfl, hb5⟩
       have HB5 := Lib.hid hb5
       clear hb5))
  go_ret
  have hs4 := HB4.out.size
  exact ⟨rfl, ⟨_, _, _, _, _, (HKP.out.below HB4.out).below HB5.out⟩, (HLO.out.trans (HB4.out.mono hBs)).trans (HB5.out.mono (Nat.le_trans hBs hs4))⟩
end
end Go.Proofs.Ytbahclnpgdejlaa
