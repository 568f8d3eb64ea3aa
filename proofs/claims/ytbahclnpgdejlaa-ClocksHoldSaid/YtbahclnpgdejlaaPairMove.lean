/- Move and Round at both nets: the same answers. -/
import Derived.Test.YtbahclnpgdejlaaPairSet
set_option linter.unusedVariables false
namespace Go.Proofs.Ytbahclnpgdejlaa
open Go.RowKit
theorem good_move {l : List Clk} (h : Good l) {k : Nat} (hk : k < l.length) (f : Nat) (hf : f < k) (hF : 0 ≤ frmAt l k) : Good (l.set k { l[k] with frm := (f : Int) }) := by
  intro j hj
  have hj2 : j < l.length := by simpa using hj
  rw [okAt_get _ j hj]
  have o := h j hj2
  rw [okAt_get _ j hj2] at o
  by_cases e : k = j
  · subst e
    simp only [List.getElem_set_self]
    have hF2 : 0 ≤ l[k].frm := by simpa [frmAt, hk] using hF
    unfold okB at o ⊢
    simp only [Bool.and_eq_true, Bool.or_eq_true, beq_iff_eq, decide_eq_true_eq] at o ⊢
    obtain ⟨⟨⟨⟨⟨h1, h2⟩, h3⟩, h4⟩, h5⟩, h6⟩ := o
    refine ⟨⟨⟨⟨⟨.inr ⟨⟨by omega, by omega⟩, ?_⟩, h2⟩, h3⟩, h4⟩, h5⟩, h6⟩
    rcases h1 with ⟨⟨h1, _⟩, _⟩ | ⟨_, h1⟩
    · omega
    · exact h1
  · simp only [List.getElem_set_ne e]
    exact o
theorem turns_same (x : List Bool) (n : Nat) : refTurns x x n = [] := by
  unfold refTurns
  rw [upT_none n (fun j => by simp), downT_none n (fun j => by simp)]
  rfl
section
variable {w w' : World} {B nb n gu gh gr : Nat} {Ac Ar Au Ah : Option Addr} {cc cr cu ch rb : Nat} {Al Ru : Option Addr} {cl ru : Nat} {s : St} {l : List Clk} {us : List Int}
structure PairM (w : World) (B nb n gu gh gr : Nat) (Au Ah : Option Addr) (cu ch rb : Nat) (Ru : Option Addr) (ru : Nat) (l : List Clk) (us : List Int) (I F : Int) (t : List (Nat × Int × Int)) (t2 : List (Int × Bool)) (z : Int) (s' : St) : Prop where
  prog : Calls Try.prog 39 #[.pointer (some ⟨nb, 0, none⟩), .int .i64 I, .int .i64 F] w fun e w1 => ∃ A c A2 c2 Ac' Ar' cc' cr', e = .returned (.tuple #[.slice A t.length c, .slice A2 t2.length c2, .int .i64 z]) ∧ w1.ownsRow w.heap.size 78 3 (.slice A t.length c) t.length (chgCells t) ∧ w1.ownsRow w.heap.size 80 2 (.slice A2 t2.length c2) t2.length (turnCells t2) ∧ NetAt w1 B nb n Ac' Ar' Au Ah cc' cr' cu ch s' ∧ Frame (SP nb n gu gh) w w1
  ref : ∀ w1 Al cl, RNet w1 B rb n Al Ru cl ru l us → B ≤ w1.heap.size → Calls Try.prog 40 #[.pointer (some ⟨rb, 0, none⟩), .int .i64 I, .int .i64 F] w1 fun e w2 => ∃ A c A2 c2 Al' cl', e = .returned (.tuple #[.slice A t.length c, .slice A2 t2.length c2, .int .i64 z]) ∧ w2.ownsRow w1.heap.size 111 3 (.slice A t.length c) t.length (chgCells t) ∧ w2.ownsRow w1.heap.size 109 2 (.slice A2 t2.length c2) t2.length (turnCells t2) ∧ RNet w2 B rb n Al' Ru cl' ru s'.l s'.us ∧ Frame (SR rb n gr) w1 w2
  inv : Inv s'
  bal : Bal s'.l (fun j => s'.us.getD j 0) s'.hs
  pos : ∀ j, 0 ≤ s'.hs.getD j 0
  us0 : ∀ j, 0 ≤ s'.us.getD j 0
  us1 : ∀ j, s'.us.getD j 0 ≤ 65535
theorem pair_move (h : Both w B nb n Ac Ar Au Ah cc cr cu ch rb Al Ru cl ru s) (ap : Apart n gu gh gr Au Ah Ru) (hBw : B ≤ w.heap.size) (I F : Int) :
    ∃ (t : List (Nat × Int × Int)) (t2 : List (Int × Bool)) (z : Int) (s' : St), t.length ≤ 1026 ∧ t2.length ≤ 1026 ∧ PairM w B nb n gu gh gr Au Ah cu ch rb Ru ru s.l s.us I F t t2 z s' := by
  by_cases hI : I < 0 ∨ n ≤ I ∨ F < 0 ∨ I ≤ F ∨ frmAt s.l I < 0
  · refine ⟨[], [], 1, s, by simp, by simp, ⟨(pmove_no h.net I F hI).mono ?_, fun w1 Al cl hr _ => (rmove_no hr I F hI).mono ?_, h.inv, h.bal, h.pos, h.us0, h.us1⟩⟩
    · rintro e w' ⟨rfl, rfl⟩
      exact ⟨none, 0, none, 0, _, _, _, _, rfl, own_none _ _ _ _, own_none _ _ _ _, h.net, Frame.refl _ _⟩
    · rintro e w' ⟨rfl, rfl⟩
      exact ⟨none, 0, none, 0, _, _, rfl, own_none _ _ _ _, own_none _ _ _ _, hr, Frame.refl _ _⟩
  · obtain ⟨k, rfl⟩ := Int.eq_ofNat_of_zero_le (show 0 ≤ I by omega)
    obtain ⟨f, rfl⟩ := Int.eq_ofNat_of_zero_le (show 0 ≤ F by omega)
    have hkn : k < n := by omega
    have hfk : f < k := by omega
    have hF : 0 ≤ frmAt s.l k := by omega
    have h0 : 0 < n := by omega
    obtain rfl := ap.ah h0
    have hlen := h.net.len
    have hlenh := h.net.lenh
    have hkl : k < s.l.length := by omega
    obtain ⟨l', hl'⟩ : ∃ l', l' = s.l.set k { s.l[k] with frm := (f : Int) } := ⟨_, rfl⟩
    have hg' : Good l' := by rw [hl']; exact good_move h.inv.good hkl f hfk hF
    have hll : l'.length = s.l.length := by rw [hl', List.length_set]
    have hcl := chg_len s.rs (ratesOf l') n
    have hn5 := h.n5
    have hgh : gh < w.heap.size := by
      obtain ⟨g', e', _, hr⟩ := h.net.row_h h0
      injection e' with e'
      injection e' with e'
      rw [e']; exact hr.lt
    have hp := pmove_any h.net h.inv hBw hkl hF f hfk l' hl' hg'
    rcases fit_or l' n with hfit | hbad
    · have hinv' : Inv { s with l := l', rs := ratesOf l' } := ⟨may_set hll h.inv.may hg', fun j hj => hfit j (by simp only at hj; omega), rfl⟩
      rcases least_of (busyAt l' s.rs (ratesOf l') s.hs) n with hfree | ⟨j0, hj0, hz, hy⟩
      · have hok := pmove_ok h.net h.inv hBw hgh hkl hF f hfk l' hl' hg' hfit hfree
        by_cases hoff : s.hs.getD k 0 = 0
        · have hbal' : Bal l' (fun j => s.us.getD j 0) s.hs := by rw [hl']; exact moved_off h.bal hkl f hoff
          have hts : refTurns (onL s.l s.hs 0) (onL l' s.hs 0) n = [] := by rw [onL_same s.l l' s.hs hll.symm]; exact turns_same _ _
          refine ⟨chg s.rs (ratesOf l') n, [], 0, { s with l := l', rs := ratesOf l' }, by omega, by simp, ⟨(hok.1 hoff).mono ?_, fun w1 Al cl hr hB1 => ((rmove_any (hs' := s.hs) hr h.inv.good hn5 h.caps hB1 h.bal h.us0 k hkl hF f hfk hl' hg').2 hfit hbal').mono ?_, hinv', hbal', h.pos, h.us0, h.us1⟩⟩
          · rintro e w' ⟨A, c, A', c', g, rfl, ho, hn, hf⟩
            exact ⟨A, c, none, 0, _, _, _, _, rfl, ho, own_none _ _ _ _, hn, hf.mono (fun i _ hi => .inl hi)⟩
          · rw [hts]
            rintro e w' (⟨⟨j, hj, hx⟩, _⟩ | ⟨_, A, c, A2, c2, A', c', rfl, ho, ho2, hn, hf⟩)
            · have := hfree j hj
              rw [hx] at this
              cases this
            · exact ⟨A, c, A2, c2, _, _, rfl, ho, ho2, hn, hf.mono (fun i _ hi => .inl hi)⟩
        · have hon : 0 < s.hs.getD k 0 := by have := h.pos k; omega
          obtain ⟨hs1, e1⟩ : ∃ hs1, hs1 = (holdF l' 513 f s.hs).1 := ⟨_, rfl⟩
          obtain ⟨hs2, e2⟩ : ∃ hs2, hs2 = (dropF l' 513 (frmAt s.l k) hs1).1 := ⟨_, rfl⟩
          obtain ⟨m1, m2, m3, m4⟩ := move_law h.inv.good (by omega) (by omega) h.bal h.pos h.us0 h.us1 hkl hF f hfk hon l' hl' hg' hs1 hs2 e1 e2
          have hhs : ∀ j : Nat, j < n → s.hs.getD j 0 ≤ 100000 := fun j hj => by
            have := h.bal j (by omega)
            have := kids_nonneg s.l s.hs j s.l.length
            have := h.us1 j
            simp only at *
            omega
          have hl1 := holdF_turns l' 513 f s.hs
          have hl2 := dropF_turns l' 513 (frmAt s.l k) hs1
          have hmv := hok.2 hon hs1 hs2 e1 e2 (fun j hj => ⟨h.pos j, hhs j hj⟩) (fun j hj => m3 j (by omega))
          rw [← hlen] at m4
          refine ⟨chg s.rs (ratesOf l') n, (holdF l' 513 f s.hs).2 ++ (dropF l' 513 (frmAt s.l k) hs1).2, 0, { s with l := l', rs := ratesOf l', hs := hs2 }, by omega, by simp; omega, ⟨hmv.mono ?_, fun w1 Al cl hr hB1 => ((rmove_any (hs' := hs2) hr h.inv.good hn5 h.caps hB1 h.bal h.us0 k hkl hF f hfk hl' hg').2 hfit m1).mono ?_, ⟨hinv'.may, hinv'.fit, hinv'.rates⟩, m1, m2, h.us0, h.us1⟩⟩
          · rintro e w' ⟨A, c, A2, c2, A', c', g, rfl, ho, ho2, hn, hf⟩
            exact ⟨A, c, A2, c2, _, _, _, _, rfl, ho, ho2, hn, hf.mono (fun i _ hi => hi.elim .inl fun hi => .inr ⟨h0, .inr hi⟩)⟩
          · rw [m4]
            rintro e w' (⟨⟨j, hj, hx⟩, _⟩ | ⟨_, A, c, A2, c2, A', c', rfl, ho, ho2, hn, hf⟩)
            · have := hfree j hj
              rw [hx] at this
              cases this
            · exact ⟨A, c, A2, c2, _, _, rfl, ho, ho2, hn, hf.mono (fun i _ hi => .inl hi)⟩
      · refine ⟨[], [], 182, s, by simp, by simp, ⟨(hp.2 hfit j0 hj0 hz hy).mono ?_, fun w1 Al cl hr hB1 => ?_, h.inv, h.bal, h.pos, h.us0, h.us1⟩⟩
        · rintro e w' ⟨rfl, hb⟩
          exact ⟨none, 0, none, 0, _, _, _, _, rfl, own_none _ _ _ _, own_none _ _ _ _, h.net.below hb, Frame.of_below hb⟩
        · have hhx : ∃ hs', Bal l' (fun j => s.us.getD j 0) hs' := by
            by_cases hoff : s.hs.getD k 0 = 0
            · exact ⟨s.hs, by rw [hl']; exact moved_off h.bal hkl f hoff⟩
            · have hon : 0 < s.hs.getD k 0 := by have := h.pos k; omega
              exact ⟨_, (move_law h.inv.good (by omega) (by omega) h.bal h.pos h.us0 h.us1 hkl hF f hfk hon l' hl' hg' _ _ rfl rfl).1⟩
          obtain ⟨hs', hb'⟩ := hhx
          refine ((rmove_any (hs' := hs') hr h.inv.good hn5 h.caps hB1 h.bal h.us0 k hkl hF f hfk hl' hg').2 hfit hb').mono ?_
          rintro e w' (⟨_, rfl, hb⟩ | ⟨hx, _⟩)
          · exact ⟨none, 0, none, 0, _, _, rfl, own_none _ _ _ _, own_none _ _ _ _, hr.below hb, Frame.of_below hb⟩
          · have := hx j0 hj0
            rw [hz] at this
            cases this
    · refine ⟨[], [], 181, s, by simp, by simp, ⟨(hp.1 hbad).mono ?_, fun w1 Al cl hr hB1 => ((rmove_any (hs' := s.hs) hr h.inv.good hn5 h.caps hB1 h.bal h.us0 k hkl hF f hfk hl' hg').1 (capOk_no hg' n (by omega) hbad)).mono ?_, h.inv, h.bal, h.pos, h.us0, h.us1⟩⟩
      · rintro e w' ⟨rfl, hb⟩
        exact ⟨none, 0, none, 0, _, _, _, _, rfl, own_none _ _ _ _, own_none _ _ _ _, h.net.below hb, Frame.of_below hb⟩
      · rintro e w' ⟨rfl, hb⟩
        exact ⟨none, 0, none, 0, _, _, rfl, own_none _ _ _ _, own_none _ _ _ _, hr.below hb, Frame.of_below hb⟩
/-- Round at both nets. -/
theorem pair_round (h : Both w B nb n Ac Ar Au Ah cc cr cu ch rb Al Ru cl ru s) (I want : Int) : ∃ a r z : Int,
    Calls Try.prog 8 #[.pointer (some ⟨nb, 0, none⟩), .int .i64 I, .int .i64 want] w (fun e w1 => e = .returned (.tuple #[.int .i64 a, .int .i64 r, .int .i64 z]) ∧ Below w.heap.size w w1) ∧
    ∀ w1, Below w.heap.size w w1 → Calls Try.prog 41 #[.pointer (some ⟨rb, 0, none⟩), .int .i64 I, .int .i64 want] w1 fun e w2 => e = .returned (.tuple #[.int .i64 a, .int .i64 r, .int .i64 z]) ∧ Below w1.heap.size w1 w2 := by
  by_cases hI : I < 0 ∨ n ≤ I ∨ want < 0 ∨ 1099511627776 < want
  · refine ⟨0, 0, 1, pround_no h.net I want hI, fun w1 hb => (rround_no (h.rnet.below hb) I want hI).mono ?_⟩
    rintro e w' ⟨rfl, rfl⟩
    exact ⟨rfl, Below.refl _ _⟩
  · obtain ⟨k, rfl⟩ := Int.eq_ofNat_of_zero_le (show 0 ≤ I by omega)
    have hlen := h.net.len
    have hkl : k < s.l.length := by omega
    obtain ⟨b0, b1⟩ := h.inv.base_bd hkl
    exact ⟨_, _, 0, round_ok h.net h.inv hkl want (by omega) (by omega), fun w1 hb => rround_ok (h.rnet.below hb) h.inv.good h.n5 h.caps hkl b0 b1 want (by omega) (by omega)⟩
end
end Go.Proofs.Ytbahclnpgdejlaa
