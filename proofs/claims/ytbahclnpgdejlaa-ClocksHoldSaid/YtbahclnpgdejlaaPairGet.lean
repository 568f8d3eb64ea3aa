/- Get at both nets: the same answer. -/
import Derived.Test.YtbahclnpgdejlaaLooks
set_option linter.unusedVariables false
namespace Go.Proofs.Ytbahclnpgdejlaa
open Go.RowKit
theorem NetAt.keepS {w w' : World} {B nb n : Nat} {Ac Ar Au Ah : Option Addr} {cc cr cu ch : Nat} {s : St} (h : NetAt w B nb n Ac Ar Au Ah cc cr cu ch s)
    (hk : ∀ (g : Nat) (cur : Array Value) (e : TypeId), w.heap[g]? = some (.cells cur e (0, 0)) → (e = 68 ∨ e = 30 ∨ e = 2 ∨ (e = 3 ∧ 0 < n ∧ (Au = some ⟨g, 0, none⟩ ∨ Ah = some ⟨g, 0, none⟩))) → w'.heap[g]? = w.heap[g]?) : NetAt w' B nb n Ac Ar Au Ah cc cr cu ch s := by
  have hpos : ∀ (xs : List Int), n = xs.length → i64s xs ≠ [] → 0 < n := fun xs hl hx => by
    rcases Nat.eq_zero_or_pos n with h0 | h0
    · exact absurd (by simp [i64s]; exact List.eq_nil_of_length_eq_zero (by omega)) hx
    · exact h0
  have kv : ∀ A e xs, Vec w B A e xs → (∀ g, A = some ⟨g, 0, none⟩ → xs ≠ [] → (e = 68 ∨ e = 30 ∨ e = 2 ∨ (e = 3 ∧ 0 < n ∧ (Au = some ⟨g, 0, none⟩ ∨ Ah = some ⟨g, 0, none⟩)))) → Vec w' B A e xs := fun A e xs hv he hx => by
    obtain ⟨g, hA, hb, hrg⟩ := hv hx
    obtain ⟨cur, hh, _⟩ := id hrg
    exact ⟨g, hA, hb, hrg.keep (hk g cur e hh (he g hA hx))⟩
  exact ⟨h.low, h.len, h.lenr, h.lenu, h.lenh, (hk nb _ _ h.box (.inl rfl)).trans h.box, kv _ _ _ h.vc (fun _ _ _ => .inr (.inl rfl)), kv _ _ _ h.vr (fun _ _ _ => .inr (.inr (.inl rfl))),
    kv _ _ _ h.vu (fun g hA hx => .inr (.inr (.inr ⟨rfl, hpos _ h.lenu hx, .inl hA⟩))), kv _ _ _ h.vh (fun g hA hx => .inr (.inr (.inr ⟨rfl, hpos _ h.lenh hx, .inr hA⟩))), h.ne⟩
theorem RNet.keepS {w w' : World} {B rb n : Nat} {Al Au : Option Addr} {cl cu : Nat} {l : List Clk} {us : List Int} (h : RNet w B rb n Al Au cl cu l us)
    (hk : ∀ (g : Nat) (cur : Array Value) (e : TypeId), w.heap[g]? = some (.cells cur e (0, 0)) → (e = 87 ∨ e = 81 ∨ (e = 3 ∧ 0 < n ∧ Au = some ⟨g, 0, none⟩)) → w'.heap[g]? = w.heap[g]?) : RNet w' B rb n Al Au cl cu l us := by
  refine ⟨h.low, h.len, h.lenu, (hk rb _ _ h.box (.inl rfl)).trans h.box, fun hx => ?_, fun hx => ?_⟩
  · obtain ⟨g, hA, hb, hrg⟩ := h.vl hx
    obtain ⟨cur, hh, _⟩ := id hrg
    exact ⟨g, hA, hb, hrg.keep (hk g cur _ hh (.inr (.inl rfl)))⟩
  · obtain ⟨g, hA, hb, hrg⟩ := h.vu hx
    obtain ⟨cur, hh, _⟩ := id hrg
    refine ⟨g, hA, hb, hrg.keep (hk g cur _ hh (.inr (.inr ⟨rfl, ?_, hA⟩)))⟩
    rcases Nat.eq_zero_or_pos n with h0 | h0
    · exact absurd (by simp [i64s]; exact List.eq_nil_of_length_eq_zero (by have := h.lenu; omega)) hx
    · exact h0
/-- What the program's calls may write, and the document's. -/
def SP (nb n gu gh : Nat) (j : Nat) : Prop := j = nb ∨ (0 < n ∧ (j = gu ∨ j = gh))
def SR (rb n gr : Nat) (j : Nat) : Prop := j = rb ∨ (0 < n ∧ j = gr)
theorem type_of {w : World} {g : Nat} {cur cur' : Array Value} {e e' : TypeId} (h : w.heap[g]? = some (.cells cur e (0, 0))) (h' : w.heap[g]? = some (.cells cur' e' (0, 0))) : e = e' := by
  rw [h] at h'
  injection h' with h'
  injection h'
structure Apart (n gu gh gr : Nat) (Au Ah Ru : Option Addr) : Prop where
  au : 0 < n → Au = some ⟨gu, 0, none⟩
  ah : 0 < n → Ah = some ⟨gh, 0, none⟩
  ru : 0 < n → Ru = some ⟨gr, 0, none⟩
  n1 : 0 < n → gr ≠ gu
  n2 : 0 < n → gr ≠ gh
section
variable {w w' : World} {B nb n gu gh gr : Nat} {Ac Ar Au Ah : Option Addr} {cc cr cu ch rb : Nat} {Al Ru : Option Addr} {cl ru : Nat} {s : St} {l : List Clk} {us : List Int}
theorem RNet.frameP (h : RNet w B rb n Al Ru cl ru l us) (hnet : NetAt w B nb n Ac Ar Au Ah cc cr cu ch s) (ap : Apart n gu gh gr Au Ah Ru) (hf : Frame (SP nb n gu gh) w w') : RNet w' B rb n Al Ru cl ru l us := by
  refine h.keepS fun g cur e hh he => hf.block g (lt_of_heap hh) ?_
  rintro (rfl | ⟨h0, hg⟩)
  · have := type_of hh hnet.box
    subst this
    rcases he with h | h | ⟨h, _⟩ <;> cases h
  · have hrow : ∃ cur, w.heap[g]? = some (.cells cur 3 (0, 0)) := by
      rcases hg with rfl | rfl
      · obtain ⟨g', e', _, cur, hc, _⟩ := hnet.row_u h0
        rw [ap.au h0] at e'
        injection e' with e'
        injection e' with e'
        exact ⟨cur, by rw [e']; exact hc⟩
      · obtain ⟨g', e', _, cur, hc, _⟩ := hnet.row_h h0
        rw [ap.ah h0] at e'
        injection e' with e'
        injection e' with e'
        exact ⟨cur, by rw [e']; exact hc⟩
    obtain ⟨cur', hc⟩ := hrow
    have := type_of hh hc
    subst this
    rcases he with h | h | ⟨_, _, h⟩
    · cases h
    · cases h
    · rw [ap.ru h0] at h
      injection h with h
      injection h with h
      have := ap.n1 h0
      have := ap.n2 h0
      omega
theorem NetAt.frameR (h : NetAt w B nb n Ac Ar Au Ah cc cr cu ch s) (hr : RNet w B rb n Al Ru cl ru l us) (ap : Apart n gu gh gr Au Ah Ru) (hf : Frame (SR rb n gr) w w') : NetAt w' B nb n Ac Ar Au Ah cc cr cu ch s := by
  refine h.keepS fun g cur e hh he => hf.block g (lt_of_heap hh) ?_
  rintro (rfl | ⟨h0, rfl⟩)
  · have := type_of hh hr.box
    subst this
    rcases he with h | h | h | ⟨h, _⟩ <;> cases h
  · obtain ⟨g', e', _, cur', hc, _⟩ := hr.row_u h0
    rw [ap.ru h0] at e'
    injection e' with e'
    injection e' with e'
    rw [← e'] at hc
    have := type_of hh hc
    subst this
    have n1 := ap.n1 h0
    have n2 := ap.n2 h0
    rcases he with h | h | h | ⟨_, _, h⟩
    · cases h
    · cases h
    · cases h
    · rw [ap.au h0, ap.ah h0] at h
      rcases h with h | h
      · injection h with h; injection h with h; omega
      · injection h with h; injection h with h; omega
/-- The two calls of a move that answers a list and a number. -/
structure Pair (w : World) (B nb n gu gh gr : Nat) (Au Ah : Option Addr) (cu ch rb : Nat) (Ru : Option Addr) (ru : Nat) (l : List Clk) (us : List Int) (p r : Nat) (args : List Value) (ep er sz : Nat) (cells : List Value) (m : Nat) (z : Int) (s' : St) : Prop where
  prog : Calls Try.prog p ((.pointer (some ⟨nb, 0, none⟩) :: args).toArray) w fun e w1 => ∃ A c Ac' Ar' cc' cr', e = .returned (.tuple #[.slice A m c, .int .i64 z]) ∧ w1.ownsRow w.heap.size ep sz (.slice A m c) m cells ∧ NetAt w1 B nb n Ac' Ar' Au Ah cc' cr' cu ch s' ∧ Frame (SP nb n gu gh) w w1
  ref : ∀ w1 Al cl, RNet w1 B rb n Al Ru cl ru l us → B ≤ w1.heap.size → Calls Try.prog r ((.pointer (some ⟨rb, 0, none⟩) :: args).toArray) w1 fun e w2 => ∃ A c Al' cl', e = .returned (.tuple #[.slice A m c, .int .i64 z]) ∧ w2.ownsRow w1.heap.size er sz (.slice A m c) m cells ∧ RNet w2 B rb n Al' Ru cl' ru s'.l s'.us ∧ Frame (SR rb n gr) w1 w2
  inv : Inv s'
  bal : Bal s'.l (fun j => s'.us.getD j 0) s'.hs
  pos : ∀ j, 0 ≤ s'.hs.getD j 0
  us0 : ∀ j, 0 ≤ s'.us.getD j 0
  us1 : ∀ j, s'.us.getD j 0 ≤ 65535
theorem own_none (w : World) (b e sz : Nat) : w.ownsRow b e sz (.slice none 0 0) 0 [] := World.ownsRow_nil _ _ _ _
theorem pair_get (h : Both w B nb n Ac Ar Au Ah cc cr cu ch rb Al Ru cl ru s) (ap : Apart n gu gh gr Au Ah Ru) (I : Int) :
    ∃ (t : List (Int × Bool)) (z : Int) (s' : St), t.length ≤ 1026 ∧ Pair w B nb n gu gh gr Au Ah cu ch rb Ru ru s.l s.us 12 34 [.int .i64 I] 80 109 2 (turnCells t) t.length z s' := by
  by_cases hI : I < 0 ∨ n ≤ I
  · refine ⟨[], 1, s, by simp, ⟨(pget_no h.net I hI).mono ?_, fun w1 Al cl hr _ => (rget_no hr I hI).mono ?_, h.inv, h.bal, h.pos, h.us0, h.us1⟩⟩
    · rintro e w' ⟨rfl, rfl⟩
      exact ⟨none, 0, _, _, _, _, rfl, own_none _ _ _ _, h.net, Frame.refl _ _⟩
    · rintro e w' ⟨rfl, rfl⟩
      exact ⟨none, 0, _, _, rfl, own_none _ _ _ _, hr, Frame.refl _ _⟩
  · obtain ⟨k, rfl⟩ := Int.eq_ofNat_of_zero_le (show 0 ≤ I by omega)
    have hkn : k < n := by omega
    have h0 : 0 < n := by omega
    obtain rfl := ap.au h0
    obtain rfl := ap.ah h0
    obtain rfl := ap.ru h0
    have hlen := h.net.len
    have hlenh := h.net.lenh
    have hlenu := h.net.lenu
    have hu0 := h.us0 k
    have hu1 := h.us1 k
    have hhs : ∀ j : Nat, j < n → s.hs.getD j 0 ≤ 70000 := fun j hj => by
      have := h.bal j (by omega)
      have := kids_nonneg s.l s.hs j s.l.length
      have := h.us1 j
      have := h.n5
      simp only at *
      omega
    by_cases hfull : s.us.getD k 0 = 65535
    · refine ⟨[], 3, s, by simp, ⟨(pget_full h.net hkn hfull).mono ?_, fun w1 Al cl hr _ => (rget_full hr hkn (by omega)).mono ?_, h.inv, h.bal, h.pos, h.us0, h.us1⟩⟩
      · rintro e w' ⟨rfl, rfl⟩
        exact ⟨none, 0, _, _, _, _, rfl, own_none _ _ _ _, h.net, Frame.refl _ _⟩
      · rintro e w' ⟨rfl, rfl⟩
        exact ⟨none, 0, _, _, rfl, own_none _ _ _ _, hr, Frame.refl _ _⟩
    · have hhb := hold_bal h.inv.good 513 k s.hs _ (by omega) (by omega) (by have := h.n5; omega) (by omega) h.pos h.bal
      have hup := hold_up h.inv.good 513 k s.hs (by omega) (by omega) (by have := h.n5; omega) (by omega) h.pos
      have hdn := hold_down h.inv.good 513 k s.hs (by omega) (by omega) s.l.length
      have hset : ∀ j, (s.us.set k (s.us.getD k 0 + 1)).getD j 0 = if j = k then s.us.getD k 0 + 1 else s.us.getD j 0 := fun j => getD_set _ _ _ _ (by omega)
      have hb' : Bal s.l (fun j => (s.us.set k (s.us.getD k 0 + 1)).getD j 0) (holdF s.l 513 k s.hs).1 := hhb.1.congr fun j hj => by
        simp only [hset]
        unfold bump
        by_cases e : j = k
        · subst e; simp
        · rw [if_neg e, if_neg (by omega)]
      have ht : (holdF s.l 513 k s.hs).2 = refTurns (onL s.l s.hs 0) (onL s.l (holdF s.l 513 k s.hs).1 0) n := by
        unfold refTurns
        rw [hlen, hdn, List.append_nil]
        exact hup
      refine ⟨(holdF s.l 513 k s.hs).2, 0, { s with us := s.us.set k (s.us.getD k 0 + 1), hs := (holdF s.l 513 k s.hs).1 }, by have := holdF_turns s.l 513 k s.hs; omega, ⟨(get_ok h.net h.inv.good h.n5 hkn hfull hu0 hu1 (fun j hj => ⟨h.pos j, by have := hhs j (by omega); omega⟩)).mono ?_, fun w1 Al cl hr _ => (rget_ok hr h.inv.good h.n5 hkn (by omega) h.bal h.us0 hb').mono ?_, ⟨h.inv.may, h.inv.fit, h.inv.rates⟩, hb', hhb.2, ?_, ?_⟩⟩
      · rintro e w' ⟨A, c, rfl, ho, hn, hf⟩
        exact ⟨A, c, _, _, _, _, rfl, ho, hn, hf.mono (fun i _ hi => .inr ⟨h0, hi⟩)⟩
      · rintro e w' ⟨A, c, rfl, ho, hn, hf⟩
        rw [← ht] at ho ⊢
        exact ⟨A, c, _, _, rfl, ho, hn, hf.mono (fun i _ hi => .inr ⟨h0, hi⟩)⟩
      · intro j
        simp only [hset]
        split
        · omega
        · exact h.us0 j
      · intro j
        simp only [hset]
        split
        · omega
        · exact h.us1 j
end
end Go.Proofs.Ytbahclnpgdejlaa
