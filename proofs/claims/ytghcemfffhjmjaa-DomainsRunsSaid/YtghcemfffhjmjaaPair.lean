/- A net whose memory lies below a block: several nets side by side. -/
import Derived.Test.YtghcemfffhjmjaaLeave
import Derived.Test.YtghcemfffhjmjaaRLaw
import Derived.Test.YtghcemfffhjmjaaOpen
set_option linter.unusedVariables false
namespace Go.Proofs.Ytghcemfffhjmjaa
open Go.RowKit
/-- A net that stands as what is wanted says; its domains lie below block B. -/
def Nb (w : World) (nb mb B N : Nat) (ds : List Dm) (W : Int → Int → Nat) : Prop :=
  ∃ N' Ad cd ls, N' ≤ N ∧ NetAt w nb mb N' ds.length Ad cd ls W (lev ds W) ∧ dsOf ls = ds ∧ Okd ds ∧ Fitw ds.length W ∧ TopOk ds (lev ds W) ∧ Doms w B Ad ls ∧ nb < B ∧ B ≤ w.heap.size
section
variable {w w' : World} {nb mb B N : Nat} {ds : List Dm} {W : Int → Int → Nat}
theorem Nb.net (h : Nb w nb mb B N ds W) : IsNet w nb mb N ds W := by
  obtain ⟨N', Ad, cd, ls, h1, h2, h3, h4, h5, h6, _⟩ := h
  exact ⟨N', Ad, cd, ls, h1, h2, h3, h4, h5, h6⟩
theorem Nb.lt (h : Nb w nb mb B N ds W) : mb < nb ∧ nb < B ∧ B ≤ w.heap.size := by
  obtain ⟨N', Ad, cd, ls, h1, h2, h3, h4, h5, h6, h7, h8, h9⟩ := h
  exact ⟨h2.low, h8, h9⟩
theorem Nb.more {M : Nat} (h : Nb w nb mb B N ds W) (hM : N ≤ M) : Nb w nb mb B M ds W := by
  obtain ⟨N', Ad, cd, ls, h1, h2⟩ := h
  exact ⟨N', Ad, cd, ls, by omega, h2⟩
/-- What changes elsewhere leaves it. -/
theorem Nb.other {S : Nat → Prop} (h : Nb w nb mb B N ds W) (hf : Frame S w w') (hs : ∀ j, S j → j < mb ∨ B ≤ j) : Nb w' nb mb B N ds W := by
  obtain ⟨N', Ad, cd, ls, h1, h2, h3, h4, h5, h6, h7, h8, h9⟩ := h
  have hlow := h2.low
  have hd : Doms w' B Ad ls := h7.far h2.far fun k hk1 hk2 => hf.block k (by omega) (fun x => by have := hs k x; omega)
  exact ⟨N', Ad, cd, ls, h1, ⟨h2.box.keep (hf.block nb h2.lt (fun x => by have := hs nb x; omega)), h2.low, h2.len, hd.more (Nat.le_trans h9 hf.size), h2.far, h2.wants.block (hf.block mb (by omega) (fun x => by have := hs mb x; omega))⟩, h3, h4, h5, h6, hd, h8, Nat.le_trans h9 hf.size⟩
theorem Nb.below (h : Nb w nb mb B N ds W) (hb : Below w.heap.size w w') : Nb w' nb mb B N ds W := h.other (S := fun _ => False) (Frame.of_below hb) (fun _ x => x.elim)
theorem vote_nb (h : Nb w nb mb B N ds W) (hN : N < maxLen) (u d : Int) (lv : Nat) (hlv : lv ≤ 255) :
    Calls Try.prog 11 #[.pointer (some ⟨nb, 0, none⟩), .int .i64 u, .int .i64 d, .int .u8 (lv : Int)] w fun e w' => ∃ A c, e = .returned (.tuple #[.slice A (voteC ds W u d lv).length c, .int .i64 (voteE ds W u d lv)]) ∧
      w'.ownsRow w.heap.size 40 3 (.slice A (voteC ds W u d lv).length c) (voteC ds W u d lv).length (chCells (voteC ds W u d lv)) ∧ Nb w' nb mb B (N + 1) ds (voteW ds W u d lv) ∧ Frame (fun j => j = nb ∨ j = mb) w w' := by
  have h0 := h
  obtain ⟨N', Ad, cd, ls, h1, h2, h3, h4, h5, h6, h7, h8, h9⟩ := h
  by_cases hin : inR ds.length u d
  · obtain ⟨u', rfl⟩ : ∃ u' : Nat, u = u' := ⟨u.toNat, (Int.toNat_of_nonneg hin.1).symm⟩
    obtain ⟨d', rfl⟩ : ∃ d' : Nat, d = d' := ⟨d.toNat, (Int.toNat_of_nonneg hin.2.2.1).symm⟩
    have hu : u' < 1024 := by have := hin.2.1; omega
    have hd : d' < ds.length := by have := hin.2.2.2; omega
    refine (vote_any h2 (by rw [h3]; exact h4) h5 (by omega) hu hd hlv).mono ?_
    rintro e w' (⟨ht, rfl, hb⟩ | ⟨ht, A, c, rfl, ho, hn, hf⟩)
    · rw [h3] at ht
      have he := voteE_stuck hin ht
      have hne : voteE ds W u' d' lv ≠ 0 := by omega
      rw [voteC_no hne, voteW_no hne, he]
      exact ⟨none, 0, rfl, World.ownsRow_nil _ _ _ _, (h0.below hb).more (by omega), Frame.of_below hb⟩
    · rw [h3] at ht ho hn ⊢
      have he := voteE_ok hin ht
      rw [voteC_ok he, voteW_ok he, he]
      have hlow := h2.low
      have hdm : Doms w' B Ad ls := h7.far h2.far fun k hk1 hk2 => hf.block k (by omega) (fun x => by omega)
      exact ⟨A, c, rfl, ho, ⟨N' + 1, Ad, cd, ls, by omega, hn, h3, h4, h5.put hu hd hlv, ht, hdm, h8, Nat.le_trans h9 hf.size⟩, hf⟩
  · have he := voteE_arg (lv := lv) (W := W) hin
    have hne : voteE ds W u d lv ≠ 0 := by omega
    rw [voteC_no hne, voteW_no hne, he]
    refine (vote_arg h2 u d lv ?_).mono ?_
    · unfold inR at hin
      omega
    · rintro e w' ⟨rfl, rfl⟩
      exact ⟨none, 0, rfl, World.ownsRow_nil _ _ _ _, h0.more (by omega), Frame.refl _ _⟩
theorem leave_nb (h : Nb w nb mb B N ds W) (u : Int) :
    Calls Try.prog 14 #[.pointer (some ⟨nb, 0, none⟩), .int .i64 u] w fun e w' => ∃ A c, e = .returned (.tuple #[.slice A (leaveC ds W u).length c, .int .i64 (leaveE u)]) ∧
      w'.ownsRow w.heap.size 40 3 (.slice A (leaveC ds W u).length c) (leaveC ds W u).length (chCells (leaveC ds W u)) ∧ Nb w' nb mb B N ds (leaveW W u) ∧ Frame (fun j => j = nb ∨ j = mb) w w' := by
  have h0 := h
  obtain ⟨N', Ad, cd, ls, h1, h2, h3, h4, h5, h6, h7, h8, h9⟩ := h
  by_cases hin : 0 ≤ u ∧ u < 1024
  · obtain ⟨u', rfl⟩ : ∃ u' : Nat, u = u' := ⟨u.toNat, (Int.toNat_of_nonneg hin.1).symm⟩
    have he : leaveE u' = 0 := by unfold leaveE; rw [if_pos hin]
    refine (leave_any h2 (by rw [h3]; exact h4) h5 (u := u') (by omega)).mono ?_
    rintro e w' ⟨A, c, rfl, ho, hn, hf⟩
    rw [h3] at ho hn ⊢
    rw [he]
    have hlow := h2.low
    have hdm : Doms w' B Ad ls := h7.far h2.far fun k hk1 hk2 => hf.block k (by omega) (fun x => by omega)
    exact ⟨A, c, rfl, ho, ⟨N', Ad, cd, ls, h1, hn, h3, h4, h5.left u', fun i hi => Nat.le_trans (lev_mono' h4 (leave_le W u') i) (h6 i hi), hdm, h8, Nat.le_trans h9 hf.size⟩, hf⟩
  · have he : leaveE u = 1 := by unfold leaveE; rw [if_neg hin]
    have hw := leaveW_out h5 (u := u) (by omega)
    have hc : leaveC ds W u = [] := by unfold leaveC; rw [hw, chgs_same]
    rw [he, hw, hc]
    refine (leave_arg (nb := nb) (u := u) (by omega)).mono ?_
    rintro e w' ⟨rfl, hb⟩
    exact ⟨none, 0, rfl, World.ownsRow_nil _ _ _ _, h0.below hb, Frame.of_below hb⟩
theorem IsNet.toNb (h : IsNet w nb mb N ds W) : Nb w nb mb w.heap.size N ds W := by
  obtain ⟨N', Ad, cd, ls, h1, h2, h3, h4, h5, h6⟩ := h
  exact ⟨N', Ad, cd, ls, h1, h2, h3, h4, h5, h6, h2.doms, h2.lt, Nat.le_refl _⟩
end
/-! DomainsOrder: the plain law. -/
/-- All that is wanted was said in the first k steps. -/
def From (S : List Stp) (k : Nat) (W : Int → Int → Nat) : Prop := ∀ a b, W a b ≠ 0 → ∃ i, ∃ h : i < S.length, i < k ∧ S[i].u = a ∧ S[i].d = b
theorem from_none (S : List Stp) : From S 0 (fun _ _ => 0) := fun a b h => absurd rfl h
theorem From.vote {S : List Stp} {k : Nat} {W : Int → Int → Nat} (h : From S k W) (hk : k < S.length) (ds : List Dm) (lv : Nat) : From S (k + 1) (voteW ds W S[k].u S[k].d lv) := fun a b hne => by
  by_cases he : voteE ds W S[k].u S[k].d lv = 0
  · rw [voteW_ok he] at hne
    by_cases e : a = S[k].u ∧ b = S[k].d
    · exact ⟨k, hk, by omega, e.1.symm, e.2.symm⟩
    · rw [updW_other _ _ e] at hne
      obtain ⟨i, hi, h1, h2⟩ := h a b hne
      exact ⟨i, hi, by omega, h2⟩
  · rw [voteW_no he] at hne
    obtain ⟨i, hi, h1, h2⟩ := h a b hne
    exact ⟨i, hi, by omega, h2⟩
/-- M is what was said again so far, from step k on. -/
structure Half (S : List Stp) (k : Nat) (W M : Int → Int → Nat) : Prop where
  sub : ∀ a b, M a b = 0 ∨ M a b = W a b
  done : ∀ i (h : i < S.length), k ≤ i → M S[i].u S[i].d = W S[i].u S[i].d
theorem half_none (S : List Stp) (W : Int → Int → Nat) : Half S S.length W (fun _ _ => 0) := ⟨fun _ _ => .inl rfl, fun i h hk => by omega⟩
/-- A vote for what is wanted already, and the same where less is wanted. -/
theorem vote_again {ds : List Dm} {W : Int → Int → Nat} (ht : TopOk ds (lev ds W)) (u d : Int) : voteW ds W u d (W u d) = W ∧ voteC ds W u d (W u d) = [] ∧ (inR ds.length u d → voteE ds W u d (W u d) = 0) := by
  have key : updW W u d (W u d) = W := updW_self W u d
  by_cases hin : inR ds.length u d
  · have he : voteE ds W u d (W u d) = 0 := voteE_ok hin (by rw [key]; exact ht)
    rw [voteW_ok he, voteC_ok he, key, chgs_same]
    exact ⟨rfl, rfl, fun _ => he⟩
  · have hne : voteE ds W u d (W u d) ≠ 0 := by rw [voteE_arg hin]; omega
    rw [voteW_no hne, voteC_no hne]
    exact ⟨rfl, rfl, fun h => absurd h hin⟩
theorem vote_less {ds : List Dm} (hok : Okd ds) {W M : Int → Int → Nat} (ht : TopOk ds (lev ds W)) (hs : ∀ a b, M a b = 0 ∨ M a b = W a b) (u d : Int) : voteE ds M u d (W u d) = voteE ds W u d (W u d) := by
  by_cases hin : inR ds.length u d
  · rw [(vote_again ht u d).2.2 hin]
    refine voteE_ok hin fun i hi => Nat.le_trans (lev_mono hok (fun a b => ?_) i) (ht i hi)
    by_cases e : a = u ∧ b = d
    · rw [e.1, e.2, updW_same]; exact Nat.le_refl _
    · rw [updW_other _ _ e]
      rcases hs a b with h | h <;> omega
  · rw [voteE_arg hin, voteE_arg hin]
theorem Half.step {S : List Stp} {k n : Nat} {W M : Int → Int → Nat} {ds : List Dm} (h : Half S (k + 1) W M) (hk : k < S.length) (hok : Okd ds) (ht : TopOk ds (lev ds W)) (hW : Fitw ds.length W) (hM : Fitw ds.length M) :
    Half S k W (voteW ds M S[k].u S[k].d (W S[k].u S[k].d)) := by
  have he := vote_less hok ht h.sub S[k].u S[k].d
  by_cases hin : inR ds.length S[k].u S[k].d
  · rw [(vote_again ht _ _).2.2 hin] at he
    rw [voteW_ok he]
    refine ⟨fun a b => ?_, fun i hi hki => ?_⟩
    · by_cases e : a = S[k].u ∧ b = S[k].d
      · rw [e.1, e.2, updW_same]; exact .inr rfl
      · rw [updW_other _ _ e]; exact h.sub a b
    · by_cases e : S[i].u = S[k].u ∧ S[i].d = S[k].d
      · rw [e.1, e.2, updW_same]
      · rw [updW_other _ _ e]
        refine h.done i hi ?_
        rcases (show k < i ∨ i = k by omega) with h1 | rfl
        · omega
        · exact absurd ⟨rfl, rfl⟩ e
  · have hne : voteE ds M S[k].u S[k].d (W S[k].u S[k].d) ≠ 0 := by rw [voteE_arg hin]; omega
    rw [voteW_no hne]
    refine ⟨h.sub, fun i hi hki => ?_⟩
    rcases (show k < i ∨ i = k by omega) with h1 | rfl
    · exact h.done i hi (by omega)
    · have hz : ∀ (X : Int → Int → Nat), Fitw ds.length X → X S[i].u S[i].d = 0 := fun X hX => by
        by_cases h0 : X S[i].u S[i].d = 0
        · exact h0
        · obtain ⟨u', d', e1, e2, h1, h2⟩ := hX.zero _ _ h0
          exact absurd (show inR ds.length S[i].u S[i].d by unfold inR; omega) hin
      rw [hz M hM, hz W hW]
theorem Half.all {S : List Stp} {W M : Int → Int → Nat} (h : Half S 0 W M) (hf : From S S.length W) : M = W := by
  funext a b
  by_cases h0 : W a b = 0
  · rcases h.sub a b with h1 | h1 <;> omega
  · obtain ⟨i, hi, _, rfl, rfl⟩ := hf a b h0
    exact h.done i hi (Nat.zero_le _)
/-- The first k users have left. -/
structure Gone (S : List Stp) (k : Nat) (W W' : Int → Int → Nat) : Prop where
  sub : ∀ a b, W' a b ≠ 0 → W a b ≠ 0
  gone : ∀ i (h : i < S.length), i < k → ∀ b, W' S[i].u b = 0
theorem gone_none (S : List Stp) (W : Int → Int → Nat) : Gone S 0 W W := ⟨fun _ _ h => h, fun i h hi => by omega⟩
theorem Gone.step {S : List Stp} {k : Nat} {W W' : Int → Int → Nat} (h : Gone S k W W') (hk : k < S.length) : Gone S (k + 1) W (leaveW W' S[k].u) := by
  refine ⟨fun a b hne => ?_, fun i hi hik b => ?_⟩
  · unfold leaveW at hne
    split at hne
    · exact absurd rfl hne
    · exact h.sub a b hne
  · unfold leaveW
    split
    · rfl
    · rename_i hne
      rcases (show i < k ∨ i = k by omega) with h1 | rfl
      · exact h.gone i hi h1 b
      · exact absurd rfl hne
theorem Gone.all {S : List Stp} {W W' : Int → Int → Nat} (h : Gone S S.length W W') (hf : From S S.length W) : W' = fun _ _ => 0 := by
  funext a b
  by_cases h0 : W' a b = 0
  · exact h0
  · obtain ⟨i, hi, _, rfl, _⟩ := hf a b (h.sub a b h0)
    exact absurd (h.gone i hi hi b) h0
theorem onL_zero : ∀ k, onL (fun _ => 0) k = []
  | 0 => rfl
  | k + 1 => by unfold onL; rw [if_neg (by omega)]; exact onL_zero k
theorem steps_cap {H : Type} {enc : TypeId × Value → H} {W : World} {a : Option Addr} {len cap : Nat} {d : DataW H} {p : List MemPlace}
    (h : DataW.Trod enc Try.prog W 0 (fun _ => true) true 23 (.slice a len cap) d p) : len ≤ cap := by
  obtain ⟨fuel, hf⟩ := h
  rcases open_slice_fields Try.underlying23 Try.underlying25 (by kernel_rfl) Try.cells25 hf with ⟨hcs, hx⟩ | ⟨x, len', cap', m, D, Pl, hcs, _, hl, _⟩
  · simp [Value.cells] at hcs
    omega
  · simp [Value.cells] at hcs
    omega
end Go.Proofs.Ytghcemfffhjmjaa
