/- DomainsNeeded: the plain laws of its parts. -/
import Derived.Test.YtghcemfffhjmjaaAbove
import Derived.Test.YtghcemfffhjmjaaMay
import Derived.Test.YtghcemfffhjmjaaWhy
set_option linter.unusedVariables false
namespace Go.Proofs.Ytghcemfffhjmjaa
open Go.RowKit
theorem make_u8s (n : Nat) (hn : n ≤ 256) (w : World) : (Instr.makeSlice 37 (.int .i64 (n : Int)) (.int .i64 (n : Int))).run Try.prog w = .ok (.slice (some ⟨w.heap.size, 0, none⟩) n n) (w.alloc (.cells (madeCells #[.int .u8 0] n) 5)) := by
  obtain ⟨i0, hi, hz0, hz1, hz2⟩ := info_parts Try.info5
  have := run_make (P := Try.prog) w 37 5 i0 (.int .u8 0) Try.underlying37 hi hz0 .i64 .i64 n n (by omega) (Int.le_refl _) (by rw [hz2]; omega) (by omega)
  simp only [Int.toNat_natCast, hz1, Nat.mul_one] at this
  exact this
theorem lvs_none (n : Nat) : (madeCells #[.int .u8 0] n).toList = lvs (fun _ => 0) n := by
  rw [toList_madeCells_one]
  apply List.ext_getElem?
  intro j
  rcases Nat.lt_or_ge j n with hj | hj
  · rw [lvs_get _ hj]; simp [hj]
  · rw [List.getElem?_eq_none (by simp; exact hj), List.getElem?_eq_none (by rw [lvs_len]; exact hj)]
theorem lvs_congr {f g : Nat → Nat} {n : Nat} (h : ∀ i, i < n → f i = g i) : lvs f n = lvs g n := by
  unfold lvs
  exact List.map_congr_left fun j hj => by rw [h j (List.mem_range.1 hj)]
theorem lvs_set (f : Nat → Nat) {n d : Nat} (h : d < n) (v : Nat) : (lvs f n).set d (.int .u8 (v : Int)) = lvs (upd f d v) n := by
  apply List.ext_getElem?
  intro j
  rcases Nat.lt_or_ge j n with hj | hj
  · rw [List.getElem?_set, lvs_get _ hj, lvs_get _ hj, lvs_len]
    by_cases e : d = j
    · subst e; rw [if_pos rfl, if_pos h, upd_same]
    · rw [if_neg e, upd_other _ _ (fun x => e x.symm)]
  · rw [List.getElem?_eq_none (by rw [List.length_set, lvs_len]; exact hj), List.getElem?_eq_none (by rw [lvs_len]; exact hj)]
theorem From.leave {S : List Stp} {k : Nat} {W : Int → Int → Nat} (h : From S k W) (u : Int) : From S (k + 1) (leaveW W u) := fun a b hne => by
  unfold leaveW at hne
  split at hne
  · exact absurd rfl hne
  · obtain ⟨i, hi, h1, h2⟩ := h a b hne
    exact ⟨i, hi, by omega, h2⟩
theorem vote_fits {ds : List Dm} (hok : Okd ds) {W : Int → Int → Nat} (u d : Int) (v : Nat) : Fits ds (lev ds W) (voteC ds W u d v) ∧ ∀ i, i < ds.length → fin (lev ds W) (voteC ds W u d v) i = lev ds (voteW ds W u d v) i := by
  by_cases he : voteE ds W u d v = 0
  · rw [voteC_ok he, voteW_ok he]
    exact chgs_fits hok (settle_closed hok _) (settle_closed hok _) (voteE_zero he).2
  · rw [voteC_no he, voteW_no he]
    exact ⟨trivial, fun i _ => rfl⟩
theorem leave_fits {ds : List Dm} (hok : Okd ds) {W : Int → Int → Nat} (ht : TopOk ds (lev ds W)) (u : Int) : Fits ds (lev ds W) (leaveC ds W u) ∧ ∀ i, i < ds.length → fin (lev ds W) (leaveC ds W u) i = lev ds (leaveW W u) i :=
  chgs_fits hok (settle_closed hok _) (settle_closed hok _) fun i hi => Nat.le_trans (lev_mono hok (leave_le W u) i) (ht i hi)
theorem chgs_len (f g : Nat → Nat) (n : Nat) : (chgs f g n).length ≤ n + n := by
  have h1 := ups_len f g n
  have h2 := dns_len f g n (ups f g n) n
  unfold chgs
  omega
theorem voteC_len2 (ds : List Dm) (W : Int → Int → Nat) (u d : Int) (v : Nat) : (voteC ds W u d v).length ≤ ds.length + ds.length := by
  by_cases he : voteE ds W u d v = 0
  · rw [voteC_ok he]; exact chgs_len _ _ _
  · rw [voteC_no he]; exact Nat.zero_le _
theorem Reach.lt {ds : List Dm} {d i : Nat} (h : Reach ds d i) (hd : d < ds.length) : i < ds.length := by
  cases h with
  | self => exact hd
  | step _ u hu h => exact und_len hu
theorem Reach.under {ds : List Dm} {d d' i : Nat} (hu : d ∈ und ds d') (h : Reach ds d' i) : Reach ds d i := by
  induction h with
  | self => exact .step d' d hu .self
  | step i u hu' h ih => exact .step i u hu' ih
theorem why_reach {ds : List Dm} {W : Int → Int → Nat} {d u a : Nat} (h : WhyR ds W d u a) : Reach ds d a := by
  induction h with
  | here => exact .self
  | up d d' u a hno h1 h2 h3 h4 h5 h ih => exact ih.under h4
/-- While the wants of one domain above are looked through. -/
structure Seen (S : List Stp) (W : Int → Int → Nat) (k i want0 want : Nat) : Prop where
  ge : want0 ≤ want
  all : ∀ j (h : j < S.length), j < i → W S[j].u k ≤ want
  att : want = want0 ∨ want ≤ bs W k
  le : want ≤ 255
theorem seen_none (S : List Stp) (W : Int → Int → Nat) (k want : Nat) (h : want ≤ 255) : Seen S W k 0 want want := ⟨Nat.le_refl _, fun j h hj => by omega, .inl rfl, h⟩
theorem Seen.step {S : List Stp} {n : Nat} {W : Int → Int → Nat} {k i want0 want : Nat} (hW : Fitw n W) (h : Seen S W k i want0 want) (hi : i < S.length) : Seen S W k (i + 1) want0 (max want (W S[i].u k)) := by
  refine ⟨by have := h.ge; omega, fun j hj hji => ?_, ?_, by have := hW.le S[i].u k; have := h.le; omega⟩
  · rcases (show j < i ∨ j = i by omega) with h2 | rfl
    · have := h.all j hj h2; omega
    · omega
  · by_cases hm : want < W S[i].u k
    · refine .inr ?_
      obtain ⟨u', d', e1, e2, e3, e4⟩ := hW.zero S[i].u k (by omega)
      have := base_ge W (fun _ _ => true) (u := u') (d := k) e3 rfl
      rw [← e1] at this
      unfold bs
      omega
    · rw [show max want (W S[i].u k) = want by omega]; exact h.att
theorem Seen.all_ {S : List Stp} {M : Nat} {W : Int → Int → Nat} {k want0 want : Nat} (h : Seen S W k M want0 want) (hf : From S M W) : bs W k ≤ want := base_le fun u hu _ => by
  by_cases h0 : W u k = 0
  · omega
  · obtain ⟨j, hj, hjM, e1, e2⟩ := hf u k h0
    have := h.all j hj hjM
    rw [e1] at this
    exact this
/-- What is wanted of the first k domains above. -/
structure Most (ds : List Dm) (W : Int → Int → Nat) (d k want : Nat) : Prop where
  ge : ∀ i, i < k → Reach ds d i → bs W i ≤ want
  att : want = 0 ∨ ∃ i, Reach ds d i ∧ want ≤ bs W i
  le : want ≤ 255
theorem most_none (ds : List Dm) (W : Int → Int → Nat) (d : Nat) : Most ds W d 0 0 := ⟨fun i hi => by omega, .inl rfl, by omega⟩
theorem Most.skip {ds : List Dm} {W : Int → Int → Nat} {d k want : Nat} (h : Most ds W d k want) (hr : ¬ Reach ds d k) : Most ds W d (k + 1) want :=
  ⟨fun i hi hri => (show i < k ∨ i = k by omega).elim (fun h2 => h.ge i h2 hri) (fun e => by subst e; exact absurd hri hr), h.att, h.le⟩
theorem Most.step {S : List Stp} {M : Nat} {ds : List Dm} {W : Int → Int → Nat} {d k want0 want : Nat} (h : Most ds W d k want0) (hr : Reach ds d k) (hs : Seen S W k M want0 want) (hf : From S M W) : Most ds W d (k + 1) want := by
  refine ⟨fun i hi hri => ?_, ?_, hs.le⟩
  · rcases (show i < k ∨ i = k by omega) with h2 | rfl
    · exact Nat.le_trans (h.ge i h2 hri) hs.ge
    · exact hs.all_ hf
  · rcases hs.att with e | e
    · rw [e]; exact h.att
    · exact .inr ⟨k, hr, e⟩
theorem Most.lev {ds : List Dm} (hok : Okd ds) {W : Int → Int → Nat} {d want : Nat} (hd : d < ds.length) (h : Most ds W d ds.length want) : lev ds W d = want :=
  lev_needed hok W d want (fun i hr => h.ge i (hr.lt hd) hr) h.att
end Go.Proofs.Ytghcemfffhjmjaa
