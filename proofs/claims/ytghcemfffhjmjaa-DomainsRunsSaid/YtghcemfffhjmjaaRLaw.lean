/- DomainsRaise: the plain law; what 'out' gives for New. -/
import Derived.Test.YtghcemfffhjmjaaAwake
set_option linter.unusedVariables false
namespace Go.Proofs.Ytghcemfffhjmjaa
open Go.RowKit
theorem base_mono {W W' : Int → Int → Nat} (h : ∀ a b, W a b ≤ W' a b) (kp : Int → Int → Bool) (d : Nat) : baseF W kp d ≤ baseF W' kp d :=
  base_le fun u hu hk => Nat.le_trans (h u d) (base_ge W' kp hu hk)
theorem lev_mono {ds : List Dm} (hok : Okd ds) {W W' : Int → Int → Nat} (h : ∀ a b, W a b ≤ W' a b) (i : Nat) : lev ds W i ≤ lev ds W' i := settle_mono hok (fun j => base_mono h _ j) i
theorem upd_ge (W : Int → Int → Nat) (u d : Int) {v : Nat} (h : W u d ≤ v) (a b : Int) : W a b ≤ updW W u d v a b := by
  unfold updW
  split
  · rename_i e; rw [e.1, e.2]; exact h
  · exact Nat.le_refl _
theorem ups_rise (f g : Nat → Nat) : ∀ k, ∀ c ∈ ups f g k, c.2.1 < c.2.2
  | 0, c, h => by cases h
  | k + 1, c, h => by
    unfold ups at h
    split at h
    · rcases List.mem_append.1 h with h | h
      · exact ups_rise f g k c h
      · rw [List.mem_singleton] at h
        subst h
        assumption
    · exact ups_rise f g k c h
theorem dns_rise (f g : Nat → Nat) (n : Nat) (p : List (Nat × Nat × Nat)) (hle : ∀ i, f i ≤ g i) (hp : ∀ c ∈ p, c.2.1 < c.2.2) : ∀ m, ∀ c ∈ dns f g n p m, c.2.1 < c.2.2
  | 0, c, h => hp c h
  | m + 1, c, h => by
    unfold dns at h
    rw [if_neg (by have := hle (n - 1 - m); omega)] at h
    exact dns_rise f g n p hle hp m c h
theorem chgs_rise {f g : Nat → Nat} (hle : ∀ i, f i ≤ g i) (n : Nat) : ∀ c ∈ chgs f g n, c.2.1 < c.2.2 := dns_rise f g n _ hle (ups_rise f g n) n
theorem vote_rise {ds : List Dm} (hok : Okd ds) {W : Int → Int → Nat} {u d : Int} {v : Nat} (h : W u d ≤ v) : ∀ c ∈ voteC ds W u d v, c.2.1 < c.2.2 := by
  by_cases he : voteE ds W u d v = 0
  · rw [voteC_ok he]
    exact chgs_rise (lev_mono hok (upd_ge W u d h)) _
  · rw [voteC_no he]
    intro c hc
    cases hc
theorem vote_ge {ds : List Dm} (hok : Okd ds) {W : Int → Int → Nat} {u d : Int} {v : Nat} (h : W u d ≤ v) (i : Nat) : lev ds W i ≤ lev ds (voteW ds W u d v) i := by
  by_cases he : voteE ds W u d v = 0
  · rw [voteW_ok he]
    exact lev_mono hok (upd_ge W u d h) i
  · rw [voteW_no he]
    exact Nat.le_refl _
/-- Taken back it is as it was. -/
theorem vote_back {ds : List Dm} {W : Int → Int → Nat} (ht : TopOk ds (lev ds W)) (u d : Int) (v : Nat) : voteW ds (voteW ds W u d v) u d (W u d) = W ∧ (voteE ds (voteW ds W u d v) u d (W u d) = 0 ↔ inR ds.length u d) := by
  have key : updW (voteW ds W u d v) u d (W u d) = W := by
    by_cases he : voteE ds W u d v = 0
    · rw [voteW_ok he, updW_twice, updW_self]
    · rw [voteW_no he, updW_self]
  by_cases hin : inR ds.length u d
  · have he : voteE ds (voteW ds W u d v) u d (W u d) = 0 := voteE_ok hin (by rw [key]; exact ht)
    rw [voteW_ok he, key]
    exact ⟨rfl, ⟨fun _ => hin, fun _ => he⟩⟩
  · have he := voteE_arg (W := voteW ds W u d v) (lv := W u d) hin
    have hne : voteE ds (voteW ds W u d v) u d (W u d) ≠ 0 := by omega
    have he2 : voteE ds W u d v ≠ 0 := by rw [voteE_arg hin]; omega
    rw [voteW_no hne, voteW_no he2]
    refine ⟨rfl, ⟨fun h => absurd h ?_, fun h => absurd h hin⟩⟩
    rw [voteE_arg hin]
    omega
theorem lev_le {ds : List Dm} {n : Nat} {W : Int → Int → Nat} (h : Fitw n W) (i : Nat) : lev ds W i ≤ 255 := settle_bound (fun j => bs_le h j) i
theorem dms_same {l l' : List Dmi} (h : l'.map Dmi.core = l.map Dmi.core) : dms l' = dms l := by
  have e : ∀ l : List Dmi, dms l = (l.map Dmi.core).map fun c => (⟨c.1.map Int.toNat, c.2⟩ : Dm) := fun l => by simp [dms, toDm, Dmi.core]
  rw [e, e, h]
theorem core_len {l l' : List Dmi} (h : l'.map Dmi.core = l.map Dmi.core) : l'.length = l.length := by simpa using congrArg List.length h
theorem core_all {l l' : List Dmi} (h : l'.map Dmi.core = l.map Dmi.core) {p : List Int → Nat → Prop} (hp : ∀ x ∈ l, p x.u x.t) : ∀ x ∈ l', p x.u x.t := fun x hx => by
  have : Dmi.core x ∈ l.map Dmi.core := by rw [← h]; exact List.mem_map_of_mem hx
  obtain ⟨y, hy, e⟩ := List.mem_map.1 this
  have := hp y hy
  injection e with e1 e2
  rw [← e1, ← e2]
  exact this
theorem core_may {l l' : List Dmi} (h : l'.map Dmi.core = l.map Dmi.core) (hm : mayD l) : mayD l' := by
  have hl := core_len h
  refine ⟨by rw [hl]; exact hm.1, fun i hi => ?_⟩
  have h1 := hm.2 i (by omega)
  have e : l'[i].u = (l[i]'(by omega)).u := by
    have := congrArg (fun x => (x[i]?).map (·.1)) h
    simp [List.getElem?_eq_getElem hi, List.getElem?_eq_getElem (show i < l.length by omega), Dmi.core] at this
    exact this
  rw [e]
  exact h1
theorem seg_left {w : World} {B : Nat} {a : Option Addr} {xs ys : List Value} (h : Seg w B a (xs ++ ys)) : Seg w B a xs := fun hx => by
  obtain ⟨b, off, e, hb, hc⟩ := h (by simp [hx])
  exact ⟨b, off, e, hb, fun j u hu => hc j u (by rw [List.getElem?_append_left (List.getElem?_eq_some_iff.1 hu).1]; exact hu)⟩
theorem OutAt.domi {W : World} {B n c : Nat} {A : Option Addr} {lo l : List Dmi} (h : OutAt W B n A c lo l) : Domi W W.heap.size A lo :=
  ⟨seg_left (own_seg h.own), fun x hx => seg_left ((h.under x hx).seg (Nat.le_refl _)), fun x hx => by have := h.cap x hx; omega⟩
theorem seg_ch {w : World} {B : Nat} {a : Option Addr} {l : List (Nat × Nat × Nat)} (h : Seg w B a (chCells l)) {k : Nat} (hk : k < l.length) : ∃ b off, a = some ⟨b, off, none⟩ ∧ b < B ∧ w.cell? ⟨b, off + k * 3, none⟩ = some (.int .i64 (l[k].1 : Int)) ∧
    w.cell? ⟨b, off + k * 3 + 1, none⟩ = some (.int .u8 (l[k].2.1 : Int)) ∧ w.cell? ⟨b, off + k * 3 + 2, none⟩ = some (.int .u8 (l[k].2.2 : Int)) := by
  obtain ⟨b, off, e, hb, hc⟩ := h.thing (f := fun x => [Value.int .i64 (x.1 : Int), .int .u8 (x.2.1 : Int), .int .u8 (x.2.2 : Int)]) (m := 3) (fun _ => rfl) (by omega) hk
  exact ⟨b, off, e, hb, hc 0 _ rfl, hc 1 _ rfl, hc 2 _ rfl⟩
/-- The levels of the first k domains as cells. -/
def lvs (f : Nat → Nat) (k : Nat) : List Value := (List.range k).map fun i => .int .u8 (f i : Int)
theorem lvs_len (f : Nat → Nat) (k : Nat) : (lvs f k).length = k := by simp [lvs]
theorem lvs_succ (f : Nat → Nat) (k : Nat) : lvs f k ++ [.int .u8 (f k : Int)] = lvs f (k + 1) := by simp [lvs, List.range_succ]
theorem lvs_get (f : Nat → Nat) {k i : Nat} (h : i < k) : (lvs f k)[i]? = some (.int .u8 (f i : Int)) := by simp [lvs, h]
theorem seg_lv {w : World} {B : Nat} {a : Option Addr} {f : Nat → Nat} {k i : Nat} (h : Seg w B a (lvs f k)) (hi : i < k) : ∃ b off, a = some ⟨b, off, none⟩ ∧ b < B ∧ w.cell? ⟨b, off + i, none⟩ = some (.int .u8 (f i : Int)) := by
  obtain ⟨b, off, e, hb, hc⟩ := h (by intro e; have := congrArg List.length e; rw [lvs_len] at this; simp at this; omega)
  exact ⟨b, off, e, hb, hc i _ (lvs_get f hi)⟩
theorem Try.info5 : (Try.prog.info? 5).map (fun i => (i.zero, i.size, i.bytes)) = some (some (.int .u8 0), 1, 1) := by kernel_rfl
theorem wrap_small {z : Int} (h0 : 0 ≤ z) (h1 : z < 256) : wrap64 z % 256 = z := by
  have : wrap64 z = z := by unfold wrap64; omega
  rw [this]
  exact Int.emod_eq_of_lt h0 h1
theorem up_law {p more : Nat} (hp : p ≤ 255) : ∃ up : Nat, wrap64 ((p : Int) + (more : Int) % (256 - (p : Int))) % 256 = (up : Int) ∧ p ≤ up ∧ up ≤ 255 := by
  have h1 := Int.emod_nonneg (more : Int) (show (256 - (p : Int)) ≠ 0 by omega)
  have h2 := Int.emod_lt_of_pos (more : Int) (show 0 < (256 - (p : Int)) by omega)
  obtain ⟨q, hq⟩ := Int.eq_ofNat_of_zero_le h1
  rw [hq] at h2 ⊢
  exact ⟨p + q, by rw [wrap_small (by omega) (by omega)]; omega, by omega, by omega⟩
end Go.Proofs.Ytghcemfffhjmjaa
