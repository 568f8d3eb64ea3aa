/- The statement's above: the contract. -/
import Derived.Test.YtghcemfffhjmjaaNLaw
import Derived.Laws.MakeOwn
set_option linter.unusedVariables false
namespace Go.Proofs.Ytghcemfffhjmjaa
open Go.RowKit
theorem Try.info4 : (Try.prog.info? 4).map (fun i => (i.zero, i.size, i.bytes)) = some (some (.bool false), 1, 1) := by kernel_rfl
theorem make_bools (n : Nat) (hn : n ≤ 256) (w : World) : (Instr.makeSlice 49 (.int .i64 (n : Int)) (.int .i64 (n : Int))).run Try.prog w = .ok (.slice (some ⟨w.heap.size, 0, none⟩) n n) (w.alloc (.cells (madeCells #[.bool false] n) 4)) := by
  obtain ⟨i0, hi, hz0, hz1, hz2⟩ := info_parts Try.info4
  have := run_make (P := Try.prog) w 49 4 i0 (.bool false) Try.underlying49 hi hz0 .i64 .i64 n n (by omega) (Int.le_refl _) (by rw [hz2]; omega) (by omega)
  simp only [Int.toNat_natCast, hz1, Nat.mul_one] at this
  exact this
/-- Some Booleans as cells. -/
def bools (f : Nat → Bool) (n : Nat) : List Value := (List.range n).map fun i => .bool (f i)
theorem bools_len (f : Nat → Bool) (n : Nat) : (bools f n).length = n := by simp [bools]
theorem bools_get (f : Nat → Bool) {n i : Nat} (h : i < n) : (bools f n)[i]? = some (.bool (f i)) := by simp [bools, h]
theorem bools_set (f g : Nat → Bool) {n i : Nat} (h : i < n) (hg : ∀ j, j < n → g j = if j = i then g i else f j) : (bools f n).set i (.bool (g i)) = bools g n := by
  apply List.ext_getElem?
  intro j
  rcases Nat.lt_or_ge j n with hj | hj
  · rw [List.getElem?_set, bools_get _ hj, bools_get _ hj, bools_len]
    by_cases e : i = j
    · subst e; rw [if_pos rfl, if_pos h]
    · rw [if_neg e, hg j hj, if_neg (fun x => e x.symm)]
  · rw [List.getElem?_eq_none (by rw [List.length_set, bools_len]; exact hj), List.getElem?_eq_none (by rw [bools_len]; exact hj)]
theorem bools_none (n : Nat) : (madeCells #[.bool false] n).toList = bools (fun _ => false) n := by
  rw [toList_madeCells_one]
  apply List.ext_getElem?
  intro j
  rcases Nat.lt_or_ge j n with hj | hj
  · rw [bools_get _ hj]; simp [hj]
  · rw [List.getElem?_eq_none (by simp; exact hj), List.getElem?_eq_none (by rw [bools_len]; exact hj)]
noncomputable def reachB (ds : List Dm) (d i : Nat) : Bool := open Classical in decide (Reach ds d i)
theorem reachB_iff {ds : List Dm} {d i : Nat} : reachB ds d i = true ↔ Reach ds d i := by unfold reachB; simp
/-- While row i is being filled: its first k needs are seen. -/
noncomputable def abvst (ds : List Dm) (d i k : Nat) : Nat → Bool := fun j => if j < i then reachB ds d j else if j = i then (open Classical in decide (∃ u ∈ (und ds i).take k, Reach ds d u)) else false
theorem abv_zero (ds : List Dm) (d i : Nat) (n : Nat) : bools (abvst ds d i 0) n = bools (fun j => if j < i then reachB ds d j else false) n := by
  unfold bools
  refine List.map_congr_left fun j _ => ?_
  have e : abvst ds d i 0 j = if j < i then reachB ds d j else false := by
    unfold abvst
    by_cases h : j < i
    · rw [if_pos h, if_pos h]
    · rw [if_neg h, if_neg h]
      split
      · simp
      · rfl
  show Value.bool (abvst ds d i 0 j) = Value.bool (if j < i then reachB ds d j else false)
  rw [e]
theorem abv_step {ds : List Dm} {d i k n : Nat} (hi : i < n) (hk : k < (und ds i).length) : (bools (abvst ds d i k) n).set i (.bool (abvst ds d i k i || reachB ds d (und ds i)[k])) = bools (abvst ds d i (k + 1)) n := by
  have e : (abvst ds d i k i || reachB ds d (und ds i)[k]) = abvst ds d i (k + 1) i := by
    unfold abvst
    rw [if_neg (by omega), if_pos rfl, if_neg (by omega), if_pos rfl]
    apply Bool.eq_iff_iff.2
    rw [Bool.or_eq_true, reachB_iff]
    simp only [decide_eq_true_eq]
    rw [List.take_succ_eq_append_getElem hk]
    constructor
    · rintro (⟨u, hu, hr⟩ | hr)
      · exact ⟨u, List.mem_append_left _ hu, hr⟩
      · exact ⟨_, List.mem_append_right _ (List.mem_singleton.2 rfl), hr⟩
    · rintro ⟨u, hu, hr⟩
      rcases List.mem_append.1 hu with hu | hu
      · exact .inl ⟨u, hu, hr⟩
      · rw [List.mem_singleton] at hu
        subst hu
        exact .inr hr
  rw [e]
  exact bools_set _ _ hi fun j hj => by
    by_cases e2 : j = i
    · rw [if_pos e2, e2]
    · rw [if_neg e2]
      unfold abvst
      by_cases h : j < i
      · rw [if_pos h, if_pos h]
      · rw [if_neg h, if_neg h, if_neg e2, if_neg e2]
theorem abv_end {ds : List Dm} {d i : Nat} (hdi : d < i) : abvst ds d i (und ds i).length = fun j => if j < i + 1 then reachB ds d j else false := by
  funext j
  unfold abvst
  by_cases h : j < i
  · rw [if_pos h, if_pos (by omega)]
  · rw [if_neg h]
    by_cases e : j = i
    · subst e
      rw [if_pos rfl, if_pos (by omega), List.take_length]
      apply Bool.eq_iff_iff.2
      rw [reachB_iff, reach_iff]
      simp only [decide_eq_true_eq]
      exact ⟨fun h => .inr h, fun h => h.elim (fun e => by omega) id⟩
    · rw [if_neg e, if_neg (by omega)]
theorem abv_begin {ds : List Dm} (hok : Okd ds) (d : Nat) : (fun j => if j = d then true else false : Nat → Bool) = fun j => if j < d + 1 then reachB ds d j else false := by
  funext j
  by_cases e : j = d
  · subst e
    rw [if_pos rfl, if_pos (by omega)]
    exact (reachB_iff.2 .self).symm
  · rw [if_neg e]
    by_cases h : j < d + 1
    · rw [if_pos h]
      cases hb : reachB ds d j
      · rfl
      · have := (reachB_iff.1 hb).le hok
        omega
    · rw [if_neg h]
set_option maxRecDepth 100000 in
set_option maxHeartbeats 4000000 in
theorem above_any (A : Option Addr) (cap : Nat) (l : List Dmi) (n : Nat) (hn : n = l.length) (hm : mayD l) (hok : Okd (dms l)) (d : Nat) (hd : d < n) (w : World) (B : Nat) (hB : B ≤ w.heap.size) (hs : Domi w B A l) :
    Calls Try.prog 17 #[.slice A n cap, .int .i64 (d : Int)] w fun e w' => e = .returned (.slice (some ⟨w.heap.size, 0, none⟩) n n) ∧ RowAt w' w.heap.size 4 (bools (reachB (dms l) d) n) ∧ Below w.heap.size w w' := by
  have hn256 : n ≤ 256 := by rw [hn]; exact hm.1
  have hmk := make_bools n hn256
  obtain ⟨Z, hZ⟩ : ∃ Z, Z = madeCells #[.bool false] n := ⟨_, rfl⟩
  rw [← hZ] at hmk
  have r0 : RowAt (w.alloc (.cells Z 4)) w.heap.size 4 (bools (fun _ => false) n) := ⟨_, heap_alloc_new _ _, by rw [hZ, bools_none]; exact List.take_of_length_le (Nat.le_refl _)⟩
  have hdi : (d : Int) < (n : Int) := by omega
  have e1 := bools_set (fun _ => false) (fun j => if j = d then true else false) hd (fun j hj => by by_cases e : j = d <;> simp [e])
  rw [if_pos rfl] at e1
  have r1 : RowAt (w.alloc (.cells (Z.setIfInBounds d (.bool true)) 4)) w.heap.size 4 (bools (fun j => if j < d + 1 then reachB (dms l) d j else false) n) := ⟨_, heap_alloc_new _ _, by
    rw [Array.toList_setIfInBounds, hZ, bools_none, e1, abv_begin hok d]; exact List.take_of_length_le (Nat.le_refl _)⟩
  have hb1 : Below w.heap.size w (w.alloc (.cells (Z.setIfInBounds d (.bool true)) 4)) := (Below.refl _ _).alloc (Nat.le_refl _) _
  have k0 := r0.cell (k := d) (by rw [bools_len]; exact hd)
  rw [bools_get _ hd] at k0
  have f0 := r0.frozen d
  have Hn := Lib.hid hn
  have HS := Lib.hid hs
  have HM := Lib.hid hm
  have HOK := Lib.hid hok
  have R1 := Lib.hid r1
  have HB1 := Lib.hid hb1
  clear hn hs hm hok r0 r1 hb1 e1 hZ
  go_enter Try.func17, Try.ntmps17
  go_wp2_with fail
  clear hmk
  go_loopw [6] (fun iv wr => ∃ i : Nat, d < i ∧ i ≤ n ∧ iv = .int .i64 i ∧ RowAt wr w.heap.size 4 (bools (fun j => if j < i then reachB (dms l) d j else false) n) ∧ Below w.heap.size w wr) (fun iv _ => n - (intOf iv).toNat)
  case atStart => exact ⟨d + 1, by omega, by omega, by go_num, R1.out, HB1.out⟩
  case round =>
    obtain ⟨i, hdi2, hin, rfl, hr, hb⟩ := hrel
    clear R1 HB1
    have R := Lib.hid hr
    have HB := Lib.hid hb
    clear hr hb
    by_cases hlt : i < n
    · have hii : (i : Int) < (n : Int) := by omega
      have hil : i < l.length := by rw [← Hn.out]; exact hlt
      obtain ⟨b, off, rfl, hbB, x0, x1, hun⟩ := (HS.out.below (HB.out.mono hB)).at_ hil
      have hgood := HM.out.2 i hil
      have hund : und (dms l) i = l[i].u.map Int.toNat := by
        unfold und dms
        rw [List.getElem?_map, List.getElem?_eq_getElem hil]
        rfl
      obtain ⟨u, hu⟩ : ∃ u, u = l[i].u := ⟨_, rfl⟩
      obtain ⟨m, hm⟩ : ∃ m, m = u.length := ⟨_, rfl⟩
      rw [← hu, ← hm] at x0
      rw [← hu] at hun hgood hund
      generalize l[i].A = a at x0 hun
      generalize l[i].c = c at x0
      have hr0 : RowAt wr w.heap.size 4 (bools (abvst (dms l) d i 0) n) := by rw [abv_zero]; exact R.out
      have hm8 : m ≤ 8 := by have := hgood.1; omega
      have HMM := Lib.hid hm
      have HUN := Lib.hid hun
      have HGOOD := Lib.hid hgood
      have HUND := Lib.hid hund
      have R0 := Lib.hid hr0
      clear hu hm hun x1 hgood hund hr0
      have hbw : b < w.heap.size := by omega
      go_wp2_with fail
      go_loopw [7] (fun kv wr => ∃ k : Nat, k ≤ m ∧ kv = .int .i64 k ∧ RowAt wr w.heap.size 4 (bools (abvst (dms l) d i k) n) ∧ Below w.heap.size w wr ∧ wr.cell? ⟨b, off + i * 2, none⟩ = some (.slice a m c) ∧ Seg wr B a (ints u)) (fun kv _ => m - (intOf kv).toNat)
      case atStart => exact ⟨0, by omega, rfl, R0.out, HB.out, x0, HUN.out⟩
      case round =>
        obtain ⟨k, hk, rfl, hr, hb, y0, hun⟩ := hrel
        clear x0 HUN HB R R0
        have R := Lib.hid hr
        have HB := Lib.hid hb
        have HUN := Lib.hid hun
        clear hr hb hun
        by_cases hkm : k < m
        · have hki : (k : Int) < (m : Int) := by omega
          have hku : k < u.length := by rw [← HMM.out]; exact hkm
          obtain ⟨b2, off2, rfl, hbb2, z0⟩ := HUN.out.ints hku
          obtain ⟨g1, g2, _⟩ := HGOOD.out.2 k hku
          have huk : k < (und (dms l) i).length := by rw [HUND.out, List.length_map]; exact hku
          have hukv : (und (dms l) i)[k] = u[k].toNat := by simp [HUND.out]
          obtain ⟨q, hq⟩ : ∃ q : Nat, u[k] = (q : Int) := ⟨u[k].toNat, (Int.toNat_of_nonneg g1).symm⟩
          have hst := abv_step (d := d) hlt huk
          rw [hukv, hq, Int.toNat_natCast] at hst
          rw [hq] at z0 g2
          have hqi : q < i := by omega
          have hqn : (q : Int) < (n : Int) := by omega
          have c1 := (R.out.cell (k := i) (by rw [bools_len]; exact hlt)).trans (bools_get _ hlt)
          have f1 := R.out.frozen i
          have c2 := (R.out.cell (k := q) (by rw [bools_len]; omega)).trans (bools_get _ (by omega))
          have hqv : abvst (dms l) d i k q = reachB (dms l) d q := by unfold abvst; rw [if_pos hqi]
          rw [hqv] at c2
          have hr2 := R.out.store i (.bool (abvst (dms l) d i k i || reachB (dms l) d q))
          rw [hst] at hr2
          have hb2 : Below w.heap.size w (wr.setCell ⟨w.heap.size, i, none⟩ (.bool (abvst (dms l) d i k i || reachB (dms l) d q))) := HB.out.setCell (p := ⟨w.heap.size, i, none⟩) (Nat.le_refl _) _
          have y0' : (wr.setCell ⟨w.heap.size, i, none⟩ (.bool (abvst (dms l) d i k i || reachB (dms l) d q))).cell? ⟨b, off + i * 2, none⟩ = some (.slice (some ⟨b2, off2, none⟩) m c) := (World.cell?_setCell_other _ _ _ _ (by intro e; injection e; omega)).trans y0
          have hun2 := HUN.out.setCell (p := ⟨w.heap.size, i, none⟩) (show B ≤ w.heap.size from hB) (.bool (abvst (dms l) d i k i || reachB (dms l) d q))
          generalize abvst (dms l) d i k i = p1 at c1 hr2 hb2 y0' hun2
          generalize reachB (dms l) d q = p2 at c2 hr2 hb2 y0' hun2
          have HR2 := Lib.hid hr2
          have HB2 := Lib.hid hb2
          have HY0 := Lib.hid y0'
          have HUN2 := Lib.hid hun2
          clear hr2 hb2 y0' hun2 hst hqv hq hukv huk
          rcases p1 with _ | _
          · rcases p2 with _ | _
            · go_wp2_with fail
              exact ⟨⟨k + 1, by omega, by go_num, HR2.out, HB2.out, HY0.out, HUN2.out⟩, by simp [intOf]; omega⟩
            · go_wp2_with fail
              exact ⟨⟨k + 1, by omega, by go_num, HR2.out, HB2.out, HY0.out, HUN2.out⟩, by simp [intOf]; omega⟩
          · go_wp2_with fail
            exact ⟨⟨k + 1, by omega, by go_num, HR2.out, HB2.out, HY0.out, HUN2.out⟩, by simp [intOf]; omega⟩
        · obtain rfl : k = m := by omega
          go_wp2_with fail
          refine ⟨⟨i + 1, by omega, by omega, by go_num, ?_, HB.out⟩, by simp [intOf]; omega⟩
          have h := R.out
          have e : k = (und (dms l) i).length := by rw [HUND.out, List.length_map]; exact HMM.out
          rw [e, abv_end hdi2] at h
          exact h
    · obtain rfl : i = n := by omega
      go_wp2_with fail
      go_ret
      refine ⟨by rfl, ?_, HB.out⟩
      have e : bools (fun j => if j < i then reachB (dms l) d j else false) i = bools (reachB (dms l) d) i := by
        unfold bools
        refine List.map_congr_left fun j hj => ?_
        show Value.bool (if j < i then reachB (dms l) d j else false) = _
        rw [if_pos (List.mem_range.1 hj)]
      rw [← e]
      exact R.out
end Go.Proofs.Ytghcemfffhjmjaa
