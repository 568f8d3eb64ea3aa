/- told: its plain law and its contract. -/
import Derived.Test.YtbahclnpgdejlaaTurnLaw
import Derived.Test.YtbahclnpgdejlaaChange
import Derived.Test.YtbahclnpgdejlaaHolds
import Derived.Test.YtbahclnpgdejlaaSame
set_option linter.unusedVariables false
namespace Go.Proofs.Ytbahclnpgdejlaa
open Go.RowKit
/-! What is told of a change of rates. -/
theorem chg_pre (was is : List Int) (i : Nat) : ∀ d, ∃ t, chg was is (i + d) = chg was is i ++ t
  | 0 => ⟨[], by simp⟩
  | d + 1 => by
    obtain ⟨t, ht⟩ := chg_pre was is i d
    have e : chg was is (i + (d + 1)) = if was.getD (i + d) 0 = is.getD (i + d) 0 then chg was is (i + d) else chg was is (i + d) ++ [(i + d, was.getD (i + d) 0, is.getD (i + d) 0)] := rfl
    rw [e, ht]
    split
    · exact ⟨t, rfl⟩
    · exact ⟨t ++ [(i + d, was.getD (i + d) 0, is.getD (i + d) 0)], by rw [List.append_assoc]⟩
theorem chg_at (was is : List Int) {i n : Nat} (h : i < n) (hne : was.getD i 0 ≠ is.getD i 0) :
    (chg was is n)[(chg was is i).length]? = some (i, was.getD i 0, is.getD i 0) ∧ (chg was is (i + 1)).length = (chg was is i).length + 1 ∧ (chg was is i).length < (chg was is n).length := by
  have e : chg was is (i + 1) = chg was is i ++ [(i, was.getD i 0, is.getD i 0)] := if_neg hne
  obtain ⟨t, ht⟩ := chg_pre was is (i + 1) (n - (i + 1))
  rw [show i + 1 + (n - (i + 1)) = n by omega, e] at ht
  refine ⟨?_, by rw [e]; simp, by rw [ht]; simp⟩
  rw [ht, List.append_assoc, List.getElem?_append_right (Nat.le_refl _), Nat.sub_self]
  rfl
/-! What is told of turns. -/
theorem upT_mem {was is : List Bool} : ∀ k x, x ∈ upT was is k → ∃ j, j < k ∧ x = ((j : Int), true) ∧ is.getD j false = true ∧ was.getD j false = false
  | k + 1, x, h => by
    have e : upT was is (k + 1) = upT was is k ++ (if is.getD k false && !was.getD k false then [((k : Int), true)] else []) := rfl
    rw [e] at h
    rcases List.mem_append.1 h with h | h
    · obtain ⟨j, hj, h2⟩ := upT_mem k x h
      exact ⟨j, by omega, h2⟩
    · by_cases c : (is.getD k false && !was.getD k false) = true
      · rw [if_pos c] at h
        simp only [Bool.and_eq_true, Bool.not_eq_true'] at c
        exact ⟨k, by omega, by simpa using h, c.1, c.2⟩
      · rw [if_neg c] at h
        cases h
theorem downT_mem {was is : List Bool} {n : Nat} : ∀ d x, d ≤ n → x ∈ downT was is n d → ∃ j, n - d ≤ j ∧ j < n ∧ x = ((j : Int), false) ∧ was.getD j false = true ∧ is.getD j false = false
  | d + 1, x, hd, h => by
    have e : downT was is n (d + 1) = downT was is n d ++ (if was.getD (n - 1 - d) false && !is.getD (n - 1 - d) false then [(((n - 1 - d : Nat) : Int), false)] else []) := rfl
    rw [e] at h
    rcases List.mem_append.1 h with h | h
    · obtain ⟨j, h1, h2, h3⟩ := downT_mem d x (by omega) h
      exact ⟨j, by omega, h2, h3⟩
    · by_cases c : (was.getD (n - 1 - d) false && !is.getD (n - 1 - d) false) = true
      · rw [if_pos c] at h
        simp only [Bool.and_eq_true, Bool.not_eq_true'] at c
        exact ⟨n - 1 - d, by omega, by omega, by simpa using h, c.1, c.2⟩
      · rw [if_neg c] at h
        cases h
theorem upT_nodup {was is : List Bool} : ∀ k, ((upT was is k).map (·.1)).Nodup
  | 0 => by simp [upT]
  | k + 1 => by
    have e : upT was is (k + 1) = upT was is k ++ (if is.getD k false && !was.getD k false then [((k : Int), true)] else []) := rfl
    rw [e, List.map_append, List.nodup_append]
    refine ⟨upT_nodup k, by split <;> simp, ?_⟩
    intro a ha b hb
    obtain ⟨x, hx, rfl⟩ := List.mem_map.1 ha
    obtain ⟨j, hj, rfl, _⟩ := upT_mem k x hx
    split at hb
    · simp at hb
      subst hb
      simp only
      omega
    · simp at hb
theorem downT_nodup {was is : List Bool} {n : Nat} : ∀ d, d ≤ n → ((downT was is n d).map (·.1)).Nodup
  | 0, _ => by simp [downT]
  | d + 1, hd => by
    have e : downT was is n (d + 1) = downT was is n d ++ (if was.getD (n - 1 - d) false && !is.getD (n - 1 - d) false then [(((n - 1 - d : Nat) : Int), false)] else []) := rfl
    rw [e, List.map_append, List.nodup_append]
    refine ⟨downT_nodup d (by omega), by split <;> simp, ?_⟩
    intro a ha b hb
    obtain ⟨x, hx, rfl⟩ := List.mem_map.1 ha
    obtain ⟨j, h1, h2, rfl, _⟩ := downT_mem d x (by omega) hx
    split at hb
    · simp at hb
      subst hb
      simp only
      omega
    · simp at hb
/-- Each turn that is told: a place, that was not so, and is so now; none is told twice. -/
theorem turns_told (was is : List Bool) (n i : Nat) (h : i < (refTurns was is n).length) :
    ∃ (j : Nat) (b : Bool), (refTurns was is n)[i] = ((j : Int), b) ∧ j < n ∧ was.getD j false = !b ∧ is.getD j false = b := by
  have hm : (refTurns was is n)[i] ∈ refTurns was is n := List.getElem_mem h
  rcases List.mem_append.1 hm with h1 | h1
  · obtain ⟨j, hj, e, h2, h3⟩ := upT_mem n _ h1
    exact ⟨j, true, e, hj, h3, h2⟩
  · obtain ⟨j, _, hj, e, h2, h3⟩ := downT_mem n _ (Nat.le_refl _) h1
    exact ⟨j, false, e, hj, h2, h3⟩
theorem turns_once (was is : List Bool) (n i m : Nat) (h : i < (refTurns was is n).length) (hm : m < i) : (refTurns was is n)[m].1 ≠ (refTurns was is n)[i].1 := by
  have hnd : ((refTurns was is n).map (·.1)).Nodup := by
    unfold refTurns
    rw [List.map_append, List.nodup_append]
    refine ⟨upT_nodup n, downT_nodup n (Nat.le_refl _), ?_⟩
    intro a ha b hb
    obtain ⟨x, hx, rfl⟩ := List.mem_map.1 ha
    obtain ⟨y, hy, rfl⟩ := List.mem_map.1 hb
    obtain ⟨j, hj, rfl, h2, _⟩ := upT_mem n x hx
    obtain ⟨k, _, hk, rfl, _, h3⟩ := downT_mem n y (Nat.le_refl _) hy
    simp only
    intro e
    obtain rfl : j = k := by omega
    rw [h2] at h3
    cases h3
  have := List.pairwise_iff_getElem.1 hnd m i (by simp; omega) (by simpa using h) hm
  simpa using this
/-- How many of the first k places have turned. -/
def turned (was is : List Bool) : Nat → Nat
  | 0 => 0
  | k + 1 => turned was is k + (if was.getD k false = is.getD k false then 0 else 1)
def ups (was is : List Bool) : Nat → Nat
  | 0 => 0
  | k + 1 => ups was is k + (if is.getD k false && !was.getD k false then 1 else 0)
theorem turned_eq (was is : List Bool) : ∀ k, turned was is k = ups was is k + ups is was k
  | 0 => rfl
  | k + 1 => by
    unfold turned ups
    rw [turned_eq was is k]
    rcases was.getD k false with _ | _ <;> rcases is.getD k false with _ | _ <;> simp <;> omega
theorem upT_count (was is : List Bool) : ∀ k, (upT was is k).length = ups was is k
  | 0 => rfl
  | k + 1 => by
    have e : upT was is (k + 1) = upT was is k ++ (if is.getD k false && !was.getD k false then [((k : Int), true)] else []) := rfl
    have e3 : ups was is (k + 1) = ups was is k + (if is.getD k false && !was.getD k false then 1 else 0) := rfl
    rw [e, List.length_append, upT_count was is k, e3]
    congr 1
    split <;> rfl
theorem downT_count (was is : List Bool) (n : Nat) : ∀ d, d ≤ n → (downT was is n d).length + ups is was (n - d) = ups is was n
  | 0, _ => by simp [downT]
  | d + 1, hd => by
    have ih := downT_count was is n d (by omega)
    have e : downT was is n (d + 1) = downT was is n d ++ (if was.getD (n - 1 - d) false && !is.getD (n - 1 - d) false then [(((n - 1 - d : Nat) : Int), false)] else []) := rfl
    have e2 : n - d = (n - 1 - d) + 1 := by omega
    have e3 : ups is was (n - 1 - d + 1) = ups is was (n - 1 - d) + (if was.getD (n - 1 - d) false && !is.getD (n - 1 - d) false then 1 else 0) := rfl
    rw [e2, e3] at ih
    rw [e, List.length_append, show n - (d + 1) = n - 1 - d by omega]
    by_cases c : (was.getD (n - 1 - d) false && !is.getD (n - 1 - d) false) = true
    · rw [if_pos c] at ih ⊢; simp; omega
    · rw [if_neg c] at ih ⊢; simp; omega
theorem turns_count (was is : List Bool) (n : Nat) : (refTurns was is n).length = turned was is n := by
  unfold refTurns
  have := downT_count was is n n (Nat.le_refl _)
  rw [Nat.sub_self] at this
  rw [List.length_append, upT_count, turned_eq]
  have e : ups is was 0 = 0 := rfl
  omega
end Go.Proofs.Ytbahclnpgdejlaa

set_option linter.unusedVariables false
namespace Go.Proofs.Ytbahclnpgdejlaa
open Go.RowKit
theorem Seg.bool_ {w : World} {B : Nat} {a : Option Addr} {l : List Bool} (h : Seg w B a (bools l)) {k : Nat} (hk : k < l.length) :
    ∃ b off, a = some ⟨b, off, none⟩ ∧ b < B ∧ w.cell? ⟨b, off + k, none⟩ = some (.bool (l.getD k false)) := by
  obtain ⟨b, off, e, hb, hc⟩ := h (by intro e; have := congrArg List.length e; simp [bools] at this; rw [this] at hk; simp at hk)
  exact ⟨b, off, e, hb, hc k _ (by simp [bools, List.getD, hk])⟩
theorem Seg.i64d {w : World} {B : Nat} {a : Option Addr} {zs : List Int} (h : Seg w B a (i64s zs)) {k : Nat} (hk : k < zs.length) :
    ∃ b off, a = some ⟨b, off, none⟩ ∧ b < B ∧ w.cell? ⟨b, off + k, none⟩ = some (.int .i64 (zs.getD k 0)) := by
  obtain ⟨b, off, e, hb, hc⟩ := h.i64 hk
  exact ⟨b, off, e, hb, by rw [hc]; simp [List.getD, hk]⟩
theorem neq78 (x a b : Int) (W : World) : (binOp .neq 78 (.agg #[.int .i64 x, .int .i64 a, .int .i64 b]) (.agg #[.int .i64 x, .int .i64 a, .int .i64 b])).run Try.prog W = .ok (.bool false) W := by
  go_simp
section
variable {w w' : World} {B nb n : Nat} {Ac Ar Au Ah : Option Addr} {cc cr cu ch bb : Nat} {Al Bu : Option Addr} {cl bu : Nat} {s : St}
set_option maxRecDepth 100000 in
set_option maxHeartbeats 4000000 in
theorem told_any (h : Kept w B nb n Ac Ar Au Ah cc cr cu ch bb Al Bu cl bu s) (rs0 : List Int) (on0 : List Bool) (h1 : n = rs0.length) (h2 : n = on0.length) (A2 A3 A4 A5 : Option Addr) (c2 c3 c4 c5 m4 m5 : Nat) (hm4 : m4 = (chg rs0 s.rs n).length) (hm5 : m5 = (refTurns on0 (onL s.l s.hs 0) n).length) (hl5 : m5 ≤ 1026)
    (B' : Nat) (hB' : B' ≤ w.heap.size) (s2 : Seg w B' A2 (i64s rs0)) (s3 : Seg w B' A3 (bools on0)) (s4 : Seg w B' A4 (chgCells (chg rs0 s.rs n))) (s5 : Seg w B' A5 (turnCells (refTurns on0 (onL s.l s.hs 0) n)))
    (hst : ∀ j, j < n → rs0.getD j 0 ≠ s.rs.getD j 0 → on0.getD j false = true → steadyAt s.l j = false) :
    Calls Try.prog 46 #[.pointer (some ⟨bb, 0, none⟩), .pointer (some ⟨nb, 0, none⟩), .slice A2 n c2, .slice A3 n c3, .slice A4 m4 c4, .slice A5 m5 c5] w fun e w' => e = .returned (.bool true) ∧ Below w.heap.size w w' := by
  have hn5 := h.n5
  have hwas := was_any h.net hn5
  have hlen := h.net.len
  have hlenr := h.net.lenr
  have c0 := h.book.c0
  have HW := Lib.hid hwas
  have HH := Lib.hid h
  have H1 := Lib.hid h1
  have H2 := Lib.hid h2
  have HM4 := Lib.hid hm4
  have HM5 := Lib.hid hm5
  have S2 := Lib.hid s2
  have S3 := Lib.hid s3
  have S4 := Lib.hid s4
  have S5 := Lib.hid s5
  have HST := Lib.hid hst
  have HL := Lib.hid hlen
  have HLR := Lib.hid hlenr
  clear h h1 h2 hm4 hm5 s2 s3 s4 s5 hst hwas hlen hlenr
  go_enter Try.func46, Try.ntmps46
  go_wp2_with (go_at_call 45; refine HW.out.mono ?_; rintro e w1 ⟨rfl, r1, r2, hb1⟩; have R1 := Lib.hid r1; have R2 := Lib.hid r2; have HB1 := Lib.hid hb1; have HK1 := Lib.hid (HH.out.below hb1); have hw1 := hb1.size; clear r1 r2 hb1)
  clear HW c0
  go_loopw [15, 16] (fun kv iv wr => ∃ i : Nat, i ≤ n ∧ iv = .int .i64 i ∧ kv = .int .i64 ((chg rs0 s.rs i).length : Nat) ∧ Below w1.heap.size w1 wr) (fun _ iv _ => n - (intOf iv).toNat)
  case atStart => exact ⟨0, by omega, rfl, rfl, Below.refl _ _⟩
  case round =>
    obtain ⟨i, hi, rfl, rfl, hb⟩ := hrel
    have HB := Lib.hid hb
    have hkept := HK1.out.below hb
    have d0 := hkept.book.c0
    clear hb
    by_cases hlt : i < n
    · have hii : (i : Int) < (n : Int) := by omega
      have hil : i < s.l.length := by rw [← HL.out]; exact hlt
      obtain ⟨b2, o2, rfl, _, x2⟩ := ((S2.out.below (HB1.out.mono hB')).below (HB.out.mono (Nat.le_trans hB' hw1))).i64d (k := i) (by rw [← H1.out]; exact hlt)
      obtain ⟨b3, o3, rfl, _, x3⟩ := ((S3.out.below (HB1.out.mono hB')).below (HB.out.mono (Nat.le_trans hB' hw1))).bool_ (k := i) (by rw [← H2.out]; exact hlt)
      have x1 := (R1.out.below HB.out).cell (k := i) (by rw [i64s_len, ← HLR.out]; exact hlt)
      rw [i64s_get _ _ (by rw [← HLR.out]; exact hlt)] at x1
      obtain ⟨bl, ol, rfl, _, _, _, _, _, _, _, x4⟩ := hkept.book.vl.seg.clk hil
      have hsy : steadyAt s.l i = s.l[i].steady := by simp [steadyAt, hil]
      rw [← hsy] at x4
      have hcat := fun hne => chg_at rs0 s.rs (i := i) (n := n) hlt hne
      have hceq : rs0.getD i 0 = s.rs.getD i 0 → chg rs0 s.rs (i + 1) = chg rs0 s.rs i := fun e => if_pos e
      have hsi := HST.out i hlt
      have hcl := chg_len rs0 s.rs i
      obtain ⟨a, ha⟩ : ∃ a, a = rs0.getD i 0 := ⟨_, rfl⟩
      obtain ⟨b, hb⟩ : ∃ b, b = s.rs.getD i 0 := ⟨_, rfl⟩
      rw [← ha, ← hb] at hceq hsi
      rw [← ha] at x2
      rw [← hb] at x1
      simp only [← ha, ← hb] at hcat
      generalize on0.getD i false = on at *
      generalize steadyAt s.l i = st at *
      have HCA := Lib.hid hcat
      have HCE := Lib.hid hceq
      clear hcat hceq hkept ha hb hsy
      by_cases hab : a = b
      · have e1 : (b == a) = true := by simp [hab]
        have hce := HCE.out hab
        have HC2 := Lib.hid hce
        clear hce hab hsi
        go_wp2_with fail
        go_quiet (fail)
        go_wp2_with fail
        go_roundw
        case rel => exact ⟨i + 1, by omega, by go_num, by rw [HC2.out], below_drewN HB.out _⟩
        case measure => simp [intOf]; omega
      · have e1 : (b == a) = false := by simp; exact fun e => hab e.symm
        obtain ⟨q1, q2, q3⟩ := HCA.out hab
        have hos := hsi hab
        obtain ⟨p, hp⟩ : ∃ p, p = (chg rs0 s.rs i).length := ⟨_, rfl⟩
        rw [← hp] at q1 q2 q3 hcl ⊢
        rw [← HM4.out] at q3
        obtain ⟨b5, o5, rfl, _, y1, y2, y3⟩ := ((S4.out.below (HB1.out.mono hB')).below (HB.out.mono (Nat.le_trans hB' hw1))).chg (k := p) (by rw [← HM4.out]; exact q3)
        have hge : (chg rs0 s.rs n)[p]'(by rw [← HM4.out]; exact q3) = (i, a, b) := by
          rw [List.getElem?_eq_getElem (by rw [← HM4.out]; exact q3)] at q1
          injection q1
        rw [hge] at y1 y2 y3
        simp only at y1 y2 y3
        have hpi : (p : Int) < (m4 : Int) := by omega
        have hnq := neq78 (i : Int) a b
        have Q2 := Lib.hid q2
        clear q1 q2 hge hab hp
        have hcase : on = false ∨ (on = true ∧ st = false) := by
          rcases on with _ | _
          · exact .inl rfl
          · exact .inr ⟨rfl, hos rfl⟩
        clear hos hsi
        rcases hcase with rfl | ⟨rfl, rfl⟩
        all_goals
          go_wp2_with fail
          go_quiet (fail)
          go_wp2_with fail
          refine wp_region_quiet_lit (by kernel_rfl) (by kernel_rfl) ?_
          iterate 37 (first | go_big_quiet_step (fail) | quiet_step (fail))
          all_goals (refine wpQuiet_nil ?_; intro _ hw'; obtain ⟨nq2, hw''⟩ := hw'; subst hw'')
          clear hnq x1 x2 x3 x4 y1 y2 y3 e1
          go_wp2_with fail
          exact ⟨⟨i + 1, by omega, by go_num, by rw [Q2.out]; go_num, below_drewN HB.out _⟩, by simp [intOf]; omega⟩
    · obtain rfl : i = n := by omega
      have hbe := HB1.out.trans (HB.out.mono hw1)
      have HBE := Lib.hid hbe
      have hmm : chg rs0 s.rs i = chg rs0 s.rs i := rfl
      have e4 : (((chg rs0 s.rs i).length : Nat) : Int) = (m4 : Int) := by rw [HM4.out]
      rw [e4]
      clear hkept hbe hmm e4
      go_wp2_with fail
      clear d0
      go_loopw [18] (fun iv wx => ∃ q : Nat, q ≤ m5 ∧ iv = .int .i64 q ∧ Below w1.heap.size w1 wx) (fun iv _ => m5 - (intOf iv).toNat)
      case atStart => exact ⟨0, by omega, rfl, HB.out⟩
      case round =>
        obtain ⟨q, hq, rfl, hbx⟩ := hrel
        have HX := Lib.hid hbx
        clear hbx
        by_cases hlq : q < m5
        · have hqt : q < (refTurns on0 (onL s.l s.hs 0) i).length := by rw [← HM5.out]; exact hlq
          obtain ⟨j, b, hTj, hjn, h3, h4⟩ := turns_told on0 (onL s.l s.hs 0) i q hqt
          obtain ⟨b5, o5, rfl, _, y1, y2⟩ := ((S5.out.below (HB1.out.mono hB')).below (HX.out.mono (Nat.le_trans hB' hw1))).turn hqt
          obtain ⟨b3, o3, rfl, z3, x3⟩ := ((S3.out.below (HB1.out.mono hB')).below (HX.out.mono (Nat.le_trans hB' hw1))).bool_ (k := j) (by rw [← H2.out]; exact hjn)
          have x2 := bools_at (R2.out.below HX.out) (k := j) (by rw [onL_len, ← HL.out]; exact hjn)
          rw [hTj] at y1 y2
          simp only at y1 y2
          rw [h3] at x3
          rw [h4] at x2
          have hji : (j : Int) < (i : Int) := by omega
          have hqi : (q : Int) < (m5 : Int) := by omega
          have honce := fun m hm => turns_once on0 (onL s.l s.hs 0) i q m hqt hm
          rw [hTj] at honce
          have HON := Lib.hid honce
          clear honce hTj h3 h4
          have hxs := HX.out.size
          have hz3 : b3 < wr.heap.size := by omega
          have hz2 : w.heap.size + 1 < wr.heap.size := (R2.out.below HX.out).lt
          have hm0 : ∀ m, m < q → ∃ c : Int, (c == (j : Int)) = false ∧ ∀ wy, Below wr.heap.size wr wy → wy.cell? ⟨b5, o5 + m * 2, none⟩ = some (.int .i64 c) := fun m hm => by
            obtain ⟨b5', o5', e5, hb5, u1, _⟩ := ((S5.out.below (HB1.out.mono hB')).below (HX.out.mono (Nat.le_trans hB' hw1))).turn (k := m) (by omega)
            injection e5 with e5
            injection e5 with e5 e6
            subst e5 e6
            exact ⟨_, by simpa using HON.out m hm, fun wy hy => (hy.cell (by show b5 < wr.heap.size; omega)).trans u1⟩
          have HM0 := Lib.hid hm0
          clear hm0
          rcases b with _ | _
          all_goals
            go_wp2_with fail
            go_quiet (fail)
            go_wp2_with fail
            clear x2 x3 y1 y2 hz2 hz3 z3
            go_loopw [20] (fun mv wy => ∃ m : Nat, m ≤ q ∧ mv = .int .i64 m ∧ wy.cell? ⟨wr.heap.size, 0, none⟩ = some (.int .i64 (j : Int)) ∧ Below wr.heap.size wr wy) (fun mv _ => q - (intOf mv).toNat)
            case atStart => exact ⟨0, by omega, rfl, cell_of_row _ wr.heap.size 0 _ _ (0, 0) (heap_alloc_new wr _), below_drewN ((Below.refl _ _).alloc (Nat.le_refl _) _) _⟩
            case round =>
              obtain ⟨m, hm, rfl, hcx, hby⟩ := hrel
              have HY := Lib.hid hby
              clear hby
              by_cases hlm : m < q
              · obtain ⟨c, hc1, hc2⟩ := HM0.out m hlm
                have y5 := hc2 _ HY.out
                have hmq : (m : Int) < (q : Int) := by omega
                have hm5 : m < m5 := by omega
                have hmi : (m : Int) < (m5 : Int) := by omega
                clear hc2
                go_wp2_with fail
                go_quiet (fail)
                go_wp2_with fail
                go_roundw
                case rel => exact ⟨m + 1, by omega, by go_num, hcx, below_drewN HY.out _⟩
                case measure => simp [intOf]; omega
              · obtain rfl : m = q := by omega
                go_wp2_with fail
                go_roundw
                case rel => exact ⟨m + 1, by omega, by go_num, HX.out.trans (HY.out.mono hxs)⟩
                case measure => simp [intOf]; omega
        · obtain rfl : q = m5 := by omega
          go_wp2_with fail
          go_loopw [17, 21] (fun tv kv wz => ∃ k : Nat, k ≤ i ∧ kv = .int .i64 k ∧ tv = .int .i64 ((turned on0 (onL s.l s.hs 0) k : Nat) : Int) ∧ Below w1.heap.size w1 wz) (fun _ kv _ => i - (intOf kv).toNat)
          case atStart => exact ⟨0, by omega, rfl, rfl, HX.out⟩
          case round =>
            obtain ⟨k, hk, rfl, rfl, hbz⟩ := hrel
            have HZ := Lib.hid hbz
            clear hbz
            by_cases hlk : k < i
            · obtain ⟨b3, o3, rfl, z3, x3⟩ := ((S3.out.below (HB1.out.mono hB')).below (HZ.out.mono (Nat.le_trans hB' hw1))).bool_ (k := k) (by rw [← H2.out]; exact hlk)
              have x2 := bools_at (R2.out.below HZ.out) (k := k) (by rw [onL_len, ← HL.out]; exact hlk)
              have hki : (k : Int) < (i : Int) := by omega
              have hst : turned on0 (onL s.l s.hs 0) (k + 1) = turned on0 (onL s.l s.hs 0) k + (if on0.getD k false = (onL s.l s.hs 0).getD k false then 0 else 1) := rfl
              obtain ⟨T, hT⟩ : ∃ T, T = turned on0 (onL s.l s.hs 0) k := ⟨_, rfl⟩
              have hTb : T ≤ i := by
                have : ∀ m, turned on0 (onL s.l s.hs 0) m ≤ m := fun m => by
                  induction m with
                  | zero => exact Nat.le_refl _
                  | succ m ih => unfold turned; split <;> omega
                have := this k
                omega
              rw [← hT] at hst ⊢
              generalize on0.getD k false = a at *
              generalize (onL s.l s.hs 0).getD k false = b at *
              have HST2 := Lib.hid hst
              clear hst hT
              rcases a with _ | _ <;> rcases b with _ | _
              all_goals
                go_wp2_with fail
                go_quiet (fail)
                go_wp2_with fail
                go_roundw
                case rel => exact ⟨k + 1, by omega, by go_num, by rw [HST2.out]; go_num, below_drewN HZ.out _⟩
                case measure => simp [intOf]; omega
            · obtain rfl : k = i := by omega
              have et : turned on0 (onL s.l s.hs 0) k = q := by rw [← turns_count]; exact HM5.out.symm
              rw [et]
              clear et
              go_wp2_with fail
              go_ret
              exact ⟨rfl, HB1.out.trans (HZ.out.mono hw1)⟩
end
end Go.Proofs.Ytbahclnpgdejlaa
