/- What is free: the document's answer. -/
import Derived.Test.YtdnncpikndgabaaPFree
set_option linter.unusedVariables false
namespace Go.Proofs.Ytdnncpikndgabaa
open Go.RowKit
theorem doc_fuel (os : List Cl) (k u n m a : Nat) (ha : a ≤ u) (hn : u < a + n) (hm : u < a + m) : docF os k u n a = docF os k u m a :=
  gaps_one (doc_gaps os k u n a ha hn) _ (doc_gaps os k u m a ha hm)
def docD (os : List Cl) (k u a : Nat) : List Cl := docF os k u (u + 1 - a) a
theorem docD_step (os : List Cl) {k u a : Nat} (ha : a ≤ u) : docD os k u a = (if (scanF os k u a).2 then [] else [⟨k, a, endF os k u a⟩]) ++ (if endF os k u a = u then [] else docD os k u (endF os k u a + 1)) := by
  obtain ⟨e1, e2⟩ := end_ge os (k := k) ha
  unfold docD
  rw [show u + 1 - a = (u - a) + 1 by omega]
  conv => lhs; unfold docF
  by_cases he : endF os k u a = u
  · rw [if_pos he, if_pos he]
  · rw [if_neg he, if_neg he, doc_fuel os k u (u - a) (u + 1 - (endF os k u a + 1)) _ (by omega) (by omega) (by omega)]
theorem sweep_len (k u : Nat) : ∀ (r : List Cl) (a : Nat), (sweep k u a r).length ≤ r.length + 1
  | [], a => by simp [sweep]
  | c :: r, a => by
    unfold sweep
    rw [List.length_append]
    have h1 : (if a < c.f then [(⟨k, a, c.f - 1⟩ : Cl)] else []).length ≤ 1 := by split <;> simp
    have h2 : (if u ≤ c.t then [] else sweep k u (max a (c.t + 1)) r).length ≤ r.length + 1 := by
      split
      · simp
      · exact sweep_len k u r _
    simp only [List.length_cons]
    omega
theorem doc_len (l : List Ow) {k f t : Nat} (h : f ≤ t) : (docD (l.map Ow.c) k t f).length ≤ l.length + 1 := by
  have hp := List.mergeSort_perm (takenL l ⟨k, f, t⟩) (fun x y => decide (x.f ≤ y.f))
  have hs := List.pairwise_mergeSort (le := fun (x y : Cl) => decide (x.f ≤ y.f)) (fun a b c h1 h2 => by simp only [decide_eq_true_eq] at *; omega) (fun a b => by simp only [Bool.or_eq_true, decide_eq_true_eq]; omega) (takenL l ⟨k, f, t⟩)
  have := sweep_doc (l.map Ow.c) ((takenL l ⟨k, f, t⟩).mergeSort (fun x y => decide (x.f ≤ y.f))) k f t (t + 1 - f) h (by omega) (fun c => by rw [hp.mem_iff]; exact List.mem_filter) (hs.imp fun h => by simpa using h)
  unfold docD
  rw [← this]
  have h1 := sweep_len k t ((takenL l ⟨k, f, t⟩).mergeSort (fun x y => decide (x.f ≤ y.f))) f
  have h2 := taken_len l ⟨k, f, t⟩
  rw [hp.length_eq] at h1
  omega
theorem scan_snoc {l : List Ow} {k t a j : Nat} (hj : j < l.length) : ((l.take (j + 1)).map Ow.c).foldl (scan1 k a) (t, false) = scan1 k a (((l.take j).map Ow.c).foldl (scan1 k a) (t, false)) l[j].c := by
  rw [List.take_succ_eq_append_getElem hj, List.map_append, List.foldl_append]
  rfl
theorem scan_bound {k a N : Nat} : ∀ (l : List Cl) (s : Nat × Bool), (∀ c ∈ l, c.t < N ∧ c.f < N) → s.1 < N → (l.foldl (scan1 k a) s).1 < N
  | [], s, _, h => h
  | c :: r, s, hl, h => by
    have hc := hl c List.mem_cons_self
    refine scan_bound r _ (fun x hx => hl x (List.mem_cons_of_mem _ hx)) ?_
    unfold scan1
    repeat' split
    all_goals first | omega | (simp only; omega) | (simp only; split <;> omega)
section
variable {k a se : Nat} {st : Bool} {c : Cl}
theorem scan_a (h : c.k ≠ k ∨ c.t < c.f) : scan1 k a (se, st) c = (se, st) := by unfold scan1; rw [if_pos h]
theorem scan_b1 (h1 : ¬ (c.k ≠ k ∨ c.t < c.f)) (h2 : c.f ≤ a ∧ a ≤ c.t) : scan1 k a (se, false) c = (c.t, true) := by unfold scan1; rw [if_neg h1, if_pos h2]; simp
theorem scan_b2 (h1 : ¬ (c.k ≠ k ∨ c.t < c.f)) (h2 : c.f ≤ a ∧ a ≤ c.t) (h3 : se < c.t) : scan1 k a (se, true) c = (c.t, true) := by unfold scan1; rw [if_neg h1, if_pos h2]; simp [h3]
theorem scan_b3 (h1 : ¬ (c.k ≠ k ∨ c.t < c.f)) (h2 : c.f ≤ a ∧ a ≤ c.t) (h3 : ¬ se < c.t) : scan1 k a (se, true) c = (se, true) := by unfold scan1; rw [if_neg h1, if_pos h2]; simp [h3]
theorem scan_c1 (h1 : ¬ (c.k ≠ k ∨ c.t < c.f)) (h2 : ¬ (c.f ≤ a ∧ a ≤ c.t)) : scan1 k a (se, true) c = (se, true) := by unfold scan1; rw [if_neg h1, if_neg h2]; simp
theorem scan_c2 (h1 : ¬ (c.k ≠ k ∨ c.t < c.f)) (h2 : ¬ (c.f ≤ a ∧ a ≤ c.t)) (h3 : a < c.f) (h4 : c.f - 1 < se) : scan1 k a (se, false) c = (c.f - 1, false) := by unfold scan1; rw [if_neg h1, if_neg h2]; simp [h3, h4]
theorem scan_c3 (h1 : ¬ (c.k ≠ k ∨ c.t < c.f)) (h2 : ¬ (c.f ≤ a ∧ a ≤ c.t)) (h3 : ¬ (a < c.f ∧ c.f - 1 < se)) : scan1 k a (se, false) c = (se, false) := by
  unfold scan1
  rw [if_neg h1, if_neg h2]
  by_cases g1 : a < c.f
  · have g2 : ¬ c.f - 1 < se := fun g2 => h3 ⟨g1, g2⟩
    simp [g2]
  · simp [g1]
end
theorem rfree_bad {l : List Ow} {k f t : Nat} {w : World} (h : k < 1 ∨ 3 < k ∨ t < f) : FreeR l k f t w (.returned (.tuple #[.slice none 0 0, .int .i64 1])) w := free_bad h
theorem rfree_good {l : List Ow} {k f t : Nat} (h : ¬ (k < 1 ∨ 3 < k ∨ t < f)) : freeE k f t = 0 ∧ freeL l k f t = docD (l.map Ow.c) k t f := by
  unfold freeE freeL docD
  rw [if_neg h, if_neg h]
  exact ⟨rfl, rfl⟩
set_option maxRecDepth 100000 in
set_option maxHeartbeats 4000000 in
theorem rfree_any (A : Option Addr) (cap n : Nat) (l : List Ow) (hn : n = l.length) (hn2 : n * 32 ≤ 140737488355328) (k f t : Nat) (ht : t < 18446744073709551616) (hl : ∀ o ∈ l, o.c.f < 18446744073709551616 ∧ o.c.t < 18446744073709551616) (w : World) (B : Nat) (hB : B ≤ w.heap.size) (hs : Seg w B A (owCells l)) :
    Calls Try.prog 9 #[.slice A n cap, .int .u8 (k : Int), .int .u64 (f : Int), .int .u64 (t : Int)] w fun e w' => FreeR l k f t w e w' := by
  obtain ⟨i0, fi, fz0, fz1, fz2⟩ := info_parts Try.info24
  by_cases c1 : k < 1
  · have b1 : (k : Int) < 1 := by omega
    have HF := Lib.hid (@rfree_bad l k f t w (.inl c1))
    clear c1
    go_enter Try.func9, Try.ntmps9
    go_wp2_with fail
    go_ret2
    exact HF.out
  have b1 : ¬ (k : Int) < 1 := by omega
  by_cases c2 : 3 < k
  · have b2 : 3 < (k : Int) := by omega
    have HF := Lib.hid (@rfree_bad l k f t w (.inr (.inl c2)))
    clear c1 c2
    go_enter Try.func9, Try.ntmps9
    go_wp2_with fail
    go_ret2
    exact HF.out
  have b2 : ¬ 3 < (k : Int) := by omega
  by_cases c3 : t < f
  · have b3 : (t : Int) < (f : Int) := by omega
    have HF := Lib.hid (@rfree_bad l k f t w (.inr (.inr c3)))
    clear c1 c2 c3
    go_enter Try.func9, Try.ntmps9
    go_wp2_with fail
    go_ret2
    exact HF.out
  have b3 : ¬ (t : Int) < (f : Int) := by omega
  have hft : f ≤ t := by omega
  have hdl := doc_len l (k := k) hft
  obtain ⟨e0, e1⟩ := rfree_good (l := l) (show ¬ (k < 1 ∨ 3 < k ∨ t < f) by omega)
  have hbd : ∀ (a j : Nat), (((l.take j).map Ow.c).foldl (scan1 k a) (t, false)).1 < 18446744073709551616 := fun a j => scan_bound _ _ (fun c hc => by
    obtain ⟨o, ho, rfl⟩ := List.mem_map.1 hc
    have := hl o (List.mem_of_mem_take ho)
    exact ⟨this.2, this.1⟩) ht
  have HBD := Lib.hid hbd
  have HE0 := Lib.hid e0
  have HE1 := Lib.hid e1
  have HDL := Lib.hid hdl
  have HN := Lib.hid hn
  have HS := Lib.hid hs
  have HL := Lib.hid hl
  clear c1 c2 c3 hn hs hl hdl e0 e1 hbd
  go_enter Try.func9, Try.ntmps9
  go_wp2_with fail
  go_loopw [10, 11] (fun lv av wr => ∃ (A1 : Option Addr) (c1 : Nat) (ls : List Cl) (a : Nat), a ≤ t ∧ av = .int .u64 a ∧ lv = .slice A1 ls.length c1 ∧
    wr.ownsRow w.heap.size 24 3 (.slice A1 ls.length c1) ls.length (clCells ls) ∧ docD (l.map Ow.c) k t f = ls ++ docD (l.map Ow.c) k t a ∧ Below w.heap.size w wr) (fun _ av _ => t - (intOf av).toNat)
  case atStart => exact ⟨none, 0, [], f, hft, rfl, rfl, World.ownsRow_nil _ _ _ _, rfl, Below.refl _ _⟩
  case round =>
    obtain ⟨A1, c1, ls, a, hat, rfl, rfl, hown, hdoc, hb⟩ := hrel
    obtain ⟨q, hq⟩ : ∃ q, q = ls.length := ⟨_, rfl⟩
    rw [← hq] at hown ⊢
    have HLQ := Lib.hid hq
    have HO := Lib.hid hown
    have HDC := Lib.hid hdoc
    have HB := Lib.hid hb
    have hwr : w.heap.size ≤ wr.heap.size := hb.size
    clear hq hown hdoc hb
    go_wp2_with fail
    go_loopw [12, 13, 14] (fun ev tv iv wx => ∃ (j : Nat), j ≤ n ∧ iv = .int .i64 j ∧ ev = .int .u64 ((((l.take j).map Ow.c).foldl (scan1 k a) (t, false)).1 : Nat) ∧ tv = .bool (((l.take j).map Ow.c).foldl (scan1 k a) (t, false)).2 ∧ Below wr.heap.size wr wx) (fun _ _ iv _ => n - (intOf iv).toNat)
    case atStart => exact ⟨0, by omega, rfl, rfl, rfl, Below.refl _ _⟩
    case round =>
      obtain ⟨j, hj, rfl, rfl, rfl, hb2⟩ := hrel
      obtain ⟨s, hs⟩ : ∃ s, s = ((l.take j).map Ow.c).foldl (scan1 k a) (t, false) := ⟨_, rfl⟩
      have hs1 := HBD.out a j
      rw [← hs] at hs1 ⊢
      obtain ⟨se, st⟩ := s
      simp only at hs1 ⊢
      have HB2 := Lib.hid hb2
      by_cases hjn : j < n
      · have hjl : j < l.length := by rw [← HN.out]; exact hjn
        have hji : (j : Int) < (n : Int) := by omega
        have hnx := scan_snoc (k := k) (t := t) (a := a) hjl
        rw [← hs] at hnx
        obtain ⟨g, off, eA, _, xa⟩ := (HS.out.below ((HB.out.trans (hb2.mono hwr)).mono hB)).thing (f := Ow.cells) (m := 4) ow_len (by omega) hjl
        subst eA
        have x0 : wr.cell? ⟨g, off + j * 4, none⟩ = some (.int .i64 l[j].n) := xa 0 _ rfl
        have x1 : wr.cell? ⟨g, off + j * 4 + 1, none⟩ = some (.int .u8 (l[j].c.k : Int)) := xa 1 _ rfl
        have x2 : wr.cell? ⟨g, off + j * 4 + 2, none⟩ = some (.int .u64 (l[j].c.f : Int)) := xa 2 _ rfl
        have x3 : wr.cell? ⟨g, off + j * 4 + 3, none⟩ = some (.int .u64 (l[j].c.t : Int)) := xa 3 _ rfl
        obtain ⟨hof, hot⟩ := HL.out l[j] (List.getElem_mem hjl)
        generalize l[j] = o at *
        obtain ⟨on, ck, cf, ct⟩ := o
        simp only at x0 x1 x2 x3 hof hot hnx
        obtain ⟨y0, y1, y2⟩ := cl_box wr ck cf ct
        have HNX := Lib.hid hnx
        have HB3 := Lib.hid (hb2.alloc hb2.size (.cells #[.int .u8 (ck : Int), .int .u64 (cf : Int), .int .u64 (ct : Int)] 24))
        clear hnx hb2 xa
        by_cases q1 : ck = k
        · have e1 : ((ck : Int) != (k : Int)) = false := by rw [bne_eq_false_iff_eq]; omega
          have HK := Lib.hid q1
          by_cases q2 : ct < cf
          · have e2 : (ct : Int) < (cf : Int) := by omega
            have HR := Lib.hid (show scan1 k a (se, st) ⟨ck, cf, ct⟩ = (se, st) from scan_a (.inr q2))
            clear hs q1 q2
            go_wp2_with fail
            exact ⟨⟨j + 1, by omega, by go_num, by rw [HNX.out, HR.out], by rw [HNX.out, HR.out], HB3.out⟩, by simp [intOf]; omega⟩
          · have e2 : ¬ (ct : Int) < (cf : Int) := by omega
            have h1 : ¬ (ck ≠ k ∨ ct < cf) := by omega
            by_cases q3 : cf ≤ a
            · have e3 : (cf : Int) ≤ (a : Int) := by omega
              by_cases q4 : a ≤ ct
              · have e4 : (a : Int) ≤ (ct : Int) := by omega
                cases st with
                | false =>
                  have HR := Lib.hid (show scan1 k a (se, false) ⟨ck, cf, ct⟩ = (ct, true) from scan_b1 h1 ⟨q3, q4⟩)
                  clear hs q1 q2 q3 q4 h1
                  go_wp2_with fail
                  exact ⟨⟨j + 1, by omega, by go_num, by rw [HNX.out, HR.out], by rw [HNX.out, HR.out], HB3.out⟩, by simp [intOf]; omega⟩
                | true =>
                  by_cases q5 : se < ct
                  · have e5 : (se : Int) < (ct : Int) := by omega
                    have HR := Lib.hid (show scan1 k a (se, true) ⟨ck, cf, ct⟩ = (ct, true) from scan_b2 h1 ⟨q3, q4⟩ q5)
                    clear hs q1 q2 q3 q4 q5 h1
                    go_wp2_with fail
                    exact ⟨⟨j + 1, by omega, by go_num, by rw [HNX.out, HR.out], by rw [HNX.out, HR.out], HB3.out⟩, by simp [intOf]; omega⟩
                  · have e5 : ¬ (se : Int) < (ct : Int) := by omega
                    have HR := Lib.hid (show scan1 k a (se, true) ⟨ck, cf, ct⟩ = (se, true) from scan_b3 h1 ⟨q3, q4⟩ q5)
                    clear hs q1 q2 q3 q4 q5 h1
                    go_wp2_with fail
                    exact ⟨⟨j + 1, by omega, by go_num, by rw [HNX.out, HR.out], by rw [HNX.out, HR.out], HB3.out⟩, by simp [intOf]; omega⟩
              · have e4 : ¬ (a : Int) ≤ (ct : Int) := by omega
                have e6 : ¬ (a : Int) < (cf : Int) := by omega
                cases st with
                | true =>
                  have HR := Lib.hid (show scan1 k a (se, true) ⟨ck, cf, ct⟩ = (se, true) from scan_c1 h1 (fun h => q4 h.2))
                  clear hs q1 q2 q3 q4 h1
                  go_wp2_with fail
                  exact ⟨⟨j + 1, by omega, by go_num, by rw [HNX.out, HR.out], by rw [HNX.out, HR.out], HB3.out⟩, by simp [intOf]; omega⟩
                | false =>
                  have HR := Lib.hid (show scan1 k a (se, false) ⟨ck, cf, ct⟩ = (se, false) from scan_c3 h1 (fun h => q4 h.2) (fun h => absurd h.1 (Nat.not_lt.2 q3)))
                  clear hs q1 q2 q3 q4 h1
                  go_wp2_with fail
                  exact ⟨⟨j + 1, by omega, by go_num, by rw [HNX.out, HR.out], by rw [HNX.out, HR.out], HB3.out⟩, by simp [intOf]; omega⟩
            · have e3 : ¬ (cf : Int) ≤ (a : Int) := by omega
              have e6 : (a : Int) < (cf : Int) := by omega
              have q6 : a < cf := by omega
              have e7 : (1 : Int) ≤ (cf : Int) := by omega
              cases st with
              | true =>
                have HR := Lib.hid (show scan1 k a (se, true) ⟨ck, cf, ct⟩ = (se, true) from scan_c1 h1 (fun h => q3 h.1))
                clear hs q1 q2 q3 q6 h1
                go_wp2_with fail
                exact ⟨⟨j + 1, by omega, by go_num, by rw [HNX.out, HR.out], by rw [HNX.out, HR.out], HB3.out⟩, by simp [intOf]; omega⟩
              | false =>
                by_cases q7 : cf - 1 < se
                · have e8 : (cf : Int) - 1 < (se : Int) := by omega
                  have HC := Lib.hid (show ((cf - 1 : Nat) : Int) = (cf : Int) - 1 by omega)
                  have HR := Lib.hid (show scan1 k a (se, false) ⟨ck, cf, ct⟩ = (cf - 1, false) from scan_c2 h1 (fun h => q3 h.1) q6 q7)
                  clear hs q1 q2 q3 q6 q7 h1
                  go_wp2_with fail
                  exact ⟨⟨j + 1, by omega, by go_num, by rw [HNX.out, HR.out]; simp only [HC.out], by rw [HNX.out, HR.out], HB3.out⟩, by simp [intOf]; omega⟩
                · have e8 : ¬ (cf : Int) - 1 < (se : Int) := by omega
                  have HR := Lib.hid (show scan1 k a (se, false) ⟨ck, cf, ct⟩ = (se, false) from scan_c3 h1 (fun h => q3 h.1) (fun h => q7 h.2))
                  clear hs q1 q2 q3 q6 q7 h1
                  go_wp2_with fail
                  exact ⟨⟨j + 1, by omega, by go_num, by rw [HNX.out, HR.out], by rw [HNX.out, HR.out], HB3.out⟩, by simp [intOf]; omega⟩
        · have e1 : ((ck : Int) != (k : Int)) = true := by rw [bne_iff_ne]; omega
          have HR := Lib.hid (show scan1 k a (se, st) ⟨ck, cf, ct⟩ = (se, st) by unfold scan1; rw [if_pos (.inl q1)])
          clear hs q1
          go_wp2_with fail
          exact ⟨⟨j + 1, by omega, by go_num, by rw [HNX.out, HR.out], by rw [HNX.out, HR.out], HB3.out⟩, by simp [intOf]; omega⟩
      · obtain rfl : j = n := by omega
        have hsc : scanF (l.map Ow.c) k t a = (se, st) := by
          unfold scanF
          rw [hs, HN.out, List.take_length]
        have hst := docD_step (l.map Ow.c) (k := k) hat
        have hee : endF (l.map Ow.c) k t a = min se t := by unfold endF; rw [hsc]
        have hge := end_ge (l.map Ow.c) (k := k) hat
        rw [hsc] at hst
        have hok := own_keep HO.out fun g _ hlt => hb2.block g hlt
        have hwx : w.heap.size ≤ wr.heap.size := Nat.le_trans hwr hb2.size
        have hbx := HB.out.trans (hb2.mono hwr)
        have hqn : st = false → q ≤ j := fun h => by
          have h1 := HDL.out
          rw [HDC.out, List.length_append, hst, h, ← HLQ.out, ← HN.out] at h1
          simp at h1
          omega
        have HOK := Lib.hid hok
        have HBX := Lib.hid hbx
        have HST := Lib.hid hst
        clear hs hsc hb2 hok hbx hst HB2 hjn hj
        by_cases r1 : t < se
        · have e1 : (t : Int) < (se : Int) := by omega
          have HEE := Lib.hid (show endF (l.map Ow.c) k t a = t by rw [hee]; omega)
          clear hee hge
          cases st with
          | true =>
            have HO6 := HOK
            have HB6 := HBX
            have hD : docD (l.map Ow.c) k t f = ls := by
              rw [HDC.out, HST.out, HEE.out]
              simp
            have HD := Lib.hid hD
            clear hD
            go_wp2_with fail
            go_ret2
            refine ⟨⟨A1, q, c1, by rw [HE0.out]; rfl, ?_⟩, HB6.out⟩
            rw [HE1.out, HD.out]
            exact HO6.out
          | false =>
            have hq2 := hqn rfl
            clear hqn
            go_wp2_with (first
              | (at_builtin
                 refine wpList_push rfl (.tmp 95) (.tmp 100) 25 rfl w.heap.size 24 i0 _ 3 24 Try.underlying25 fi fz0 fz1 fz2 rfl (by decide) _ q (clCells ls) rfl HOK.out #[.int .u8 (k : Int), .int .u64 (a : Int), .int .u64 (t : Int)] rfl rfl ?_ ?_ ?_ ?_ ?_))
            · first | exact ⟨rfl, rfl, rfl⟩ | (intro u hu; simp at hu; rcases hu with rfl | rfl | rfl <;> rfl)
            · unfold maxLen; omega
            · omega
            intro A5 c5 w5 hown5 hp5
            have hown6 : w5.ownsRow w.heap.size 24 3 (.slice A5 (q + 1) c5) (q + 1) (clCells (ls ++ [⟨k, a, t⟩])) := by
              rw [cl_push]
              exact hown5
            have HO6 := Lib.hid hown6
            have HB6 := Lib.hid (HBX.out.trans hp5.low)
            have HQ5 := Lib.hid (show q + 1 = (ls ++ [⟨k, a, t⟩] : List Cl).length by rw [List.length_append, List.length_singleton, ← HLQ.out])
            clear hown5 hp5 hown6
            have hD : docD (l.map Ow.c) k t f = ls ++ [⟨k, a, t⟩] := by
              rw [HDC.out, HST.out, HEE.out]
              simp
            have HD := Lib.hid hD
            clear hD
            go_wp2_with fail
            go_ret2
            refine ⟨⟨A5, q + 1, c5, by rw [HE0.out]; rfl, ?_⟩, HB6.out⟩
            rw [HE1.out, HD.out]
            exact HO6.out
        · have e1 : ¬ (t : Int) < (se : Int) := by omega
          have HEE := Lib.hid (show endF (l.map Ow.c) k t a = se by rw [hee]; omega)
          have hase : a ≤ se := by have := hge.1; rw [HEE.out] at this; exact this
          clear hee hge
          by_cases hne : se = t
          · have e2 : ((se : Int) == (t : Int)) = true := by rw [beq_iff_eq]; omega
            have HNE := Lib.hid hne
            clear hne
            cases st with
            | true =>
              have HO6 := HOK
              have HB6 := HBX
              have hD : docD (l.map Ow.c) k t f = ls := by
                rw [HDC.out, HST.out, HEE.out]
                simp [HNE.out]
              have HD := Lib.hid hD
              clear hD
              go_wp2_with fail
              go_ret2
              refine ⟨⟨A1, q, c1, by rw [HE0.out]; rfl, ?_⟩, HB6.out⟩
              rw [HE1.out, HD.out]
              exact HO6.out
            | false =>
              have hq2 := hqn rfl
              clear hqn
              go_wp2_with (first
                | (at_builtin
                   refine wpList_push rfl (.tmp 95) (.tmp 100) 25 rfl w.heap.size 24 i0 _ 3 24 Try.underlying25 fi fz0 fz1 fz2 rfl (by decide) _ q (clCells ls) rfl HOK.out #[.int .u8 (k : Int), .int .u64 (a : Int), .int .u64 (se : Int)] rfl rfl ?_ ?_ ?_ ?_ ?_))
              · first | exact ⟨rfl, rfl, rfl⟩ | (intro u hu; simp at hu; rcases hu with rfl | rfl | rfl <;> rfl)
              · unfold maxLen; omega
              · omega
              intro A5 c5 w5 hown5 hp5
              have hown6 : w5.ownsRow w.heap.size 24 3 (.slice A5 (q + 1) c5) (q + 1) (clCells (ls ++ [⟨k, a, se⟩])) := by
                rw [cl_push]
                exact hown5
              have HO6 := Lib.hid hown6
              have HB6 := Lib.hid (HBX.out.trans hp5.low)
              have HQ5 := Lib.hid (show q + 1 = (ls ++ [⟨k, a, se⟩] : List Cl).length by rw [List.length_append, List.length_singleton, ← HLQ.out])
              clear hown5 hp5 hown6
              have hD : docD (l.map Ow.c) k t f = ls ++ [⟨k, a, se⟩] := by
                rw [HDC.out, HST.out, HEE.out]
                simp [HNE.out]
              have HD := Lib.hid hD
              clear hD
              go_wp2_with fail
              go_ret2
              refine ⟨⟨A5, q + 1, c5, by rw [HE0.out]; rfl, ?_⟩, HB6.out⟩
              rw [HE1.out, HD.out]
              exact HO6.out
          · have e2 : ((se : Int) == (t : Int)) = false := by rw [beq_eq_false_iff_ne]; omega
            have hlt : se < t := by omega
            cases st with
            | true =>
              have HO6 := HOK
              have HB6 := HBX
              have hD : docD (l.map Ow.c) k t f = ls ++ docD (l.map Ow.c) k t (se + 1) := by
                rw [HDC.out, HST.out, HEE.out]
                simp [hne]
              have HD := Lib.hid hD
              have hwr1 : IntKind.u64.wrap ((se : Int) + 1) = (se : Int) + 1 := IntWalk.u64_in _ (by omega)
              clear hD
              go_wp2_with fail
              exact ⟨⟨A1, c1, ls, se + 1, by omega, by go_num, by rw [← HLQ.out], by rw [← HLQ.out]; exact HO6.out, HD.out, HB6.out⟩, by simp [intOf]; omega⟩
            | false =>
              have hq2 := hqn rfl
              clear hqn
              go_wp2_with (first
                | (at_builtin
                   refine wpList_push rfl (.tmp 95) (.tmp 100) 25 rfl w.heap.size 24 i0 _ 3 24 Try.underlying25 fi fz0 fz1 fz2 rfl (by decide) _ q (clCells ls) rfl HOK.out #[.int .u8 (k : Int), .int .u64 (a : Int), .int .u64 (se : Int)] rfl rfl ?_ ?_ ?_ ?_ ?_))
              · first | exact ⟨rfl, rfl, rfl⟩ | (intro u hu; simp at hu; rcases hu with rfl | rfl | rfl <;> rfl)
              · unfold maxLen; omega
              · omega
              intro A5 c5 w5 hown5 hp5
              have hown6 : w5.ownsRow w.heap.size 24 3 (.slice A5 (q + 1) c5) (q + 1) (clCells (ls ++ [⟨k, a, se⟩])) := by
                rw [cl_push]
                exact hown5
              have HO6 := Lib.hid hown6
              have HB6 := Lib.hid (HBX.out.trans hp5.low)
              have HQ5 := Lib.hid (show q + 1 = (ls ++ [⟨k, a, se⟩] : List Cl).length by rw [List.length_append, List.length_singleton, ← HLQ.out])
              clear hown5 hp5 hown6
              have hD : docD (l.map Ow.c) k t f = ls ++ [⟨k, a, se⟩] ++ docD (l.map Ow.c) k t (se + 1) := by
                rw [HDC.out, HST.out, HEE.out]
                simp [hne]
              have HD := Lib.hid hD
              have hwr1 : IntKind.u64.wrap ((se : Int) + 1) = (se : Int) + 1 := IntWalk.u64_in _ (by omega)
              clear hD
              go_wp2_with fail
              exact ⟨⟨A5, c5, ls ++ [⟨k, a, se⟩], se + 1, by omega, by go_num, by rw [← HQ5.out], by rw [← HQ5.out]; exact HO6.out, HD.out, HB6.out⟩, by simp [intOf]; omega⟩
end Go.Proofs.Ytdnncpikndgabaa
