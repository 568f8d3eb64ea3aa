/- What is free: the program's answer. -/
import Derived.Test.YtdnncpikndgabaaSrt
import Derived.Test.YtdnncpikndgabaaWho
set_option linter.unusedVariables false
namespace Go.Proofs.Ytdnncpikndgabaa
open Go.RowKit
theorem Try.info24 : (Try.prog.info? 24).map (fun i => (i.zero, i.size, i.bytes)) = some (some (.agg #[.int .u8 0, .int .u64 0, .int .u64 0]), 3, 24) := by kernel_rfl
theorem own_base {w : World} {base base' : Nat} {e : TypeId} {size n : Nat} {v : Value} {xs : List Value} (h : w.ownsRow base e size v n xs) (hb : base' ≤ base) : w.ownsRow base' e size v n xs := by
  refine ⟨h.1, ?_⟩
  rcases h.2 with h2 | ⟨g, cap, cur, a1, a2, a3⟩
  · exact .inl h2
  · exact .inr ⟨g, cap, cur, a1, by omega, a3⟩
def freeE (k f t : Nat) : Int := if k < 1 ∨ 3 < k ∨ t < f then 1 else 0
def freeL (l : List Ow) (k f t : Nat) : List Cl := if k < 1 ∨ 3 < k ∨ t < f then [] else docF (l.map Ow.c) k t (t + 1 - f) f
/-- What is given back: a list of the call's own. -/
def FreeR (l : List Ow) (k f t : Nat) (w : World) (e : Ending) (w' : World) : Prop :=
  (∃ (A' : Option Addr) (m c' : Nat), e = .returned (.tuple #[.slice A' m c', .int .i64 (freeE k f t)]) ∧ w'.ownsRow w.heap.size 24 3 (.slice A' m c') m (clCells (freeL l k f t))) ∧ Below w.heap.size w w'
def takenL (l : List Ow) (x : Cl) : List Cl := (l.map Ow.c).filter fun c => meetB c x
theorem taken_next {l : List Ow} {x : Cl} {k : Nat} (hk : k < l.length) : takenL (l.take (k + 1)) x = takenL (l.take k) x ++ (if meetB l[k].c x then [l[k].c] else []) := by
  unfold takenL
  rw [List.take_succ_eq_append_getElem hk, List.map_append, List.filter_append]
  simp [List.filter_cons]
theorem taken_len (l : List Ow) (x : Cl) : (takenL l x).length ≤ l.length := by
  unfold takenL
  have := List.length_filter_le (fun c => meetB c x) (l.map Ow.c)
  simpa using this
theorem taken_kind {l : List Ow} {k f t : Nat} : ∀ x ∈ takenL l ⟨k, f, t⟩, x.k = k := by
  intro x hx
  have := (List.mem_filter.1 hx).2
  simp only [meetB, Bool.and_eq_true, decide_eq_true_eq] at this
  exact this.1.1.1.1
theorem cl_push (l : List Cl) (c : Cl) : clCells (l ++ [c]) = clCells l ++ #[Value.int .u8 (c.k : Int), .int .u64 (c.f : Int), .int .u64 (c.t : Int)].toList := by
  simp [clCells, Cl.cells]
/-- An owner laid in a block of its own. -/
theorem ow_box (w : World) (n : Int) (k f t : Nat) : (w.alloc (.cells #[.int .i64 n, .int .u8 (k : Int), .int .u64 (f : Int), .int .u64 (t : Int)] 30)).cell? ⟨w.heap.size, 1, none⟩ = some (.int .u8 (k : Int)) ∧
    (w.alloc (.cells #[.int .i64 n, .int .u8 (k : Int), .int .u64 (f : Int), .int .u64 (t : Int)] 30)).cell? ⟨w.heap.size, 2, none⟩ = some (.int .u64 (f : Int)) ∧
    (w.alloc (.cells #[.int .i64 n, .int .u8 (k : Int), .int .u64 (f : Int), .int .u64 (t : Int)] 30)).cell? ⟨w.heap.size, 3, none⟩ = some (.int .u64 (t : Int)) := by
  refine ⟨?_, ?_, ?_⟩ <;> (rw [cell_of_row _ _ _ _ _ (0, 0) (heap_alloc_new w _)]; rfl)
theorem cl_box (w : World) (k f t : Nat) : (w.alloc (.cells #[.int .u8 (k : Int), .int .u64 (f : Int), .int .u64 (t : Int)] 24)).cell? ⟨w.heap.size, 0, none⟩ = some (.int .u8 (k : Int)) ∧
    (w.alloc (.cells #[.int .u8 (k : Int), .int .u64 (f : Int), .int .u64 (t : Int)] 24)).cell? ⟨w.heap.size, 1, none⟩ = some (.int .u64 (f : Int)) ∧
    (w.alloc (.cells #[.int .u8 (k : Int), .int .u64 (f : Int), .int .u64 (t : Int)] 24)).cell? ⟨w.heap.size, 2, none⟩ = some (.int .u64 (t : Int)) := by
  refine ⟨?_, ?_, ?_⟩ <;> (rw [cell_of_row _ _ _ _ _ (0, 0) (heap_alloc_new w _)]; rfl)
theorem free_bad {l : List Ow} {k f t : Nat} {w : World} (h : k < 1 ∨ 3 < k ∨ t < f) : FreeR l k f t w (.returned (.tuple #[.slice none 0 0, .int .i64 1])) w := by
  refine ⟨⟨none, 0, 0, ?_, ?_⟩, Below.refl _ _⟩
  · unfold freeE; rw [if_pos h]
  · unfold freeL; rw [if_pos h]; exact World.ownsRow_nil _ _ _ _
theorem free_good {l : List Ow} {k f t : Nat} (h : ¬ (k < 1 ∨ 3 < k ∨ t < f)) {qs : List Cl} (hp : qs.Perm (takenL l ⟨k, f, t⟩)) (hs : qs.Pairwise fun x y => x.f ≤ y.f) : freeE k f t = 0 ∧ freeL l k f t = sweep k t f qs := by
  unfold freeE freeL
  rw [if_neg h, if_neg h]
  refine ⟨rfl, (sweep_doc _ qs k f t _ (by omega) (by omega) (fun c => ?_) hs).symm⟩
  rw [hp.mem_iff]
  exact List.mem_filter
set_option maxRecDepth 100000 in
set_option maxHeartbeats 4000000 in
theorem pfree_any (A : Option Addr) (cap n : Nat) (l : List Ow) (hn : n = l.length) (hn2 : n * 32 ≤ 140737488355328) (k f t : Nat) (ht : t < 18446744073709551616) (hl : ∀ o ∈ l, o.c.f < 18446744073709551616 ∧ o.c.t < 18446744073709551616) (w : World) (B : Nat) (hB : B ≤ w.heap.size) (hs : Seg w B A (owCells l)) :
    Calls Try.prog 5 #[.slice A n cap, .int .u8 (k : Int), .int .u64 (f : Int), .int .u64 (t : Int)] w fun e w' => FreeR l k f t w e w' := by
  obtain ⟨i0, fi, fz0, fz1, fz2⟩ := info_parts Try.info24
  by_cases c1 : k < 1
  · have b1 : (k : Int) < 1 := by omega
    have HF := Lib.hid (@free_bad l k f t w (.inl c1))
    clear c1
    go_enter Try.func5, Try.ntmps5
    go_wp2_with fail
    go_ret2
    exact HF.out
  have b1 : ¬ (k : Int) < 1 := by omega
  by_cases c2 : 3 < k
  · have b2 : 3 < (k : Int) := by omega
    have HF := Lib.hid (@free_bad l k f t w (.inr (.inl c2)))
    clear c1 c2
    go_enter Try.func5, Try.ntmps5
    go_wp2_with fail
    go_ret2
    exact HF.out
  have b2 : ¬ 3 < (k : Int) := by omega
  by_cases c3 : t < f
  · have b3 : (t : Int) < (f : Int) := by omega
    have HF := Lib.hid (@free_bad l k f t w (.inr (.inr c3)))
    clear c1 c2 c3
    go_enter Try.func5, Try.ntmps5
    go_wp2_with fail
    go_ret2
    exact HF.out
  have b3 : ¬ (t : Int) < (f : Int) := by omega
  have HG := Lib.hid (show ¬ (k < 1 ∨ 3 < k ∨ t < f) by omega)
  have HN := Lib.hid hn
  have HS := Lib.hid hs
  have HL := Lib.hid hl
  clear c1 c2 hn hs hl
  go_enter Try.func5, Try.ntmps5
  go_wp2_with fail
  go_loopw [10, 30] (fun tv iv wr => ∃ (j : Nat) (A1 : Option Addr) (c1 : Nat), j ≤ n ∧ iv = .int .i64 j ∧ tv = .slice A1 (takenL (l.take j) ⟨k, f, t⟩).length c1 ∧
    wr.ownsRow w.heap.size 24 3 (.slice A1 (takenL (l.take j) ⟨k, f, t⟩).length c1) (takenL (l.take j) ⟨k, f, t⟩).length (clCells (takenL (l.take j) ⟨k, f, t⟩)) ∧ Below w.heap.size w wr) (fun _ iv _ => n - (intOf iv).toNat)
  case atStart => exact ⟨0, none, 0, by omega, rfl, rfl, World.ownsRow_nil _ _ _ _, Below.refl _ _⟩
  case round =>
    obtain ⟨j, A1, c1, hj, rfl, rfl, hown, hb⟩ := hrel
    obtain ⟨ts, hts⟩ : ∃ ts, ts = takenL (l.take j) ⟨k, f, t⟩ := ⟨_, rfl⟩
    rw [← hts] at hown ⊢
    obtain ⟨m, hm⟩ : ∃ m, m = ts.length := ⟨_, rfl⟩
    rw [← hm] at hown ⊢
    have hmj : m ≤ j := by rw [hm, hts]; refine Nat.le_trans (taken_len _ _) ?_; simp; omega
    have HT := Lib.hid hts
    have HM := Lib.hid hm
    have HO := Lib.hid hown
    have HB := Lib.hid hb
    have hwr : w.heap.size ≤ wr.heap.size := hb.size
    by_cases hjn : j < n
    · have hjl : j < l.length := by rw [← HN.out]; exact hjn
      have hji : (j : Int) < (n : Int) := by omega
      obtain ⟨g, off, eA, _, xa⟩ := (HS.out.below (hb.mono hB)).thing (f := Ow.cells) (m := 4) ow_len (by omega) hjl
      subst eA
      have x0 : wr.cell? ⟨g, off + j * 4, none⟩ = some (.int .i64 l[j].n) := xa 0 _ rfl
      have x1 : wr.cell? ⟨g, off + j * 4 + 1, none⟩ = some (.int .u8 (l[j].c.k : Int)) := xa 1 _ rfl
      have x2 : wr.cell? ⟨g, off + j * 4 + 2, none⟩ = some (.int .u64 (l[j].c.f : Int)) := xa 2 _ rfl
      have x3 : wr.cell? ⟨g, off + j * 4 + 3, none⟩ = some (.int .u64 (l[j].c.t : Int)) := xa 3 _ rfl
      obtain ⟨o, ho⟩ : ∃ o, o = l[j] := ⟨_, rfl⟩
      rw [← ho] at x0 x1 x2 x3
      obtain ⟨on, ck, cf, ct⟩ := o
      simp only at x0 x1 x2 x3
      obtain ⟨y1, y2, y3⟩ := ow_box wr on ck cf ct
      have hmt := pmeet_any ⟨ck, cf, ct⟩ ⟨k, f, t⟩ (wr.alloc (.cells #[.int .i64 on, .int .u8 (ck : Int), .int .u64 (cf : Int), .int .u64 (ct : Int)] 30))
      have hsz : (wr.alloc (.cells #[.int .i64 on, .int .u8 (ck : Int), .int .u64 (cf : Int), .int .u64 (ct : Int)] 30)).heap.size = wr.heap.size + 1 := by simp
      have hba : Below wr.heap.size wr (wr.alloc (.cells #[.int .i64 on, .int .u8 (ck : Int), .int .u64 (cf : Int), .int .u64 (ct : Int)] 30)) := (Below.refl _ wr).alloc (Nat.le_refl _) _
      have hnx := taken_next (x := ⟨k, f, t⟩) hjl
      rw [← ho, ← hts] at hnx
      generalize hq : meetB ⟨ck, cf, ct⟩ ⟨k, f, t⟩ = q at hmt
      simp only [hq] at hnx
      have HX := Lib.hid hnx
      have HA := Lib.hid hba
      rw [hsz] at hmt
      have HMT := Lib.hid hmt
      clear xa hb ho hq hts hm hown hnx hba hsz hmt
      cases q with
      | true =>
        go_wp2_with (first
          | (go_at_call 6
             refine HMT.out.mono ?_
             rintro e w2 ⟨rfl, hb2⟩
             have z1 := (hb2.cell (p := ⟨wr.heap.size, 1, none⟩) (by simp)).trans y1
             have z2 := (hb2.cell (p := ⟨wr.heap.size, 2, none⟩) (by simp)).trans y2
             have z3 := (hb2.cell (p := ⟨wr.heap.size, 3, none⟩) (by simp)).trans y3
             have hb3 : Below wr.heap.size wr w2 := HA.out.trans (hb2.mono (by omega))
             have HO2 := Lib.hid (own_keep HO.out fun g _ hlt => hb3.block g hlt)
             have HB2 := Lib.hid (below_next HB.out hb3)
             have hw2 : wr.heap.size ≤ w2.heap.size := hb3.size
             clear hb2 hb3)
          | (at_builtin
             refine wpList_push rfl (.tmp 41) (.tmp 44) 25 rfl w.heap.size 24 i0 _ 3 24 Try.underlying25 fi fz0 fz1 fz2 rfl (by decide) _ m (clCells ts) rfl HO2.out #[.int .u8 (ck : Int), .int .u64 (cf : Int), .int .u64 (ct : Int)] rfl rfl ?_ ?_ ?_ ?_ ?_))
        · first | exact ⟨rfl, rfl, rfl⟩ | (intro u hu; simp at hu; rcases hu with rfl | rfl | rfl <;> rfl)
        · unfold maxLen; omega
        · omega
        · first | exact Nat.le_trans hwr hw2 | (simp; omega)
        intro A5 c5 w5 hown5 hp5
        have hx : takenL (l.take (j + 1)) ⟨k, f, t⟩ = ts ++ [⟨ck, cf, ct⟩] := by rw [HX.out, if_pos trivial]
        have hfin : w5.ownsRow w.heap.size 24 3 (.slice A5 (takenL (l.take (j + 1)) ⟨k, f, t⟩).length c5) (takenL (l.take (j + 1)) ⟨k, f, t⟩).length (clCells (takenL (l.take (j + 1)) ⟨k, f, t⟩)) := by
          rw [hx, cl_push, List.length_append, List.length_singleton, ← HM.out]
          exact hown5
        have hlen : (takenL (l.take (j + 1)) ⟨k, f, t⟩).length = m + 1 := by rw [hx, List.length_append, List.length_singleton, ← HM.out]
        have HF := Lib.hid hfin
        have HL2 := Lib.hid hlen
        have HB5 := Lib.hid (HB2.out.trans hp5.low)
        clear hown5 hp5 hx hfin hlen x0 x1 x2 x3 y1 y2 y3 z1 z2 z3
        go_wp2_with fail
        exact ⟨⟨j + 1, A5, c5, by omega, by go_num, by rw [HL2.out], HF.out, HB5.out⟩, by simp [intOf]; omega⟩
      | false =>
        go_wp2_with (first
          | (go_at_call 6
             refine HMT.out.mono ?_
             rintro e w2 ⟨rfl, hb2⟩
             have hb3 : Below wr.heap.size wr w2 := HA.out.trans (hb2.mono (by omega))
             have HO2 := Lib.hid (own_keep HO.out fun g _ hlt => hb3.block g hlt)
             have HB2 := Lib.hid (below_next HB.out hb3)
             clear hb2 hb3))
        have hx : takenL (l.take (j + 1)) ⟨k, f, t⟩ = ts := by rw [HX.out, if_neg (by decide), List.append_nil]
        refine ⟨⟨j + 1, A1, c1, by omega, by go_num, by rw [hx, ← HM.out], ?_, HB2.out⟩, by simp [intOf]; omega⟩
        rw [hx, ← HM.out]
        exact HO2.out
    · obtain rfl : j = n := by omega
      have hsrt := sort_any A1 m c1 ts wr w.heap.size HO.out (by omega) k (by rw [HT.out]; exact taken_kind)
      have HSRT := Lib.hid hsrt
      have HTS := Lib.hid (show ts = takenL l ⟨k, f, t⟩ by rw [HT.out, HN.out, List.take_length])
      clear hb hown hm hts hsrt HT hjn
      go_wp2_with fail
      refine HSRT.out.mono ?_
      rintro e w2 ⟨rfl, qs, hperm, hsort, hown2, hfr⟩
      have hlo : w.heap.size ≤ w2.heap.size := Nat.le_trans hwr hfr.size
      have hb2 : Below w.heap.size w w2 := HB.out.trans (hfr.toBelow hwr fun g hg hs => by have := (HO.out.lt g (own1_val.2 hs)).1; omega)
      have hqm : m = qs.length := by rw [HM.out]; exact hperm.length_eq.symm
      obtain ⟨e0, e1⟩ := free_good HG.out (hperm.trans (by rw [HTS.out])) hsort
      have hmem : ∀ c ∈ qs, c.f < 18446744073709551616 ∧ c.t < 18446744073709551616 := fun c hc => by
        have h1 := hperm.subset hc
        rw [HTS.out] at h1
        obtain ⟨o, ho, rfl⟩ := List.mem_map.1 (List.mem_filter.1 h1).1
        exact HL.out o ho
      have HQ := Lib.hid hqm
      have HE0 := Lib.hid e0
      have HE1 := Lib.hid e1
      have HOW := Lib.hid hown2
      have HB2 := Lib.hid hb2
      have HME := Lib.hid hmem
      clear hperm hsort hown2 hfr hb2 hqm e0 e1 hmem HO HB HM HSRT HTS HS HL
      go_wp2_with fail
      go_loopw [13, 14, 52] (fun lv av iv wx => ∃ (j : Nat) (A3 : Option Addr) (c3 : Nat) (ls : List Cl) (a : Nat), j ≤ m ∧ iv = .int .i64 j ∧ av = .int .u64 a ∧ a ≤ t ∧ ls.length ≤ j ∧ lv = .slice A3 ls.length c3 ∧
        wx.ownsRow w2.heap.size 24 3 (.slice A3 ls.length c3) ls.length (clCells ls) ∧ sweep k t f qs = ls ++ sweep k t a (qs.drop j) ∧ Below w2.heap.size w2 wx) (fun _ _ iv _ => m - (intOf iv).toNat)
      case atStart => exact ⟨0, none, 0, [], f, by omega, rfl, rfl, by omega, by simp, rfl, World.ownsRow_nil _ _ _ _, by simp, Below.refl _ _⟩
      case round =>
        obtain ⟨i, A3, c4, ls, a, hi, rfl, rfl, hat, hls, rfl, hown3, hsw, hb3⟩ := hrel
        obtain ⟨q, hq⟩ : ∃ q, q = ls.length := ⟨_, rfl⟩
        rw [← hq] at hown3 hls ⊢
        have HLQ := Lib.hid hq
        have HO3 := Lib.hid hown3
        have HSW := Lib.hid hsw
        have HB3 := Lib.hid hb3
        have hw2r : w2.heap.size ≤ wr.heap.size := hb3.size
        have hqs := own_seg (own_keep HOW.out fun g _ hlt => hb3.block g hlt)
        clear hq hown3 hsw
        by_cases him : i < m
        · have hiq : i < qs.length := by rw [← HQ.out]; exact him
          have hii : (i : Int) < (m : Int) := by omega
          obtain ⟨g, off, eA, _, xa⟩ := hqs.thing (f := Cl.cells) (m := 3) cl_len (by omega) hiq
          have HOW' := Lib.hid HOW.out
          subst eA
          have x0 : wr.cell? ⟨g, off + i * 3, none⟩ = some (.int .u8 (qs[i].k : Int)) := xa 0 _ rfl
          have x1 : wr.cell? ⟨g, off + i * 3 + 1, none⟩ = some (.int .u64 (qs[i].f : Int)) := xa 1 _ rfl
          have x2 : wr.cell? ⟨g, off + i * 3 + 2, none⟩ = some (.int .u64 (qs[i].t : Int)) := xa 2 _ rfl
          obtain ⟨d, hd⟩ : ∃ d, d = qs[i] := ⟨_, rfl⟩
          obtain ⟨hdf, hdt⟩ := HME.out qs[i] (List.getElem_mem hiq)
          have hdrop : sweep k t a (qs.drop i) = (if a < qs[i].f then [⟨k, a, qs[i].f - 1⟩] else []) ++ (if t ≤ qs[i].t then [] else sweep k t (max a (qs[i].t + 1)) (qs.drop (i + 1))) := by
            rw [List.drop_eq_getElem_cons hiq]
            rfl
          rw [← hd] at x0 x1 x2 hdf hdt hdrop
          obtain ⟨dk, df, dt⟩ := d
          simp only at x0 x1 x2 hdf hdt hdrop
          obtain ⟨y0, y1, y2⟩ := cl_box wr dk df dt
          have hsz : ∀ o : Obj, (wr.alloc o).heap.size = wr.heap.size + 1 := fun o => by simp
          have HSZ := Lib.hid hsz
          have HD := Lib.hid hdrop
          clear hsz hdrop hd xa hqs hb3
          by_cases ha : a < df
          · have hai : (a : Int) < (df : Int) := by omega
            have hd1 : (1 : Int) ≤ (df : Int) := by omega
            by_cases hst : t ≤ dt
            · have hsi : (t : Int) ≤ (dt : Int) := by omega
              go_wp2_with (first
                | (at_builtin
                   refine wpList_push rfl (.tmp 60) (.tmp 67) 25 rfl w2.heap.size 24 i0 _ 3 24 Try.underlying25 fi fz0 fz1 fz2 rfl (by decide) _ q (clCells ls) rfl (HO3.out.alloc _) #[.int .u8 (k : Int), .int .u64 (a : Int), .int .u64 ((df : Int) - 1)] (by rw [HSZ.out]; rfl) rfl ?_ ?_ ?_ ?_ ?_))
              · first | exact ⟨rfl, rfl, rfl⟩ | (intro u hu; simp at hu; rcases hu with rfl | rfl | rfl <;> rfl)
              · unfold maxLen; omega
              · omega
              · first | (rw [HSZ.out]; omega) | exact Nat.le_trans hw2r (by simp)
              intro A5 c5 w5 hown5 hp5
              have z2 := (World.cell?_of_block (hp5.row wr.heap.size (by rw [HSZ.out]; omega) (fun e => by have := (HO3.out.lt _ e).2; omega))).trans y2
              have hown6 : w5.ownsRow w2.heap.size 24 3 (.slice A5 (q + 1) c5) (q + 1) (clCells (ls ++ [⟨k, a, df - 1⟩])) := by
                rw [cl_push]
                simp only [show ((df - 1 : Nat) : Int) = (df : Int) - 1 by omega]
                exact hown5
              have HO6 := Lib.hid hown6
              have HB5 := Lib.hid ((HB3.out.alloc hw2r _).trans hp5.low)
              have HQ5 := Lib.hid (show q + 1 = (ls ++ [⟨k, a, df - 1⟩] : List Cl).length by rw [List.length_append, List.length_singleton, ← HLQ.out])
              clear hown5 hp5 hown6
              have hsw2 : sweep k t f qs = ls ++ [⟨k, a, df - 1⟩] ++ (if t ≤ dt then [] else sweep k t (max a (dt + 1)) (qs.drop (i + 1))) := by
                rw [HSW.out, HD.out, if_pos ha]
                rw [List.append_assoc]
              rw [if_pos hst] at hsw2
              have HW2 := Lib.hid hsw2
              clear hsw2
              go_wp2_with fail
              go_ret2
              refine ⟨⟨A5, q + 1, c5, by rw [HE0.out]; rfl, ?_⟩, HB2.out.trans (HB5.out.mono hlo)⟩
              rw [HE1.out, HW2.out, List.append_nil]
              exact own_base HO6.out hlo
            · have hsi : ¬ (t : Int) ≤ (dt : Int) := by omega
              go_wp2_with (first
                | (at_builtin
                   refine wpList_push rfl (.tmp 60) (.tmp 67) 25 rfl w2.heap.size 24 i0 _ 3 24 Try.underlying25 fi fz0 fz1 fz2 rfl (by decide) _ q (clCells ls) rfl (HO3.out.alloc _) #[.int .u8 (k : Int), .int .u64 (a : Int), .int .u64 ((df : Int) - 1)] (by rw [HSZ.out]; rfl) rfl ?_ ?_ ?_ ?_ ?_))
              · first | exact ⟨rfl, rfl, rfl⟩ | (intro u hu; simp at hu; rcases hu with rfl | rfl | rfl <;> rfl)
              · unfold maxLen; omega
              · omega
              · first | (rw [HSZ.out]; omega) | exact Nat.le_trans hw2r (by simp)
              intro A5 c5 w5 hown5 hp5
              have z2 := (World.cell?_of_block (hp5.row wr.heap.size (by rw [HSZ.out]; omega) (fun e => by have := (HO3.out.lt _ e).2; omega))).trans y2
              have hown6 : w5.ownsRow w2.heap.size 24 3 (.slice A5 (q + 1) c5) (q + 1) (clCells (ls ++ [⟨k, a, df - 1⟩])) := by
                rw [cl_push]
                simp only [show ((df - 1 : Nat) : Int) = (df : Int) - 1 by omega]
                exact hown5
              have HO6 := Lib.hid hown6
              have HB5 := Lib.hid ((HB3.out.alloc hw2r _).trans hp5.low)
              have HQ5 := Lib.hid (show q + 1 = (ls ++ [⟨k, a, df - 1⟩] : List Cl).length by rw [List.length_append, List.length_singleton, ← HLQ.out])
              clear hown5 hp5 hown6
              have hsw2 : sweep k t f qs = ls ++ [⟨k, a, df - 1⟩] ++ (if t ≤ dt then [] else sweep k t (max a (dt + 1)) (qs.drop (i + 1))) := by
                rw [HSW.out, HD.out, if_pos ha]
                rw [List.append_assoc]
              rw [if_neg hst] at hsw2
              have hwr1 : IntKind.u64.wrap ((dt : Int) + 1) = (dt : Int) + 1 := IntWalk.u64_in _ (by omega)
              have hmx : max (a : Int) ((dt : Int) + 1) = ((max a (dt + 1) : Nat) : Int) := by omega
              have HMX := Lib.hid hmx
              have HW2 := Lib.hid hsw2
              clear hsw2 hmx
              go_wp2_with fail
              exact ⟨⟨i + 1, A5, c5, ls ++ [⟨k, a, df - 1⟩], max a (dt + 1), by omega, by go_num, by rw [HMX.out], by omega, by rw [← HQ5.out]; omega, by rw [← HQ5.out], by rw [← HQ5.out]; exact HO6.out, HW2.out, HB5.out⟩, by simp [intOf]; omega⟩
          · have hai : ¬ (a : Int) < (df : Int) := by omega
            by_cases hst : t ≤ dt
            · have hsi : (t : Int) ≤ (dt : Int) := by omega
              have HO6 := Lib.hid (HO3.out.alloc (.cells #[.int .u8 (dk : Int), .int .u64 (df : Int), .int .u64 (dt : Int)] 24))
              have HB5 := Lib.hid (HB3.out.alloc hw2r (.cells #[.int .u8 (dk : Int), .int .u64 (df : Int), .int .u64 (dt : Int)] 24))
              have hsw2 : sweep k t f qs = ls ++ (if t ≤ dt then [] else sweep k t (max a (dt + 1)) (qs.drop (i + 1))) := by
                rw [HSW.out, HD.out, if_neg ha]
                rfl
              rw [if_pos hst] at hsw2
              have HW2 := Lib.hid hsw2
              clear hsw2
              go_wp2_with fail
              go_ret2
              refine ⟨⟨A3, q, c4, by rw [HE0.out]; rfl, ?_⟩, HB2.out.trans (HB5.out.mono hlo)⟩
              rw [HE1.out, HW2.out, List.append_nil]
              exact own_base HO6.out hlo
            · have hsi : ¬ (t : Int) ≤ (dt : Int) := by omega
              have HO6 := Lib.hid (HO3.out.alloc (.cells #[.int .u8 (dk : Int), .int .u64 (df : Int), .int .u64 (dt : Int)] 24))
              have HB5 := Lib.hid (HB3.out.alloc hw2r (.cells #[.int .u8 (dk : Int), .int .u64 (df : Int), .int .u64 (dt : Int)] 24))
              have hsw2 : sweep k t f qs = ls ++ (if t ≤ dt then [] else sweep k t (max a (dt + 1)) (qs.drop (i + 1))) := by
                rw [HSW.out, HD.out, if_neg ha]
                rfl
              rw [if_neg hst] at hsw2
              have hwr1 : IntKind.u64.wrap ((dt : Int) + 1) = (dt : Int) + 1 := IntWalk.u64_in _ (by omega)
              have hmx : max (a : Int) ((dt : Int) + 1) = ((max a (dt + 1) : Nat) : Int) := by omega
              have HMX := Lib.hid hmx
              have HW2 := Lib.hid hsw2
              clear hsw2 hmx
              go_wp2_with fail
              exact ⟨⟨i + 1, A3, c4, ls, max a (dt + 1), by omega, by go_num, by rw [HMX.out], by omega, by rw [← HLQ.out]; omega, by rw [← HLQ.out], by rw [← HLQ.out]; exact HO6.out, HW2.out, HB5.out⟩, by simp [intOf]; omega⟩
        · obtain rfl : i = m := by omega
          clear hqs hb3
          go_wp2_with (first
            | (at_builtin
               refine wpList_push rfl (.tmp 80) (.tmp 85) 25 rfl w2.heap.size 24 i0 _ 3 24 Try.underlying25 fi fz0 fz1 fz2 rfl (by decide) _ q (clCells ls) rfl HO3.out #[.int .u8 (k : Int), .int .u64 (a : Int), .int .u64 (t : Int)] rfl rfl ?_ ?_ ?_ ?_ ?_))
          · first | exact ⟨rfl, rfl, rfl⟩ | (intro u hu; simp at hu; rcases hu with rfl | rfl | rfl <;> rfl)
          · unfold maxLen; omega
          · omega
          · exact hw2r
          intro A5 c5 w5 hown5 hp5
          have hsw2 : sweep k t f qs = ls ++ [⟨k, a, t⟩] := by
            rw [HSW.out, HQ.out, List.drop_length]
            rfl
          have hown6 : w5.ownsRow w2.heap.size 24 3 (.slice A5 (q + 1) c5) (q + 1) (clCells (ls ++ [⟨k, a, t⟩])) := by
            rw [cl_push]
            exact hown5
          have HB5 := Lib.hid (HB3.out.trans hp5.low)
          have HO6 := Lib.hid hown6
          have HW2 := Lib.hid hsw2
          clear hown5 hp5 hown6 hsw2
          go_wp2_with fail
          go_ret2
          refine ⟨⟨A5, q + 1, c5, by rw [HE0.out]; rfl, ?_⟩, HB2.out.trans (HB5.out.mono hlo)⟩
          rw [HE1.out, HW2.out]
          exact own_base HO6.out hlo
end Go.Proofs.Ytdnncpikndgabaa
