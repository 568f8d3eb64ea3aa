/- Who has a thing: the program's and the document's answer. -/
import Derived.Test.YtdnncpikndgabaaMeet
set_option linter.unusedVariables false
namespace Go.Proofs.Ytdnncpikndgabaa
open Go.RowKit
/-- An owner: a node and what it has. -/
structure Ow where
  n : Int
  c : Cl
def Ow.cells (o : Ow) : List Value := [.int .i64 o.n, .int .u8 (o.c.k : Int), .int .u64 (o.c.f : Int), .int .u64 (o.c.t : Int)]
theorem ow_len (o : Ow) : o.cells.length = 4 := rfl
def owCells (l : List Ow) : List Value := l.flatMap Ow.cells
def whoF (l : List Ow) (x : Cl) : Option Nat := (List.range l.length).find? fun i => match l[i]? with
  | some o => meetB o.c x
  | none => false
/-- The answer: the node, and whether there is one. -/
def whoV (l : List Ow) (x : Cl) : Int × Bool := match l.find? fun o => meetB o.c x with
  | some o => (o.n, true)
  | none => (0, false)
theorem find_hit {α : Type} {p : α → Bool} {l : List α} {k : Nat} (hk : k < l.length) (h : (l.take k).find? p = none) (hp : p l[k] = true) : l.find? p = some l[k] := by
  have e : l.find? p = (l.take k ++ l.drop k).find? p := by rw [List.take_append_drop]
  rw [e, List.find?_append, h, List.drop_eq_getElem_cons hk, List.find?_cons_of_pos hp]
  rfl
theorem find_miss {α : Type} {p : α → Bool} {l : List α} {k : Nat} (hk : k < l.length) (h : (l.take k).find? p = none) (hp : p l[k] = false) : (l.take (k + 1)).find? p = none := by
  rw [List.take_succ_eq_append_getElem hk, List.find?_append, h, List.find?_cons_of_neg (by simp [hp])]
  rfl
set_option maxRecDepth 100000 in
theorem rwho_any (A : Option Addr) (cap n : Nat) (l : List Ow) (hn : n = l.length) (hn2 : n ≤ maxLen) (k m : Nat) (w : World) (B : Nat) (hB : B ≤ w.heap.size) (hs : Seg w B A (owCells l)) :
    Calls Try.prog 7 #[.slice A n cap, .int .u8 (k : Int), .int .u64 (m : Int)] w fun e w' => e = .returned (.tuple #[.int .i64 (whoV l ⟨k, m, m⟩).1, .bool (whoV l ⟨k, m, m⟩).2]) ∧ Below w.heap.size w w' := by
  unfold maxLen at hn2
  have hres : ∀ r : Option Ow, l.find? (fun o => meetB o.c ⟨k, m, m⟩) = r → whoV l ⟨k, m, m⟩ = match r with
    | some o => (o.n, true)
    | none => (0, false) := fun r h => by unfold whoV; rw [h]
  obtain ⟨r1, h1⟩ : ∃ r1, r1 = (whoV l ⟨k, m, m⟩).1 := ⟨_, rfl⟩
  obtain ⟨r2, h2⟩ : ∃ r2, r2 = (whoV l ⟨k, m, m⟩).2 := ⟨_, rfl⟩
  rw [← h1, ← h2]
  have HH1 := Lib.hid h1
  have HH2 := Lib.hid h2
  have HR := Lib.hid hres
  have HN := Lib.hid hn
  have HS := Lib.hid hs
  clear hn hs h1 h2 hres
  go_enter Try.func7, Try.ntmps7
  go_wp2_with fail
  go_loopw [8] (fun iv wx => ∃ j : Nat, j ≤ n ∧ iv = .int .i64 j ∧ (l.take j).find? (fun o => meetB o.c ⟨k, m, m⟩) = none ∧ Below w.heap.size w wx) (fun iv _ => n - (intOf iv).toNat)
  case atStart => exact ⟨0, by omega, rfl, rfl, Below.refl _ _⟩
  case round =>
    obtain ⟨j, hj, rfl, hnone, hb⟩ := hrel
    have HB := Lib.hid hb
    have HM := Lib.hid hnone
    by_cases hjn : j < n
    · have hjl : j < l.length := by rw [← HN.out]; exact hjn
      have hji : (j : Int) < (n : Int) := by omega
      obtain ⟨g, off, eA, _, xa⟩ := (HS.out.below (hb.mono hB)).thing (f := Ow.cells) (m := 4) ow_len (by omega) hjl
      subst eA
      have x0 : wr.cell? ⟨g, off + j * 4, none⟩ = some (.int .i64 l[j].n) := xa 0 _ rfl
      have x1 : wr.cell? ⟨g, off + j * 4 + 1, none⟩ = some (.int .u8 (l[j].c.k : Int)) := xa 1 _ rfl
      have x2 : wr.cell? ⟨g, off + j * 4 + 2, none⟩ = some (.int .u64 (l[j].c.f : Int)) := xa 2 _ rfl
      have x3 : wr.cell? ⟨g, off + j * 4 + 3, none⟩ = some (.int .u64 (l[j].c.t : Int)) := xa 3 _ rfl
      obtain ⟨o, ho⟩ : ∃ o, o = l[j] := ⟨_, rfl⟩
      rw [← ho] at x0 x1 x2 x3
      obtain ⟨on, c⟩ := o
      simp only at x0 x1 x2 x3
      have HO := Lib.hid ho
      clear xa hb hnone ho
      have hmt := rmeet_any c ⟨k, m, m⟩ wr
      generalize hq : meetB c ⟨k, m, m⟩ = q at hmt
      have HQ := Lib.hid hq
      clear hq
      cases q with
      | true =>
        go_wp2_with (go_at_call 14; refine hmt.mono ?_; rintro e w2 ⟨rfl, hb2⟩
                     have x0' := (hb2.cell (p := ⟨g, off + j * 4, none⟩) (World.block_lt_of_cell? _ _ x0)).trans x0
                     have HB2 := Lib.hid (below_next HB.out hb2)
                     clear hb2)
        go_ret2
        have hf : l.find? (fun o => meetB o.c ⟨k, m, m⟩) = some l[j] := find_hit hjl HM.out (by rw [← HO.out]; exact HQ.out)
        have := HR.out _ hf
        refine ⟨?_, HB2.out⟩
        rw [HH1.out, HH2.out, this, ← HO.out]
        rfl
      | false =>
        go_wp2_with (go_at_call 14; refine hmt.mono ?_; rintro e w2 ⟨rfl, hb2⟩
                     have HB2 := Lib.hid (below_next HB.out hb2)
                     clear hb2)
        exact ⟨⟨j + 1, by omega, by go_num, find_miss hjl HM.out (by rw [← HO.out]; exact HQ.out), HB2.out⟩, by simp [intOf]; omega⟩
    · obtain rfl : j = n := by omega
      clear hb hnone
      go_wp2_with fail
      go_ret2
      have hf : l.find? (fun o => meetB o.c ⟨k, m, m⟩) = none := by
        have := HM.out
        rwa [HN.out, List.take_length] at this
      have := HR.out _ hf
      refine ⟨?_, HB.out⟩
      rw [HH1.out, HH2.out, this]
      rfl
/-- The closure: does an owner's thing meet the one that is asked for? -/
theorem clos_any (o : Ow) (x : Cl) (g : Nat) (w : World) (z0 : w.cell? ⟨g, 0, none⟩ = some (.int .u8 (x.k : Int))) (z1 : w.cell? ⟨g, 1, none⟩ = some (.int .u64 (x.f : Int))) (z2 : w.cell? ⟨g, 2, none⟩ = some (.int .u64 (x.t : Int))) :
    Calls Try.prog 16 #[.agg #[.int .i64 o.n, .int .u8 (o.c.k : Int), .int .u64 (o.c.f : Int), .int .u64 (o.c.t : Int)], .pointer (some ⟨g, 0, none⟩)] w fun e w' => e = .returned (.bool (meetB o.c x)) ∧ Below w.heap.size w w' := by
  have hb : Below w.heap.size w (w.alloc (.cells #[.int .i64 o.n, .int .u8 (o.c.k : Int), .int .u64 (o.c.f : Int), .int .u64 (o.c.t : Int)] 30)) := (Below.refl _ w).alloc (Nat.le_refl _) _
  have hx : ∀ j, (w.alloc (.cells #[.int .i64 o.n, .int .u8 (o.c.k : Int), .int .u64 (o.c.f : Int), .int .u64 (o.c.t : Int)] 30)).cell? ⟨w.heap.size, j, none⟩ = #[Value.int .i64 o.n, .int .u8 (o.c.k : Int), .int .u64 (o.c.f : Int), .int .u64 (o.c.t : Int)][j]? := fun j => by rw [cell_of_row _ _ _ _ _ (0, 0) (heap_alloc_new w _)]
  have x1 := (hx 1).trans (show _ = some (Value.int .u8 (o.c.k : Int)) from rfl)
  have x2 := (hx 2).trans (show _ = some (Value.int .u64 (o.c.f : Int)) from rfl)
  have x3 := (hx 3).trans (show _ = some (Value.int .u64 (o.c.t : Int)) from rfl)
  have y0 := (hb.cell (p := ⟨g, 0, none⟩) (World.block_lt_of_cell? _ _ z0)).trans z0
  have y1 := (hb.cell (p := ⟨g, 1, none⟩) (World.block_lt_of_cell? _ _ z1)).trans z1
  have y2 := (hb.cell (p := ⟨g, 2, none⟩) (World.block_lt_of_cell? _ _ z2)).trans z2
  have hm := pmeet_any o.c x (w.alloc (.cells #[.int .i64 o.n, .int .u8 (o.c.k : Int), .int .u64 (o.c.f : Int), .int .u64 (o.c.t : Int)] 30))
  have HB := Lib.hid hb
  generalize meetB o.c x = q at *
  clear hx z0 z1 z2 hb
  go_enter Try.func16, Try.ntmps16
  go_wp2_with (go_at_call 6; refine hm.mono ?_; rintro e w2 ⟨rfl, hb2⟩
               have HB2 := Lib.hid (below_next HB.out hb2)
               clear hb2)
  go_ret
  exact ⟨rfl, HB2.out⟩
set_option maxRecDepth 100000 in
/-- slices.IndexFunc at the closure. -/
theorem idx_any (A : Option Addr) (cap n : Nat) (l : List Ow) (hn : n = l.length) (hn2 : n ≤ maxLen) (x : Cl) (gb : Nat) (w : World) (B : Nat) (hB : B ≤ w.heap.size) (hs : Seg w B A (owCells l))
    (z0 : w.cell? ⟨gb, 0, none⟩ = some (.int .u8 (x.k : Int))) (z1 : w.cell? ⟨gb, 1, none⟩ = some (.int .u64 (x.f : Int))) (z2 : w.cell? ⟨gb, 2, none⟩ = some (.int .u64 (x.t : Int))) :
    Calls Try.prog 15 #[.slice A n cap, .func (.func 16) #[] #[.pointer (some ⟨gb, 0, none⟩)]] w fun e w' => (∃ r : Int, e = .returned (.int .i64 r) ∧
      ((∃ (j : Nat) (h : j < l.length), r = j ∧ l.find? (fun o => meetB o.c x) = some l[j]) ∨ (r = -1 ∧ l.find? (fun o => meetB o.c x) = none))) ∧ Below w.heap.size w w' := by
  unfold maxLen at hn2
  have hg := World.block_lt_of_cell? _ _ z0
  have zz : (∀ (W : World), Below w.heap.size w W → W.cell? ⟨gb, 0, none⟩ = some (.int .u8 (x.k : Int)) ∧ W.cell? ⟨gb, 1, none⟩ = some (.int .u64 (x.f : Int)) ∧ W.cell? ⟨gb, 2, none⟩ = some (.int .u64 (x.t : Int))) :=
    fun W hb => ⟨(hb.cell (p := ⟨gb, 0, none⟩) hg).trans z0, (hb.cell (p := ⟨gb, 1, none⟩) hg).trans z1, (hb.cell (p := ⟨gb, 2, none⟩) hg).trans z2⟩
  have Z := Lib.hid zz
  clear zz
  have HN := Lib.hid hn
  have HS := Lib.hid hs
  clear hn hs z0 z1 z2
  go_enter Try.func15, Try.ntmps15
  go_wp2_with fail
  go_loopw [8] (fun iv wx => ∃ j : Nat, j ≤ n ∧ iv = .int .i64 j ∧ (l.take j).find? (fun o => meetB o.c x) = none ∧ Below w.heap.size w wx) (fun iv _ => n - (intOf iv).toNat)
  case atStart => exact ⟨0, by omega, rfl, rfl, Below.refl _ _⟩
  case round =>
    obtain ⟨j, hj, rfl, hnone, hb⟩ := hrel
    have HB := Lib.hid hb
    have HM := Lib.hid hnone
    by_cases hjn : j < n
    · have hjl : j < l.length := by rw [← HN.out]; exact hjn
      have hji : (j : Int) < (n : Int) := by omega
      obtain ⟨g, off, eA, _, xa⟩ := (HS.out.below (hb.mono hB)).thing (f := Ow.cells) (m := 4) ow_len (by omega) hjl
      subst eA
      have x0 : wr.cell? ⟨g, off + j * 4, none⟩ = some (.int .i64 l[j].n) := xa 0 _ rfl
      have x1 : wr.cell? ⟨g, off + j * 4 + 1, none⟩ = some (.int .u8 (l[j].c.k : Int)) := xa 1 _ rfl
      have x2 : wr.cell? ⟨g, off + j * 4 + 2, none⟩ = some (.int .u64 (l[j].c.f : Int)) := xa 2 _ rfl
      have x3 : wr.cell? ⟨g, off + j * 4 + 3, none⟩ = some (.int .u64 (l[j].c.t : Int)) := xa 3 _ rfl
      obtain ⟨o, ho⟩ : ∃ o, o = l[j] := ⟨_, rfl⟩
      rw [← ho] at x0 x1 x2 x3
      obtain ⟨zz0, zz1, zz2⟩ := Z.out wr hb
      have hmt := clos_any o x gb wr zz0 zz1 zz2
      obtain ⟨on, c⟩ := o
      simp only at x0 x1 x2 x3 hmt
      have HO := Lib.hid ho
      clear xa hb hnone ho zz0 zz1 zz2
      generalize hq : meetB c x = q at hmt
      have HQ := Lib.hid hq
      clear hq
      cases q with
      | true =>
        go_wp2_with (go_at_call 16; refine hmt.mono ?_; rintro e w2 ⟨rfl, hb2⟩
                     have HB2 := Lib.hid (below_next HB.out hb2)
                     clear hb2)
        go_ret
        exact ⟨⟨(j : Int), rfl, .inl ⟨j, hjl, rfl, find_hit hjl HM.out (by rw [← HO.out]; exact HQ.out)⟩⟩, HB2.out⟩
      | false =>
        go_wp2_with (go_at_call 16; refine hmt.mono ?_; rintro e w2 ⟨rfl, hb2⟩
                     have HB2 := Lib.hid (below_next HB.out hb2)
                     clear hb2)
        exact ⟨⟨j + 1, by omega, by go_num, find_miss hjl HM.out (by rw [← HO.out]; exact HQ.out), HB2.out⟩, by simp [intOf]; omega⟩
    · obtain rfl : j = n := by omega
      clear hb hnone
      go_wp2_with fail
      go_ret
      have hf : l.find? (fun o => meetB o.c x) = none := by
        have := HM.out
        rwa [HN.out, List.take_length] at this
      exact ⟨⟨-1, rfl, .inr ⟨rfl, hf⟩⟩, HB.out⟩
set_option maxRecDepth 100000 in
theorem pwho_any (A : Option Addr) (cap n : Nat) (l : List Ow) (hn : n = l.length) (hn2 : n ≤ maxLen) (k m : Nat) (w : World) (B : Nat) (hB : B ≤ w.heap.size) (hs : Seg w B A (owCells l)) :
    Calls Try.prog 8 #[.slice A n cap, .int .u8 (k : Int), .int .u64 (m : Int)] w fun e w' => e = .returned (.tuple #[.int .i64 (whoV l ⟨k, m, m⟩).1, .bool (whoV l ⟨k, m, m⟩).2]) ∧ Below w.heap.size w w' := by
  have hb : Below w.heap.size w (w.alloc (.cells #[.int .u8 (k : Int), .int .u64 (m : Int), .int .u64 (m : Int)] 24)) := (Below.refl _ w).alloc (Nat.le_refl _) _
  have hx : ∀ j, (w.alloc (.cells #[.int .u8 (k : Int), .int .u64 (m : Int), .int .u64 (m : Int)] 24)).cell? ⟨w.heap.size, j, none⟩ = #[Value.int .u8 (k : Int), .int .u64 (m : Int), .int .u64 (m : Int)][j]? := fun j => by rw [cell_of_row _ _ _ _ _ (0, 0) (heap_alloc_new w _)]
  have hix := idx_any A cap n l hn hn2 ⟨k, m, m⟩ w.heap.size _ w.heap.size hb.size ((hs.more hB).below hb) ((hx 0).trans rfl) ((hx 1).trans rfl) ((hx 2).trans rfl)
  have hz : ∀ r : Option Ow, l.find? (fun o => meetB o.c ⟨k, m, m⟩) = r → whoV l ⟨k, m, m⟩ = match r with
    | some o => (o.n, true)
    | none => (0, false) := fun r h => by unfold whoV; rw [h]
  have HR := Lib.hid hz
  clear hz
  obtain ⟨r1, h1⟩ : ∃ r1, r1 = (whoV l ⟨k, m, m⟩).1 := ⟨_, rfl⟩
  obtain ⟨r2, h2⟩ : ∃ r2, r2 = (whoV l ⟨k, m, m⟩).2 := ⟨_, rfl⟩
  rw [← h1, ← h2]
  have HH1 := Lib.hid h1
  have HH2 := Lib.hid h2
  have HN := Lib.hid hn
  have HS := Lib.hid hs
  have HB := Lib.hid hb
  clear hn hs h1 h2 hx hb
  go_enter Try.func8, Try.ntmps8
  go_wp2_with fail
  refine hix.mono ?_
  rintro e w2 ⟨⟨r, rfl, hr⟩, hb2⟩
  have HB2 := Lib.hid (below_next HB.out hb2)
  rcases hr with ⟨j, hj, rfl, hf⟩ | ⟨rfl, hf⟩
  · have hjn : (j : Int) < (n : Int) := by have := HN.out; omega
    have hj0 : ¬ (j : Int) < 0 := by omega
    obtain ⟨g, off, eA, _, xa⟩ := ((HS.out.more hB).below HB2.out).thing (f := Ow.cells) (m := 4) ow_len (by omega) hj
    subst eA
    have x0 : w2.cell? ⟨g, off + j * 4, none⟩ = some (.int .i64 l[j].n) := xa 0 _ rfl
    have HF := Lib.hid hf
    clear hf xa hb2 hix
    go_wp2_with fail
    go_ret2
    have := HR.out _ HF.out
    refine ⟨?_, HB2.out⟩
    rw [HH1.out, HH2.out, this]
    rfl
  · have HF := Lib.hid hf
    clear hf hb2 hix
    go_wp2_with fail
    go_ret2
    have := HR.out _ HF.out
    refine ⟨?_, HB2.out⟩
    rw [HH1.out, HH2.out, this]
    rfl
end Go.Proofs.Ytdnncpikndgabaa
