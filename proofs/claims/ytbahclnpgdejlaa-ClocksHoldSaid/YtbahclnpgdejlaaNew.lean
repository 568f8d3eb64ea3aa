/- A net of clocks in memory; the contract of New. -/
import Derived.Test.YtbahclnpgdejlaaReckon
import Derived.Test.YtbahclnpgdejlaaMay
import Derived.Deep.RegionHeld3
set_option linter.unusedVariables false
namespace Go.Proofs.Ytbahclnpgdejlaa
open Go.RowKit
theorem Try.info3 : (Try.prog.info? 3).map (fun i => (i.zero, i.size, i.bytes)) = some (some (.int .i64 0), 1, 8) := by kernel_rfl
theorem make_ints (n : Nat) (hl : n ≤ 2513169434843) (w : World) : (Instr.makeSlice 40 (.int .i64 (n : Int)) (.int .i64 (n : Int))).run Try.prog w =
    .ok (.slice (some ⟨w.heap.size, 0, none⟩) n n) (w.alloc (.cells (madeCells #[.int .i64 0] n) 3)) := by
  obtain ⟨i0, hi, hz0, hz1, hz2⟩ := info_parts Try.info3
  have := run_make (P := Try.prog) w 40 3 i0 (.int .i64 0) Try.underlying40 hi hz0 .i64 .i64 n n (by omega) (Int.le_refl _) (by rw [hz2]; omega) (by omega)
  simp only [Int.toNat_natCast, hz1, Nat.mul_one] at this
  exact this
/-- A net's four lists as data. -/
structure St where
  l : List Clk
  rs : List Int
  us : List Int
  hs : List Int
/-- A slice that leads to the head of a row from block B on. -/
def Vec (w : World) (B : Nat) (A : Option Addr) (e : TypeId) (xs : List Value) : Prop := xs ≠ [] → ∃ g, A = some ⟨g, 0, none⟩ ∧ B ≤ g ∧ RowAt w g e xs
theorem Vec.keep {w w' : World} {B : Nat} {A : Option Addr} {e : TypeId} {xs : List Value} (h : Vec w B A e xs) (hk : ∀ g, A = some ⟨g, 0, none⟩ → g < w.heap.size → w'.heap[g]? = w.heap[g]?) : Vec w' B A e xs := fun hx => by
  obtain ⟨g, ha, hb, hr⟩ := h hx
  exact ⟨g, ha, hb, hr.keep (hk g ha hr.lt)⟩
theorem Vec.of_own {w : World} {B n c size : Nat} {A : Option Addr} {e : TypeId} {xs : List Value} (h : w.ownsRow B e size (.slice A n c) n xs) : Vec w B A e xs := fun hx => by
  have hn : 0 < n := by
    rcases Nat.eq_zero_or_pos n with h0 | h0
    · subst h0
      exact absurd (List.eq_nil_of_length_eq_zero (by simpa using h.1)) hx
    · exact h0
  obtain ⟨g, ha, hb, _, hr⟩ := RowAt.of_own h hn
  exact ⟨g, ha, hb, hr⟩
theorem Vec.mono {w : World} {B B' : Nat} {A : Option Addr} {e : TypeId} {xs : List Value} (h : Vec w B A e xs) (hB : B' ≤ B) : Vec w B' A e xs := fun hx => by
  obtain ⟨g, ha, hb, hr⟩ := h hx
  exact ⟨g, ha, by omega, hr⟩
theorem Vec.below {w w' : World} {B : Nat} {A : Option Addr} {e : TypeId} {xs : List Value} (h : Vec w B A e xs) (hb : Below w.heap.size w w') : Vec w' B A e xs := h.keep fun g _ hg => hb.block g hg
structure NetAt (w : World) (B nb n : Nat) (Ac Ar Au Ah : Option Addr) (cc cr cu ch : Nat) (s : St) : Prop where
  low : B ≤ nb
  len : n = s.l.length
  lenr : n = s.rs.length
  lenu : n = s.us.length
  lenh : n = s.hs.length
  box : w.heap[nb]? = some (.cells #[.slice Ac n cc, .slice Ar n cr, .slice Au n cu, .slice Ah n ch] 68 (0, 0))
  vc : Vec w B Ac 30 (clkCells s.l)
  vr : Vec w B Ar 2 (i64s s.rs)
  vu : Vec w B Au 3 (i64s s.us)
  vh : Vec w B Ah 3 (i64s s.hs)
  ne : 0 < n → Au ≠ Ah
/-- Some net of clocks lies there. -/
def IsNet (w : World) (B nb : Nat) (s : St) : Prop := ∃ n Ac Ar Au Ah cc cr cu ch, NetAt w B nb n Ac Ar Au Ah cc cr cu ch s
theorem zeros_row (n g : Nat) (w : World) (h : g = w.heap.size) : RowAt (w.alloc (.cells (madeCells #[.int .i64 0] n) 3)) g 3 (i64s (zeros n)) := by
  subst h
  refine ⟨_, heap_alloc_new w _, ?_⟩
  rw [toList_madeCells_one]
  simp [i64s, zeros]
theorem RowAt.alloc {w : World} {g : Nat} {e : TypeId} {xs : List Value} (h : RowAt w g e xs) (o : Obj) : RowAt (w.alloc o) g e xs := h.keep (Below.heap_alloc _ _ _ h.lt)
theorem RowAt.drew {w : World} {g : Nat} {e : TypeId} {xs : List Value} (h : RowAt w g e xs) : RowAt w.drew g e xs := h
theorem RowAt.below {w w' : World} {g : Nat} {e : TypeId} {xs : List Value} (h : RowAt w g e xs) (hb : Below w.heap.size w w') : RowAt w' g e xs := h.keep (hb.block _ h.lt)
theorem RowAt.vec {w : World} {B g : Nat} {e : TypeId} {xs : List Value} (h : RowAt w g e xs) (hB : B ≤ g) : Vec w B (some ⟨g, 0, none⟩) e xs := fun _ => ⟨g, rfl, hB, h⟩
theorem Vec.alloc {w : World} {B : Nat} {A : Option Addr} {e : TypeId} {xs : List Value} (h : Vec w B A e xs) (o : Obj) : Vec (w.alloc o) B A e xs := h.keep fun g _ hg => Below.heap_alloc _ _ _ hg
theorem heap_new (X : World) (o : Obj) (nb : Nat) (h : nb = X.heap.size) : (X.alloc o).heap[nb]? = some o := by subst h; exact heap_alloc_new X o
theorem drew_size (w : World) : w.drew.heap.size = w.heap.size := rfl
theorem zeros_len (n : Nat) : (zeros n).length = n := by simp [zeros]
theorem mk_net {W : World} {B nb n cc gr ga gb : Nat} {A : Option Addr} {l : List Clk} (hx : W.heap[nb]? = some (.cells #[.slice A n cc, .slice (some ⟨gr, 0, none⟩) n n, .slice (some ⟨ga, 0, none⟩) n n, .slice (some ⟨gb, 0, none⟩) n n] 68 (0, 0)))
    (hn : n = l.length) (hv : Vec W B A 30 (clkCells l)) (hr : RowAt W gr 2 (i64s (ratesOf l))) (ha : RowAt W ga 3 (i64s (zeros n))) (hb : RowAt W gb 3 (i64s (zeros n)))
    (h1 : B ≤ gr) (h2 : B ≤ ga) (h3 : B ≤ gb) (h4 : ga ≠ gb) (h5 : B ≤ nb) :
    IsNet W B nb ⟨l, ratesOf l, zeros n, zeros n⟩ :=
  ⟨n, A, _, _, _, cc, n, n, n, ⟨h5, hn, by rw [ratesOf_len]; exact hn, (zeros_len n).symm, (zeros_len n).symm, hx, hv, hr.vec h1, ha.vec h2, hb.vec h3, fun _ e => h4 (by injection e with e; injection e)⟩⟩
set_option maxHeartbeats 8000000 in
theorem new_ok (A : Option Addr) (cap : Nat) (l : List Clk) (n : Nat) (hn : n = l.length) (w : World) (B : Nat) (hB : B ≤ w.heap.size) (hs : Seg w B A (clkCells l)) (hl : n ≤ 2513169434843)
    (hm : mayB l = true) (hf : ∀ j, j < n → fitsAt l j = true) :
    Calls Try.prog 7 #[.slice A n cap] w fun e w' => ∃ nb, e = .returned (.tuple #[.pointer (some ⟨nb, 0, none⟩), .int .i64 0]) ∧ IsNet w' w.heap.size nb ⟨l, ratesOf l, zeros n, zeros n⟩ ∧ Below w.heap.size w w' := by
  have hmk := make_ints n hl
  have Hn := Lib.hid hn
  have HF := Lib.hid hf
  have HM := Lib.hid hm
  have hclone : ∀ X, Below w.heap.size w X → _ := fun X hX => clone_any A cap l n hn X B (by have := hX.size; omega) (hs.below (hX.mono hB)) (by omega)
  have HCL := Lib.hid hclone
  clear hn hf hclone
  go_enter Try.func7, Try.ntmps7
  go_wp2_with (first
    | (go_at_call 22; refine (may_any _ _ _ _ Hn.out _ B hB hs (by omega)).mono ?_; rintro e w1 ⟨rfl, hb1⟩)
    | (go_at_call 23; refine (reckon_any _ _ _ _ Hn.out (fun j hj => (mayB_iff.1 HM.out).2 j hj) _ B (by have := hb1.size; omega) (hs.below (hb1.mono hB)) hl).mono ?_; rintro e w2 ⟨hb2, (⟨_, rfl, hrow⟩ | ⟨⟨j, hj, hx⟩, rfl⟩)⟩))
  · have hbw := below_next hb1 hb2
    have HB2 := Lib.hid hbw
    have HR := Lib.hid hrow
    have h1 := hb1.size
    clear hm hb1 hb2 hbw hrow
    go_region_held3 (fun _ => True) (trivial) (first
      | (go_at_call 24; refine (HCL.out _ (by first | exact HB2.out.drew | exact HB2.out.drew.alloc HB2.out.size _ | exact (HB2.out.drew.alloc HB2.out.size _).alloc (by have := HB2.out.size; simp; omega) _)).mono ?_; rintro e w3 ⟨A3, c3, rfl, hown3, hb3⟩)
      | fail)
    all_goals go_wp2
    all_goals go_ret2
    all_goals
      have h2 := HB2.out.size
      have h3 := hb3.size
      have hv3 := (Vec.of_own hown3).mono (B' := w.heap.size) (by simp only [World.size_alloc, drew_size]; omega)
      simp only [World.size_alloc, drew_size] at h3
      refine ⟨_, rfl, mk_net (heap_new _ _ _ (by simp)) Hn.out ?_ ?_ ?_ ?_ (by omega) (by omega) (by omega) (by omega) (by omega), ?_⟩
      · repeat (first | exact hv3 | refine Vec.alloc ?_ _)
      · repeat (first | exact HR.out.drew | refine RowAt.alloc ?_ _ | refine RowAt.below ?_ hb3 | refine RowAt.drew ?_)
      · repeat (first | (refine zeros_row n _ _ ?_; simp only [World.size_alloc]; done) | refine RowAt.alloc ?_ _ | refine RowAt.below ?_ hb3 | refine RowAt.drew ?_)
      · repeat (first | (refine zeros_row n _ _ ?_; simp only [World.size_alloc]; done) | refine RowAt.alloc ?_ _ | refine RowAt.below ?_ hb3 | refine RowAt.drew ?_)
      · repeat (first | exact HB2.out | refine Below.drew ?_ | (refine Below.alloc ?_ ?_ _; rotate_left; ((try simp only [World.size_alloc]); omega)) | (refine Below.trans ?_ (hb3.mono ?_); rotate_left; ((try simp only [World.size_alloc, drew_size]); omega)))
  · exact absurd (HF.out j hj) (by rw [hx]; simp)
theorem new_no (A : Option Addr) (cap : Nat) (l : List Clk) (n : Nat) (hn : n = l.length) (w : World) (B : Nat) (hB : B ≤ w.heap.size) (hs : Seg w B A (clkCells l)) (hl : n ≤ 2513169434843) (hm : mayB l = false) :
    Calls Try.prog 7 #[.slice A n cap] w fun e w' => e = .returned (.tuple #[.pointer none, .int .i64 180]) ∧ Below w.heap.size w w' := by
  have Hn := Lib.hid hn
  clear hn
  go_enter Try.func7, Try.ntmps7
  go_wp2_with (go_at_call 22; refine (may_any _ _ _ _ Hn.out _ B hB hs (by omega)).mono ?_; rintro e w1 ⟨rfl, hb1⟩)
  go_ret2
  exact ⟨rfl, hb1⟩
theorem new_out (A : Option Addr) (cap : Nat) (l : List Clk) (n : Nat) (hn : n = l.length) (w : World) (B : Nat) (hB : B ≤ w.heap.size) (hs : Seg w B A (clkCells l)) (hl : n ≤ 2513169434843) (hm : mayB l = true) (hf : ∃ j, j < n ∧ fitsAt l j = false) :
    Calls Try.prog 7 #[.slice A n cap] w fun e w' => e = .returned (.tuple #[.pointer none, .int .i64 181]) ∧ Below w.heap.size w w' := by
  have Hn := Lib.hid hn
  have HF := Lib.hid hf
  have HM := Lib.hid hm
  clear hn hf
  go_enter Try.func7, Try.ntmps7
  go_wp2_with (first
    | (go_at_call 22; refine (may_any _ _ _ _ Hn.out _ B hB hs (by omega)).mono ?_; rintro e w1 ⟨rfl, hb1⟩)
    | (go_at_call 23; refine (reckon_any _ _ _ _ Hn.out (fun j hj => (mayB_iff.1 HM.out).2 j hj) _ B (by have := hb1.size; omega) (hs.below (hb1.mono hB)) hl).mono ?_; rintro e w2 ⟨hb2, (⟨hall, rfl, hrow⟩ | ⟨_, rfl⟩)⟩))
  · obtain ⟨j, hj, hx⟩ := HF.out
    exact absurd (hall j hj) (by rw [hx]; simp)
  · go_ret2
    exact ⟨rfl, below_next hb1 hb2⟩
end Go.Proofs.Ytbahclnpgdejlaa
