/- The walk of TreeNames. -/
import Derived.Test.YtmdnbajbfnhecaaDoorNmLaw
set_option linter.unusedVariables false
namespace Go.Proofs.YtmdnbajbfnhecaaDoor
open Go.RowKit
def lenS : Value → Nat
  | .slice _ n _ => n
  | _ => 0
/-- Nodes without props, as they lie. -/
def bareM (l : List Nd) : List Nm := l.map fun d => ⟨d, none, 0⟩
theorem bare_dat (l : List Nd) : dat (bareM l) = l := by simp only [bareM, dat, List.map_map]; exact List.map_id l
theorem bare_len (l : List Nd) : (bareM l).length = l.length := by simp [bareM]
structure Bare (w : World) (base : Nat) (A : Option Addr) (n c : Nat) (l : List Nd) : Prop where
  len : n = l.length
  row : w.ownsRow base 43 3 (.slice A n c) n (nmCells (bareM l))
  none_ : ∀ d ∈ l, d.ps = []
theorem Bare.nodes {w : World} {base n c : Nat} {A : Option Addr} {l : List Nd} (h : Bare w base A n c l) : Nodes w w.heap.size A (bareM l) :=
  ⟨own_seg h.row, fun x hx => by
    obtain ⟨d, hd, rfl⟩ := List.mem_map.1 hx
    show Seg w w.heap.size none (prCells d.ps)
    rw [h.none_ d hd]
    exact Seg.nil⟩
theorem Bare.below {w w' : World} {base n c : Nat} {A : Option Addr} {l : List Nd} (h : Bare w base A n c l) (hb : Below w.heap.size w w') : Bare w' base A n c l :=
  ⟨h.len, own_keep h.row fun g _ hlt => hb.block g hlt, h.none_⟩
theorem bare_sized {l : List Nd} (h1 : l.length ≤ 1000) (h2 : ∀ d ∈ l, d.ps = [] ∧ d.n.size ≤ 100 ∧ -1 ≤ d.p ∧ d.p ≤ 1000) : Sized (bareM l) := by
  refine ⟨by rw [bare_len]; omega, ?_, fun x hx => ?_, fun x hx => ?_⟩
  · rw [bare_dat]
    intro x hx
    obtain ⟨g1, g2, _⟩ := h2 x hx
    refine ⟨by omega, fun y hy => ?_⟩
    rw [g1] at hy
    cases hy
  · obtain ⟨d, hd, rfl⟩ := List.mem_map.1 hx
    show d.ps.length * 32 ≤ _
    rw [(h2 d hd).1]
    simp
  · obtain ⟨d, hd, rfl⟩ := List.mem_map.1 hx
    obtain ⟨_, _, g3, g4⟩ := h2 d hd
    show (Lit.int .i64 d.p).wf = true
    exact WalkArith.wf_i64 (by omega)
theorem sized_nil : Sized [] := bare_sized (l := []) (by simp) (by simp)
theorem nodes_nil (w : World) (B : Nat) : Nodes w B none [] := ⟨Seg.nil, fun x hx => by cases hx⟩
theorem check_nil : checkF (dat []) = (0, 40) := rfl
theorem bare_more {l : List Nd} (p : Int) (s : ByteArray) : nmCells (bareM (l ++ [⟨p, s, []⟩])) = nmCells (bareM l) ++ #[.int .i64 p, .string s, .slice none 0 0].toList := by
  simp [nmCells, bareM, Nm.cells]
theorem bare_root (w : World) (base : Nat) (hb : base ≤ w.heap.size) : Bare (w.alloc (.cells #[.int .i64 (-1), .string ⟨#[]⟩, .slice none 0 0] 43)) base (some ⟨w.heap.size, 0, none⟩) 1 1 [rootN] :=
  ⟨rfl, ⟨rfl, .inr ⟨w.heap.size, 1, #[.int .i64 (-1), .string ⟨#[]⟩, .slice none 0 0], rfl, hb, heap_alloc_new w _, Nat.le_refl _, by unfold maxLen; omega, by simp, by simp [nmCells, bareM, rootN, Nm.cells]⟩⟩, by simp [rootN]⟩
theorem names_sized (k : Nat) (hk : k ≤ 511) : Sized (bareM (namesD k)) := by
  refine bare_sized (by rw [namesD_len]; omega) fun d hd => ?_
  rcases List.mem_cons.1 hd with rfl | hd
  · exact ⟨rfl, by decide, by decide, by decide⟩
  · obtain ⟨j, _, rfl⟩ := List.mem_map.1 hd
    exact ⟨rfl, by show (nmI (j + 1)).size ≤ 100; rw [nm_size]; omega, by show (-1 : Int) ≤ 0; omega, by show (0 : Int) ≤ 1000; omega⟩
theorem more_sized : Sized (bareM (namesD 511 ++ [⟨0, kMore, []⟩])) := by
  refine bare_sized (by simp [namesD_len]) fun d hd => ?_
  rcases List.mem_append.1 hd with hd | hd
  · rcases List.mem_cons.1 hd with rfl | hd
    · exact ⟨rfl, by decide, by decide, by decide⟩
    · obtain ⟨j, _, rfl⟩ := List.mem_map.1 hd
      exact ⟨rfl, by show (nmI (j + 1)).size ≤ 100; rw [nm_size]; omega, by show (-1 : Int) ≤ 0; omega, by show (0 : Int) ≤ 1000; omega⟩
  · obtain rfl : d = ⟨0, kMore, []⟩ := by simpa using hd
    exact ⟨rfl, by decide, by decide, by decide⟩
theorem deep_sized (k : Nat) (hk : k ≤ 16) : Sized (bareM (deepD k)) := by
  refine bare_sized (by rw [deep_len]; omega) fun d hd => ?_
  rcases List.mem_cons.1 hd with rfl | hd
  · exact ⟨rfl, by decide, by decide, by decide⟩
  · obtain ⟨j, hj, rfl⟩ := List.mem_map.1 hd
    have := List.mem_range.1 hj
    exact ⟨rfl, by show kD.size ≤ 100; decide, by show (-1 : Int) ≤ (j : Int); omega, by show (j : Int) ≤ 1000; omega⟩
/-- The three bytes of a name become its text. -/
theorem nm_text (w : World) (m : Nat) (cs : Array Value) (hc : cs = ((nmB m).map fun b => Value.int .u8 (b.toNat : Int)).toArray) : (convert 44 9 (.slice (some ⟨w.heap.size, 0, none⟩) 3 3)).run Tryd.prog (w.alloc (.cells cs 5)) = .ok (.string ⟨(nmB m).toArray⟩) (w.alloc (.cells cs 5)) := by
  subst hc
  refine run_convert_bytes_back (P := Tryd.prog) _ 44 9 5 ⟨w.heap.size, 0, none⟩ 3 (nmB m) Tryd.underlying44 Tryd.underlying5 Tryd.underlying9 (fun j hj => ?_)
  rw [addr_add, cell_of_row _ _ _ _ _ (0, 0) (heap_alloc_new w _)]
  simp only [Nat.zero_add, List.getElem?_toArray, List.getElem?_map, List.getElem?_eq_getElem hj, Option.map_some]
theorem nm_cells (m : Nat) : (#[.int .u8 (97 + (m : Int) / 26 / 26 % 26), .int .u8 (97 + (m : Int) / 26 % 26), .int .u8 (97 + (m : Int) % 26)] : Array Value) = ((nmB m).map fun b => Value.int .u8 (b.toNat : Int)).toArray := by
  simp only [nmB, List.map_cons, List.map_nil, nm_nat]
  rfl
theorem nm_add (m : Nat) : (⟨#[107]⟩ : ByteArray) ++ ⟨(nmB m).toArray⟩ = nmI m := by
  apply ByteArray.ext
  simp [nmI]
theorem names_next {m : Nat} (h : 1 ≤ m) : namesD (m - 1) ++ [⟨0, nmI m, []⟩] = namesD m := by
  obtain ⟨k, rfl⟩ : ∃ k, m = k + 1 := ⟨m - 1, by omega⟩
  exact (names_snoc k).symm
theorem deep_next {m : Nat} (h : 1 ≤ m) : deepD (m - 1) ++ [⟨(m : Int) - 1, kD, []⟩] = deepD m := by
  obtain ⟨k, rfl⟩ : ∃ k, m = k + 1 := ⟨m - 1, by omega⟩
  rw [deep_snoc, Nat.add_sub_cancel, show ((k + 1 : Nat) : Int) - 1 = (k : Int) by omega]
/-- append of one node to a list of the call's own. -/
theorem bare_push {w w' : World} {base n c c' : Nat} {A A' : Option Addr} {l : List Nd} {p : Int} {s : ByteArray} (h : Bare w base A n c l)
    (h2 : w'.ownsRow base 43 3 (.slice A' (n + 1) c') (n + 1) (nmCells (bareM l) ++ #[.int .i64 p, .string s, .slice none 0 0].toList)) : Bare w' base A' (n + 1) c' (l ++ [⟨p, s, []⟩]) :=
  ⟨by simp [h.len], by rw [bare_more]; exact h2, fun d hd => by
    rcases List.mem_append.1 hd with hd | hd
    · exact h.none_ d hd
    · rw [List.mem_singleton.1 hd]⟩
theorem bare_check {w : World} {base n c : Nat} {A : Option Addr} {l : List Nd} {v e : Int} (h : Bare w base A n c l) (hs : Sized (bareM l)) (hv : checkF l = (v, e)) :
    Calls Tryd.prog 26 #[.slice A n c] w fun r w' => r = .returned (.tuple #[.int .i64 v, .int .i64 e]) ∧ Below w.heap.size w w' := by
  have hq := pCheck_any A c n (bareM l) (by rw [bare_len]; exact h.len) hs w w.heap.size (Nat.le_refl _) h.nodes
  rw [bare_dat, hv] at hq
  exact hq
set_option maxRecDepth 100000 in
set_option maxHeartbeats 8000000 in
theorem names_walk (w : World) (hv0 : Var0 w) (hw0 : 0 < w.heap.size) : Calls Tryd.prog 5 #[] w fun e w' => e = .returned (.bool true) ∧ Below w.heap.size w w' := by
  obtain ⟨i0, fi, fz0, fz1, fz2⟩ := info_parts Tryd.info43
  have HV := Lib.hid hv0
  clear hv0
  go_enter Tryd.func5, Tryd.ntmps5
  go_wp2_with (first
    | (go_at_call 26
       have hq := pCheck_any none 0 0 [] rfl sized_nil w 0 (Nat.zero_le _) (nodes_nil _ _)
       rw [check_nil] at hq
       refine hq.mono ?_
       rintro e w1 ⟨rfl, hb1⟩
       have HB1 := Lib.hid hb1
       have hw1 : w.heap.size ≤ w1.heap.size := hb1.size
       clear hq hb1))
  go_loopw [3] (fun lv wr => ∃ (m : Nat) (A : Option Addr) (c : Nat), 1 ≤ m ∧ m ≤ 512 ∧ lv = .slice A m c ∧ Bare wr w.heap.size A m c (namesD (m - 1)) ∧ Below w.heap.size w wr) (fun lv _ => 512 - lenS lv)
  case atStart => exact ⟨1, _, _, by omega, by omega, rfl, bare_root w1 w.heap.size hw1, HB1.out.alloc hw1 _⟩
  case round =>
    obtain ⟨m, A, c, hm1, hm2, rfl, hbare, hb⟩ := hrel
    have HR := Lib.hid hbare
    have HB := Lib.hid hb
    have hwr : w.heap.size ≤ wr.heap.size := hb.size
    clear hbare hb
    by_cases hlt : m < 512
    · have hmi : (m : Int) < 512 := by omega
      obtain ⟨t, ht, hts, hadd⟩ : ∃ t : ByteArray, t = ⟨(nmB m).toArray⟩ ∧ t.size = 3 ∧ (⟨#[107]⟩ : ByteArray) ++ t = nmI m := ⟨_, rfl, rfl, nm_add m⟩
      have hcv := nm_text wr m _ (nm_cells m)
      rw [← ht] at hcv
      clear ht
      have hsz : ∀ o : Obj, (wr.alloc o).heap.size = wr.heap.size + 1 := fun o => by simp
      have HSZ := Lib.hid hsz
      clear hsz
      go_wp2_with (first
        | (at_builtin
           refine wpList_push rfl (.tmp 22) (.tmp 45) 22 rfl w.heap.size 43 i0 _ 3 48 Tryd.underlying22 fi fz0 fz1 fz2 rfl (by decide) _ m (nmCells (bareM (namesD (m - 1)))) rfl (HR.out.row.alloc _) #[.int .i64 0, .string (nmI m), .slice none 0 0] (by rw [HSZ.out]; rfl) rfl ?_ ?_ ?_ ?_ ?_))
      · first | exact ⟨rfl, rfl, rfl⟩ | (intro u hu; simp at hu; rcases hu with rfl | rfl | rfl <;> rfl)
      · unfold maxLen; omega
      · omega
      · simp; omega
      intro A5 c5 w5 hown5 hp5
      have hfin : Bare w5 w.heap.size A5 (m + 1) c5 (namesD m) := by
        rw [← names_next hm1]
        exact bare_push HR.out hown5
      have hb5 : Below w.heap.size w w5 := (HB.out.alloc hwr _).trans hp5.low
      have HF := Lib.hid hfin
      have HB5 := Lib.hid hb5
      clear hown5 hp5 hfin hb5 hcv
      go_wp2_with fail
      exact ⟨⟨m + 1, A5, c5, by omega, by omega, by first | rfl | simp, HF.out, HB5.out⟩, by simp [lenS]; omega⟩
    · obtain rfl : m = 512 := by omega
      clear hlt hm1 hm2
      go_wp2_with (first
        | (go_at_call 26
           refine (bare_check HR.out (names_sized 511 (by omega)) names_ok).mono ?_
           rintro e w2 ⟨rfl, hb2⟩
           have HR2 := Lib.hid (HR.out.below hb2)
           have HB2 := Lib.hid (HB.out.trans (hb2.mono hwr))
           have hw2 : w.heap.size ≤ w2.heap.size := Nat.le_trans hwr hb2.size
           clear hb2)
        | (at_builtin
           refine wpList_push rfl (.tmp 53) (.tmp 55) 22 rfl w.heap.size 43 i0 _ 3 48 Tryd.underlying22 fi fz0 fz1 fz2 rfl (by decide) _ 512 (nmCells (bareM (namesD (512 - 1)))) rfl HR2.out.row #[.int .i64 0, .string kMore, .slice none 0 0] rfl rfl ?_ ?_ ?_ ?_ ?_))
      · first | exact ⟨rfl, rfl, rfl⟩ | (intro u hu; simp at hu; rcases hu with rfl | rfl | rfl <;> rfl)
      · unfold maxLen; omega
      · omega
      · first | exact hw2 | (simp; omega)
      intro A5 c5 w5 hown5 hp5
      have hfin : Bare w5 w.heap.size A5 (512 + 1) c5 (namesD 511 ++ [⟨0, kMore, []⟩]) := bare_push HR2.out hown5
      have hb5 : Below w.heap.size w w5 := HB2.out.trans hp5.low
      have hw5 : w.heap.size ≤ w5.heap.size := hb5.size
      have HF := Lib.hid hfin
      have HB5 := Lib.hid hb5
      clear hown5 hp5 hfin hb5 HR HR2 HB HB2 hwr hw2
      go_wp2_with (go_at_call 26
                   refine (bare_check HF.out more_sized names_more).mono ?_
                   rintro e w6 ⟨rfl, hb6⟩
                   have HB6 := Lib.hid (HB5.out.trans (hb6.mono hw5))
                   have hw6 : w.heap.size ≤ w6.heap.size := Nat.le_trans hw5 hb6.size
                   clear hb6)
      clear HF HB5 hw5
      go_loopw [8] (fun lv wr => ∃ (m : Nat) (A : Option Addr) (c : Nat), 1 ≤ m ∧ m ≤ 16 ∧ lv = .slice A m c ∧ Bare wr w.heap.size A m c (deepD (m - 1)) ∧ Below w.heap.size w wr) (fun lv _ => 16 - lenS lv)
      case atStart => exact ⟨1, _, _, by omega, by omega, rfl, bare_root w6 w.heap.size hw6, HB6.out.alloc hw6 _⟩
      case round =>
        obtain ⟨m, A, c, hm1, hm2, rfl, hbare, hb⟩ := hrel
        have HR := Lib.hid hbare
        have HB := Lib.hid hb
        have hwr : w.heap.size ≤ wr.heap.size := hb.size
        clear hbare hb
        by_cases hlt : m < 16
        · have hmi : (m : Int) < 16 := by omega
          go_wp2_with (first
            | (at_builtin
               refine wpList_push rfl (.tmp 65) (.tmp 70) 22 rfl w.heap.size 43 i0 _ 3 48 Tryd.underlying22 fi fz0 fz1 fz2 rfl (by decide) _ m (nmCells (bareM (deepD (m - 1)))) rfl HR.out.row #[.int .i64 ((m : Int) - 1), .string kD, .slice none 0 0] rfl rfl ?_ ?_ ?_ ?_ ?_))
          · first | exact ⟨rfl, rfl, rfl⟩ | (intro u hu; simp at hu; rcases hu with rfl | rfl | rfl <;> rfl)
          · unfold maxLen; omega
          · omega
          · first | exact hwr | (simp; omega)
          intro A5 c5 w5 hown5 hp5
          have hfin : Bare w5 w.heap.size A5 (m + 1) c5 (deepD m) := by
            rw [← deep_next hm1]
            exact bare_push HR.out hown5
          have hb5 : Below w.heap.size w w5 := HB.out.trans hp5.low
          have HF := Lib.hid hfin
          have HB5 := Lib.hid hb5
          clear hown5 hp5 hfin hb5
          go_wp2_with fail
          exact ⟨⟨m + 1, A5, c5, by omega, by omega, by first | rfl | simp, HF.out, HB5.out⟩, by simp [lenS]; omega⟩
        · obtain rfl : m = 16 := by omega
          clear hlt hm1 hm2
          go_wp2_with (first
            | (go_at_call 26
               refine (bare_check HR.out (deep_sized 15 (by omega)) deep_ok).mono ?_
               rintro e w2 ⟨rfl, hb2⟩
               have HR2 := Lib.hid (HR.out.below hb2)
               have HB2 := Lib.hid (HB.out.trans (hb2.mono hwr))
               have hw2 : w.heap.size ≤ w2.heap.size := Nat.le_trans hwr hb2.size
               clear hb2)
            | (at_builtin
               refine wpList_push rfl (.tmp 78) (.tmp 80) 22 rfl w.heap.size 43 i0 _ 3 48 Tryd.underlying22 fi fz0 fz1 fz2 rfl (by decide) _ 16 (nmCells (bareM (deepD (16 - 1)))) rfl HR2.out.row #[.int .i64 15, .string kD, .slice none 0 0] rfl rfl ?_ ?_ ?_ ?_ ?_))
          · first | exact ⟨rfl, rfl, rfl⟩ | (intro u hu; simp at hu; rcases hu with rfl | rfl | rfl <;> rfl)
          · unfold maxLen; omega
          · omega
          · first | exact hw2 | (simp; omega)
          intro A5 c5 w5 hown5 hp5
          have hfin : Bare w5 w.heap.size A5 (16 + 1) c5 (deepD 16) := by
            have := bare_push HR2.out hown5
            exact this
          have hb5 : Below w.heap.size w w5 := HB2.out.trans hp5.low
          have hw5 : w.heap.size ≤ w5.heap.size := hb5.size
          have HF := Lib.hid hfin
          have HB5 := Lib.hid hb5
          clear hown5 hp5 hfin hb5 HR HR2 HB HB2 hwr hw2
          go_wp2_with (first
            | (go_at_call 27
               refine (works_any w7 (HV.out.below HB7.out hw0) (Nat.lt_of_lt_of_le hw0 hw7)).mono ?_
               rintro e w8 ⟨rfl, hb8⟩
               have HB8 := Lib.hid (HB7.out.trans (hb8.mono hw7))
               clear hb8)
            | (go_at_call 26
               refine (bare_check HF.out (deep_sized 16 (by omega)) deep_long).mono ?_
               rintro e w7 ⟨rfl, hb7⟩
               have HB7 := Lib.hid (HB5.out.trans (hb7.mono hw5))
               have hw7 : w.heap.size ≤ w7.heap.size := Nat.le_trans hw5 hb7.size
               clear hb7))
          go_ret
          exact ⟨rfl, HB8.out⟩
end Go.Proofs.YtmdnbajbfnhecaaDoor
