import Derived.Test.YtbahclnpgdejlaaGet
set_option linter.unusedVariables false
namespace Go.Proofs.Ytbahclnpgdejlaa
open Go.RowKit
/-- The rates that differ, with what they were and are: of the first k places. -/
def chg (was is : List Int) : Nat → List (Nat × Int × Int)
  | 0 => []
  | k + 1 => if was.getD k 0 = is.getD k 0 then chg was is k else chg was is k ++ [(k, was.getD k 0, is.getD k 0)]
def chgCells (l : List (Nat × Int × Int)) : List Value := l.flatMap fun x => [.int .i64 (x.1 : Int), .int .i64 x.2.1, .int .i64 x.2.2]
theorem chg_len (was is : List Int) : ∀ k, (chg was is k).length ≤ k
  | 0 => by simp [chg]
  | k + 1 => by have := chg_len was is k; unfold chg; split <;> simp <;> omega
def steadyAt (l : List Clk) (k : Nat) : Bool := match l[k]? with | some c => c.steady | none => false
/-- A steady clock that is on would change. -/
def busyAt (l : List Clk) (was is hs : List Int) (k : Nat) : Bool := !(was.getD k 0 == is.getD k 0) && decide (0 < hs.getD k 0) && steadyAt l k
theorem Try.info78 : (Try.prog.info? 78).map (fun i => (i.zero, i.size, i.bytes)) = some (some (.agg #[.int .i64 0, .int .i64 0, .int .i64 0]), 3, 24) := by kernel_rfl
theorem own_base {w : World} {base base' : Nat} {e : TypeId} {size n : Nat} {v : Value} {xs : List Value} (h : w.ownsRow base e size v n xs) (hb : base' ≤ base) : w.ownsRow base' e size v n xs := by
  refine ⟨h.1, ?_⟩
  rcases h.2 with h2 | ⟨g, cap, cur, a1, a2, a3⟩
  · exact .inl h2
  · exact .inr ⟨g, cap, cur, a1, by omega, a3⟩
theorem HFR3 {w1 wr w3 : World} {base e size n m : Nat} {v : Value} {xs : List Value} {o : Obj} {row : Option Nat} (h : Frame (fun _ => False) w1 wr) (ho : wr.ownsRow base e size v n xs) (hb : w1.heap.size ≤ base) (hg : (wr.alloc o).grownBy w3 v.ownBlock) : Frame (fun _ => False) w1 w3 :=
  (h.alloc o).grown hg (fun g hg hlt => by have := (ho.lt g hg).1; omega)
theorem net_set {w w' : World} {B nb n gr : Nat} {Ac Ar Au Ah A' : Option Addr} {cc cr cu ch c' : Nat} {s : St} {l' : List Clk} {rs' : List Int} (h : NetAt w B nb n Ac Ar Au Ah cc cr cu ch s)
    (hf : Frame (fun _ => False) w w') (hc : Vec w' B A' 30 (clkCells l')) (hr : RowAt w' gr 2 (i64s rs')) (hB : B ≤ gr) (hl : n = l'.length) (hlr : n = rs'.length) :
    NetAt ((w'.setCell ⟨nb, 0, none⟩ (.slice A' n c')).setCell ⟨nb, 1, none⟩ (.slice (some ⟨gr, 0, none⟩) n n)) B nb n A' (some ⟨gr, 0, none⟩) Au Ah c' n cu ch { s with l := l', rs := rs' } := by
  have hbox := (hf.heap h.lt (fun x => x)).trans h.box
  have h1 := heap_setCell_same w' nb 0 _ 68 (.slice A' n c') hbox
  have h2 := heap_setCell_same _ nb 1 _ 68 (.slice (some ⟨gr, 0, none⟩) n n) h1
  have keep : ∀ g e xs, e ≠ 68 → RowAt w' g e xs → RowAt ((w'.setCell ⟨nb, 0, none⟩ (.slice A' n c')).setCell ⟨nb, 1, none⟩ (.slice (some ⟨gr, 0, none⟩) n n)) g e xs := fun g e xs he hg => by
    have hne : g ≠ nb := by
      rintro rfl
      obtain ⟨cur, hh, _⟩ := hg
      rw [hbox] at hh
      injection hh with hh
      injection hh with _ ht
      exact he ht.symm
    exact hg.keep ((Below.heap_setCell _ _ _ _ hne).trans (Below.heap_setCell _ _ _ _ hne))
  have keepv : ∀ A e xs, e ≠ 68 → Vec w B A e xs → Vec ((w'.setCell ⟨nb, 0, none⟩ (.slice A' n c')).setCell ⟨nb, 1, none⟩ (.slice (some ⟨gr, 0, none⟩) n n)) B A e xs := fun A e xs he hv hx => by
    obtain ⟨g, ha, hb, hrg⟩ := hv hx
    exact ⟨g, ha, hb, keep _ _ _ he (hrg.frame hf (fun x => x))⟩
  refine ⟨h.low, hl, hlr, h.lenu, h.lenh, by simpa using h2, fun hx => ?_, fun hx => ⟨gr, rfl, hB, keep _ _ _ (by decide) hr⟩, keepv _ _ _ (by decide) h.vu, keepv _ _ _ (by decide) h.vh, h.ne⟩
  obtain ⟨g, ha, hb, hrg⟩ := hc hx
  exact ⟨g, ha, hb, keep _ _ _ (by decide) hrg⟩
set_option maxRecDepth 100000 in
set_option maxHeartbeats 2000000 in
theorem change_ok {w : World} {B nb n : Nat} {Ac Ar Au Ah A' : Option Addr} {cc cr cu ch c' : Nat} {s : St} {l' : List Clk} (h : NetAt w B nb n Ac Ar Au Ah cc cr cu ch s) (hg : Good l') (hl : n = l'.length) (hn5 : n ≤ 512) (h0 : 0 < n)
    (hv : Vec w B A' 30 (clkCells l')) (hBw : B ≤ w.heap.size) (hfit : ∀ j, j < n → fitsAt l' j = true) (hbusy : ∀ j, j < n → busyAt l' s.rs (ratesOf l') s.hs j = false) :
    Calls Try.prog 48 #[.pointer (some ⟨nb, 0, none⟩), .slice A' n c'] w fun e w' => ∃ A c gr, e = .returned (.tuple #[.slice A (chg s.rs (ratesOf l') n).length c, .int .i64 0]) ∧
      w'.ownsRow w.heap.size 78 3 (.slice A (chg s.rs (ratesOf l') n).length c) (chg s.rs (ratesOf l') n).length (chgCells (chg s.rs (ratesOf l') n)) ∧
      NetAt w' B nb n A' (some ⟨gr, 0, none⟩) Au Ah c' n cu ch { s with l := l', rs := ratesOf l' } ∧ Frame (fun j => j = nb) w w' := by
  have hrk := reckon_any A' c' l' n hl hg w w.heap.size (Nat.le_refl _) hv.seg (by omega)
  have HR := Lib.hid hrk
  have HF := Lib.hid hfit
  have HB := Lib.hid hbusy
  have HL := Lib.hid hl
  obtain ⟨gh, hAh, _, hrowh⟩ := h.row_h h0
  have hlenr := h.lenr
  have hlenh := h.lenh
  obtain ⟨gr0, hAr, _, hrowr⟩ := h.vr (by intro e; have := congrArg List.length e; simp [i64s] at this; rw [this] at hlenr; simp at hlenr; omega)
  obtain ⟨gc, hAc, hBc, hrowc⟩ := hv (by intro e; have := congrArg List.length e; rw [clkCells, flat_length _ 7 clk_len] at this; simp only [List.length_nil] at this; omega)
  subst hAh hAr hAc
  have HLR := Lib.hid hlenr
  have HLH := Lib.hid hlenh
  clear hrk hfit hbusy hl hlenr hlenh
  obtain ⟨i0, ei, ez0, ez1, ez2⟩ := info_parts Try.info78
  go_enter Try.func48, Try.ntmps48
  go_wp2_with (go_at_call 23; refine HR.out.mono ?_; rintro e w1 ⟨hb1, (⟨_, rfl, hrow1⟩ | ⟨⟨j, hj, hx⟩, rfl⟩)⟩)
  · go_loopw [8, 22] (fun o i wr => ∃ k : Nat, k ≤ n ∧ i = .int .i64 k ∧ (∃ A c, o = .slice A (chg s.rs (ratesOf l') k).length c) ∧ wr.ownsRow w1.heap.size 78 3 o (chg s.rs (ratesOf l') k).length (chgCells (chg s.rs (ratesOf l') k)) ∧ Frame (fun _ => False) w1 wr) (fun _ i _ => n - (intOf i).toNat)
    case atStart => exact ⟨0, by omega, rfl, ⟨none, 0, rfl⟩, World.ownsRow_nil _ _ _ _, Frame.refl _ _⟩
    case round =>
      obtain ⟨k, hk, rfl, ⟨Ao, co, rfl⟩, hown, hfr⟩ := hrel
      by_cases hlt : k < n
      · have hkl : k < l'.length := by rw [← HL.out]; exact hlt
        have hnew := (hrow1.frame hfr (fun x => x)).cell (k := k) (by rw [i64s_len, ratesOf_len]; exact hkl)
        rw [i64s_get _ _ (by rw [ratesOf_len]; exact hkl)] at hnew
        have hold_ := ((hrowr.below hb1).frame hfr (fun x => x)).cell (k := k) (by rw [i64s_len, ← HLR.out]; exact hlt)
        rw [i64s_get _ _ (by rw [← HLR.out]; exact hlt)] at hold_
        have hhs := ((hrowh.below hb1).frame hfr (fun x => x)).cell (k := k) (by rw [i64s_len, ← HLH.out]; exact hlt)
        rw [i64s_get _ _ (by rw [← HLH.out]; exact hlt)] at hhs
        have hbox := (hfr.heap (by have := h.lt; have := hb1.size; omega) (fun x => x)).trans ((hb1.block nb h.lt).trans h.box)
        have c1 := cell_of_row wr nb 1 _ _ (0, 0) hbox
        have c3 := cell_of_row wr nb 3 _ _ (0, 0) hbox
        simp only [List.getElem?_toArray, List.getElem?_cons_succ, List.getElem?_cons_zero] at c1 c3
        have hst := ((hrowc.below hb1).frame hfr (fun x => x)).cell (k := k * 7 + 6) (by rw [clkCells, flat_length _ 7 clk_len]; omega)
        rw [clkCells, flat_get _ 7 clk_len l' k 6 hkl (by omega)] at hst
        have hs6 : (Clk.cells l'[k])[6]? = some (.bool (steadyAt l' k)) := by simp [Clk.cells, steadyAt, hkl]
        rw [hs6] at hst
        have hbu := HB.out k hlt
        obtain ⟨a, ha⟩ : ∃ a, a = s.rs.getD k 0 := ⟨_, rfl⟩
        obtain ⟨b, hb⟩ : ∃ b, b = (ratesOf l').getD k 0 := ⟨_, rfl⟩
        obtain ⟨z, hz⟩ : ∃ z, z = s.hs.getD k 0 := ⟨_, rfl⟩
        obtain ⟨y, hy⟩ : ∃ y, y = steadyAt l' k := ⟨_, rfl⟩
        unfold busyAt at hbu
        rw [← ha] at hold_ hbu
        rw [← hb] at hnew hbu
        rw [← hz] at hhs hbu
        rw [← hy] at hst hbu
        have HAB : Hid (chg s.rs (ratesOf l') (k + 1) = if a = b then chg s.rs (ratesOf l') k else chg s.rs (ratesOf l') k ++ [(k, a, b)]) := by rw [ha, hb]; rfl
        have hki : (k : Int) < (n : Int) := by omega
        have HO := Lib.hid hown
        have HFR := Lib.hid hfr
        have hcl := chg_len s.rs (ratesOf l') k
        clear ha hb hz hy hs6 hbox hown hfr
        by_cases hab : a = b
        · have e1 : (a == b) = true := by simpa using hab
          have e2 : (a != b) = false := by simpa using hab
          have HAB2 : Hid (chg s.rs (ratesOf l') (k + 1) = chg s.rs (ratesOf l') k) := HAB.out.trans (if_pos hab)
          clear hab hbu HAB
          go_wp2
          go_roundw
          case rel => exact ⟨k + 1, by omega, by go_num, ⟨Ao, co, by rw [HAB2.out]⟩, by rw [HAB2.out]; exact HO.out, HFR.out⟩
          case measure => simp [intOf]; omega
        · have e1 : (a == b) = false := by simpa using hab
          have e2 : (a != b) = true := by simpa using hab
          have HAB2 : Hid (chg s.rs (ratesOf l') (k + 1) = chg s.rs (ratesOf l') k ++ [(k, a, b)]) := HAB.out.trans (if_neg hab)
          have hzy : (0 < z ∧ y = false) ∨ z ≤ 0 := by
            rw [e1] at hbu
            by_cases hz0 : 0 < z
            · left
              refine ⟨hz0, ?_⟩
              simpa [hz0] using hbu
            · right; omega
          clear hab hbu HAB
          rcases hzy with ⟨hz0, rfl⟩ | hz0
          all_goals
            go_wp2_with (at_builtin; refine wpList_append_seg _ rfl (.tmp 52) (.tmp 57) 74 rfl w1.heap.size 78 i0 _ 3 24 Try.underlying74 ei ez0 ez1 ez2 rfl (by decide) _ _ (chgCells (chg s.rs (ratesOf l') k)) rfl (HO.out.alloc _) (wr.heap.size + 1) (some ⟨wr.heap.size, 0, none⟩) 1 1 [.int .i64 k, .int .i64 a, .int .i64 b] rfl rfl (seg_new wr 78 #[.int .i64 k, .int .i64 a, .int .i64 b]) ?_ ?_ ?_ ?_ ?_)
            · first | exact ⟨rfl, rfl, rfl⟩ | (intro u hu; simp at hu; rcases hu with rfl | rfl | rfl <;> rfl)
            · unfold maxLen; omega
            · omega
            · have := HFR.out.size; simp; omega
            intro v3 w3 hown3 hg3 _
            obtain ⟨A3, c3', rfl⟩ := own_shape hown3
            have hfr3 : Frame (fun _ => False) w1 w3 := HFR3 (m := 0) (row := none) HFR.out HO.out (Nat.le_refl _) hg3
            have ht : chgCells (chg s.rs (ratesOf l') k) ++ [.int .i64 (k : Int), .int .i64 a, .int .i64 b] = chgCells (chg s.rs (ratesOf l') (k + 1)) := by rw [HAB2.out]; simp [chgCells]
            rw [ht] at hown3
            have hl3 : (chg s.rs (ratesOf l') k).length + 1 = (chg s.rs (ratesOf l') (k + 1)).length := by rw [HAB2.out]; simp
            rw [hl3] at hown3
            have H3 := Lib.hid hown3
            have HF3 := Lib.hid hfr3
            have HL3 := Lib.hid hl3
            clear hown3 hfr3 hl3 ht hg3
            go_wp2
            go_roundw
            case rel => exact ⟨k + 1, by omega, by go_num, ⟨A3, c3', by rw [HL3.out]⟩, by rw [HL3.out]; exact H3.out, HF3.out⟩
            case measure => simp [intOf]; omega
      · obtain rfl : k = n := by omega
        have hb1s := hb1.size
        have hbox := (hfr.heap (by have := h.lt; omega) (fun x => x)).trans ((hb1.block nb h.lt).trans h.box)
        have hfw : Frame (fun _ => False) w wr := (Frame.of_below hb1).trans hfr
        have hnet := net_set (A' := some ⟨gc, 0, none⟩) (c' := c') (gr := w.heap.size) h hfw (((hrowc.below hb1).frame hfr (fun x => x)).vec hBc) (hrow1.frame hfr (fun x => x)) hBw HL.out (by rw [ratesOf_len]; exact HL.out)
        have c0 := cell_of_row wr nb 0 _ _ (0, 0) hbox
        have c1 := cell_of_row wr nb 1 _ _ (0, 0) hbox
        simp only [List.getElem?_toArray, List.getElem?_cons_succ, List.getElem?_cons_zero] at c0 c1
        have z0 := frozen_of_row wr nb 0 _ _ hbox
        have z1 := frozen_of_row wr nb 1 _ _ hbox
        have hfin : Frame (fun j => j = nb) w ((wr.setCell ⟨nb, 0, none⟩ (.slice (some ⟨gc, 0, none⟩) k c')).setCell ⟨nb, 1, none⟩ (.slice (some ⟨w.heap.size, 0, none⟩) k k)) := ((hfw.mono (S' := fun j => j = nb) (fun _ _ x => x.elim)).setCell (p := ⟨nb, 0, none⟩) (fun _ => rfl) _).setCell (p := ⟨nb, 1, none⟩) (fun _ => rfl) _
        have hne : w.heap.size + 1 ≤ wr.heap.size := by have := hrow1.lt; have := hfr.size; omega
        have hnbl := h.lt
        have hown2 : ((wr.setCell ⟨nb, 0, none⟩ (.slice (some ⟨gc, 0, none⟩) k c')).setCell ⟨nb, 1, none⟩ (.slice (some ⟨w.heap.size, 0, none⟩) k k)).ownsRow w.heap.size 78 3 (.slice Ao (chg s.rs (ratesOf l') k).length co) (chg s.rs (ratesOf l') k).length (chgCells (chg s.rs (ratesOf l') k)) :=
          own_base (ownsRow_setCell_below (ownsRow_setCell_below hown (a := ⟨nb, 0, none⟩) (by show nb < _; omega) _) (a := ⟨nb, 1, none⟩) (by show nb < _; omega) _) (by omega)
        have HN := Lib.hid hnet
        have HFI := Lib.hid hfin
        have HOW := Lib.hid hown2
        clear hnet hfin hown2 hown hbox hfw hrow1 hrowc hrowr hrowh hfr hb1 h hv
        go_wp2
        go_ret2
        exact ⟨Ao, co, w.heap.size, rfl, HOW.out, HN.out, HFI.out⟩
  · exact absurd (HF.out j hj) (by rw [hx]; simp)
end Go.Proofs.Ytbahclnpgdejlaa
