/- DomainsRuns: the document's net in memory; Wants and without. -/
import Derived.Test.YtghcemfffhjmjaaRepL
import Derived.Deep.RegionHeld3
import Derived.Deep.DeepCutAuto
import Derived.Deep.CutRange
set_option linter.unusedVariables false
namespace Go.Proofs.Ytghcemfffhjmjaa
open Go.RowKit
theorem Try.info84 : (Try.prog.info? 84).map (fun i => (i.zero, i.size, i.bytes)) = some (some (.agg #[.int .i64 0, .int .i64 0, .int .u8 0]), 3, 24) := by kernel_rfl
theorem und_dms (l : List Dmi) {i : Nat} (h : i < l.length) : und (dms l) i = l[i].u.map Int.toNat := by
  unfold und dms
  rw [List.getElem?_map, List.getElem?_eq_getElem h]
  rfl
theorem top_dms (l : List Dmi) {i : Nat} (h : i < (dms l).length) : (dms l)[i].t = (l[i]'(by rw [← dms_len]; exact h)).t := by simp [dms, toDm]
/-- The document's net in memory, from block B on. -/
structure RMem (w : World) (B rb n m : Nat) (Ad : Option Addr) (cd : Nat) (Aw : Option Addr) (cw : Nat) (lr : List Dmi) (wl : List Wt) : Prop where
  low : B ≤ rb
  len : n = lr.length
  lenw : m = wl.length
  box : RowAt w rb 73 [.slice Ad n cd, .slice Aw m cw]
  doms : Vec w B Ad 48 (dmiCells lr)
  under : ∀ x ∈ lr, Vec w B x.A 3 (ints x.u)
  cap : ∀ x ∈ lr, x.u.length ≤ x.c
  want : Vec w B Aw 84 (wtCells wl)
section
variable {w w' : World} {B rb n m : Nat} {Ad : Option Addr} {cd : Nat} {Aw : Option Addr} {cw : Nat} {lr : List Dmi} {wl : List Wt}
theorem RMem.lt (h : RMem w B rb n m Ad cd Aw cw lr wl) : rb < w.heap.size := h.box.lt
theorem RMem.c0 (h : RMem w B rb n m Ad cd Aw cw lr wl) : w.cell? ⟨rb, 0, none⟩ = some (.slice Ad n cd) := h.box.cell (k := 0) (by simp)
theorem RMem.c1 (h : RMem w B rb n m Ad cd Aw cw lr wl) : w.cell? ⟨rb, 1, none⟩ = some (.slice Aw m cw) := h.box.cell (k := 1) (by simp)
theorem RMem.other {S : Nat → Prop} (h : RMem w B rb n m Ad cd Aw cw lr wl) (hf : Frame S w w') (hs : ∀ j, S j → j < B) : RMem w' B rb n m Ad cd Aw cw lr wl :=
  ⟨h.low, h.len, h.lenw, h.box.keep (hf.block rb h.lt (fun x => by have := hs rb x; have := h.low; omega)), h.doms.keep (fun g _ hB hg => hf.block g hg (fun x => by have := hs g x; omega)),
   fun x hx => (h.under x hx).keep (fun g _ hB hg => hf.block g hg (fun x => by have := hs g x; omega)), h.cap, h.want.keep (fun g _ hB hg => hf.block g hg (fun x => by have := hs g x; omega))⟩
theorem RMem.below (h : RMem w B rb n m Ad cd Aw cw lr wl) (hb : Below w.heap.size w w') : RMem w' B rb n m Ad cd Aw cw lr wl := h.other (S := fun _ => False) (Frame.of_below hb) (fun _ x => x.elim)
theorem RMem.domi (h : RMem w B rb n m Ad cd Aw cw lr wl) : Domi w w.heap.size Ad lr := ⟨h.doms.seg (Nat.le_refl _), fun x hx => (h.under x hx).seg (Nat.le_refl _), h.cap⟩
theorem RMem.seg (h : RMem w B rb n m Ad cd Aw cw lr wl) : Seg w w.heap.size Aw (wtCells wl) := h.want.seg (Nat.le_refl _)
end
theorem Seg.wt {w : World} {B : Nat} {a : Option Addr} {l : List Wt} (h : Seg w B a (wtCells l)) {k : Nat} (hk : k < l.length) : ∃ b off, a = some ⟨b, off, none⟩ ∧ b < B ∧ w.cell? ⟨b, off + k * 3, none⟩ = some (.int .i64 (l[k].u : Int)) ∧
    w.cell? ⟨b, off + k * 3 + 1, none⟩ = some (.int .i64 (l[k].d : Int)) ∧ w.cell? ⟨b, off + k * 3 + 2, none⟩ = some (.int .u8 (l[k].lv : Int)) := by
  obtain ⟨b, off, e, hb, hc⟩ := h.thing (f := Wt.cells) (m := 3) wt_len (by omega) hk
  exact ⟨b, off, e, hb, hc 0 _ rfl, hc 1 _ rfl, hc 2 _ rfl⟩
theorem look_drop (l : List Wt) (a b : Int) {i : Nat} (hi : i < l.length) : look (l.drop i) a b = if (l[i].u : Int) = a ∧ (l[i].d : Int) = b then l[i].lv else look (l.drop (i + 1)) a b := by
  rw [List.drop_eq_getElem_cons hi]
  rfl
set_option maxRecDepth 100000 in
set_option maxHeartbeats 4000000 in
theorem rwants_any {w : World} {B rb n m : Nat} {Ad : Option Addr} {cd : Nat} {Aw : Option Addr} {cw : Nat} {lr : List Dmi} {wl : List Wt} (h : RMem w B rb n m Ad cd Aw cw lr wl) (hm : m ≤ 100000) (u d : Int) :
    Calls Try.prog 32 #[.pointer (some ⟨rb, 0, none⟩), .int .i64 u, .int .i64 d] w fun e w' => e = .returned (.int .u8 (look wl u d : Int)) ∧ w = w' := by
  have c1 := h.c1
  have HS := Lib.hid h.seg
  have HM := Lib.hid h.lenw
  clear h
  go_enter Try.func32, Try.ntmps32
  go_wp2_with fail
  go_loopw [7] (fun iv wr => ∃ i : Nat, i ≤ m ∧ iv = .int .i64 i ∧ look (wl.drop i) u d = look wl u d ∧ wr = w) (fun iv _ => m - (intOf iv).toNat)
  case atStart => exact ⟨0, by omega, rfl, rfl, rfl⟩
  case round =>
    obtain ⟨i, hi, rfl, hlk, rfl⟩ := hrel
    have HLK := Lib.hid hlk
    clear hlk
    by_cases him : i < m
    · have hii : (i : Int) < (m : Int) := by omega
      have hil : i < wl.length := by rw [← HM.out]; exact him
      obtain ⟨b, off, rfl, hbb, z0, z1, z2⟩ := HS.out.wt hil
      have hlk := HLK.out
      rw [look_drop wl u d hil] at hlk
      obtain ⟨y, hy⟩ : ∃ y, y = wl[i] := ⟨_, rfl⟩
      rw [← hy] at z0 z1 z2 hlk
      clear hy HLK
      by_cases h1 : (y.u : Int) = u
      · by_cases h2 : (y.d : Int) = d
        · rw [if_pos ⟨h1, h2⟩] at hlk
          have HLK := Lib.hid hlk
          clear hlk
          go_wp2_with fail
          go_ret
          exact ⟨by rw [← HLK.out]; rfl, rfl⟩
        · rw [if_neg (fun x => h2 x.2)] at hlk
          have HLK := Lib.hid hlk
          clear hlk
          go_wp2_with fail
          exact ⟨⟨i + 1, by omega, by go_num, HLK.out, by first | rfl | trivial⟩, by simp [intOf]; omega⟩
      · rw [if_neg (fun x => h1 x.1)] at hlk
        have HLK := Lib.hid hlk
        clear hlk
        go_wp2_with fail
        exact ⟨⟨i + 1, by omega, by go_num, HLK.out, by first | rfl | trivial⟩, by simp [intOf]; omega⟩
    · obtain rfl : i = m := by omega
      have hlk := HLK.out
      rw [HM.out, List.drop_length] at hlk
      have HLK2 := Lib.hid hlk
      clear hlk HLK
      go_wp2_with fail
      go_ret
      exact ⟨by rw [← HLK2.out]; rfl, rfl⟩
theorem take_filter (p : Wt → Bool) (l : List Wt) {i : Nat} (hi : i < l.length) : (l.take (i + 1)).filter p = (l.take i).filter p ++ if p l[i] then [l[i]] else [] := by
  rw [List.take_succ_eq_append_getElem hi, List.filter_append]
  congr 1
  by_cases h : p l[i] = true
  · rw [if_pos h, List.filter_cons_of_pos h, List.filter_nil]
  · rw [if_neg h, List.filter_cons_of_neg h, List.filter_nil]
theorem wt_cells_add (l : List Wt) (y : Wt) : wtCells (l ++ [y]) = wtCells l ++ [.int .i64 (y.u : Int), .int .i64 (y.d : Int), .int .u8 (y.lv : Int)] := by
  unfold wtCells
  rw [List.flatMap_append]
  rfl
set_option maxRecDepth 100000 in
set_option maxHeartbeats 4000000 in
theorem without_any {w : World} {B rb n m : Nat} {Ad : Option Addr} {cd : Nat} {Aw : Option Addr} {cw : Nat} {lr : List Dmi} {wl : List Wt} (h : RMem w B rb n m Ad cd Aw cw lr wl) (hm : m ≤ 100000) (u d : Int) :
    Calls Try.prog 36 #[.pointer (some ⟨rb, 0, none⟩), .int .i64 u, .int .i64 d] w fun e w' => ∃ (k : Nat) (A : Option Addr) (c : Nat), k = (wl.filter (keepW u d)).length ∧ e = .returned (.slice A k c) ∧ w'.ownsRow w.heap.size 84 3 (.slice A k c) k (wtCells (wl.filter (keepW u d))) ∧ Below w.heap.size w w' := by
  have hrb := h.lt
  have c1 := h.c1
  have HS := Lib.hid h.seg
  have HM := Lib.hid h.lenw
  clear h
  obtain ⟨i0, e0, z0', z1', z2'⟩ := info_parts Try.info84
  go_enter Try.func36, Try.ntmps36
  go_wp2_with fail
  go_loopw [7, 8] (fun sv iv wr => ∃ (i k : Nat) (A : Option Addr) (c : Nat), i ≤ m ∧ iv = .int .i64 i ∧ k = ((wl.take i).filter (keepW u d)).length ∧ sv = .slice A k c ∧ wr.ownsRow w.heap.size 84 3 (.slice A k c) k (wtCells ((wl.take i).filter (keepW u d))) ∧ Below w.heap.size w wr) (fun _ iv _ => m - (intOf iv).toNat)
  case atStart => exact ⟨0, 0, none, 0, by omega, rfl, rfl, rfl, World.ownsRow_nil _ _ _ _, Below.refl _ _⟩
  case round =>
    obtain ⟨i, k, A, c, hi, rfl, hk, rfl, hown, hb⟩ := hrel
    have HK := Lib.hid hk
    have HOWN := Lib.hid hown
    have HB := Lib.hid hb
    have c1' := (hb.cell (p := ⟨rb, 1, none⟩) hrb).trans c1
    have hsz : w.heap.size ≤ wr.heap.size := hb.size
    clear hk hown hb
    by_cases him : i < m
    · have hii : (i : Int) < (m : Int) := by omega
      have hil : i < wl.length := by rw [← HM.out]; exact him
      have htf := take_filter (keepW u d) wl hil
      have hki : k ≤ i := by
        rw [HK.out]
        exact Nat.le_trans (List.length_filter_le _ _) (by rw [List.length_take]; omega)
      obtain ⟨b, off, rfl, hbb, z0, z1, z2⟩ := (HS.out.below HB.out).wt hil
      obtain ⟨y, hy⟩ : ∃ y, y = wl[i] := ⟨_, rfl⟩
      rw [← hy] at z0 z1 z2 htf
      clear hy
      obtain ⟨kb, hkb⟩ : ∃ kb, kb = keepW u d y := ⟨_, rfl⟩
      rw [← hkb] at htf
      have HTF := Lib.hid htf
      have HKB := Lib.hid hkb
      have hbr : b < wr.heap.size := by omega
      clear htf hkb
      go_upto_region 6 with fail
      have hrow : RowAt (wr.alloc (.cells #[.int .i64 (y.u : Int), .int .i64 (y.d : Int), .int .u8 (y.lv : Int)] 84)) wr.heap.size 84 [.int .i64 (y.u : Int), .int .i64 (y.d : Int), .int .u8 (y.lv : Int)] := ⟨_, heap_alloc_new _ _, rfl⟩
      have hb2 := HB.out.alloc hsz (.cells #[.int .i64 (y.u : Int), .int .i64 (y.d : Int), .int .u8 (y.lv : Int)] 84)
      have hown2 := World.ownsRow.alloc HOWN.out (.cells #[.int .i64 (y.u : Int), .int .i64 (y.d : Int), .int .u8 (y.lv : Int)] 84)
      have hgx : wr.heap.size < (wr.alloc (.cells #[.int .i64 (y.u : Int), .int .i64 (y.d : Int), .int .u8 (y.lv : Int)] 84)).heap.size := by simp
      clear c1' z0 z1 z2
      generalize wr.alloc (.cells #[.int .i64 (y.u : Int), .int .i64 (y.d : Int), .int .u8 (y.lv : Int)] 84) = w2 at *
      generalize wr.heap.size = gx at *
      have x0 := hrow.cell (k := 0) (by simp)
      have x1 := hrow.cell (k := 1) (by simp)
      have x2 := hrow.cell (k := 2) (by simp)
      simp only [List.getElem?_cons_succ, List.getElem?_cons_zero] at x0 x1 x2
      have HB2 := Lib.hid hb2
      have HOWN2 := Lib.hid hown2
      have hs2 : w.heap.size ≤ w2.heap.size := hb2.size
      clear hrow hb2 hown2 HB HOWN
      go_cut [39] from 10 to 43 (fun v wx => v = .bool kb ∧ w2 = wx)
      case first =>
        by_cases h1 : (y.u : Int) = u
        · by_cases h2 : 0 ≤ d
          · by_cases h3 : (y.d : Int) = d
            · go_wp2_with fail
              go_meet
              exact ⟨by rw [HKB.out]; unfold keepW; simp [h1, h3], rfl⟩
            · go_wp2_with fail
              go_meet
              exact ⟨by rw [HKB.out]; unfold keepW; simp [h1, h2, h3], rfl⟩
          · go_wp2_with fail
            go_meet
            exact ⟨by rw [HKB.out]; unfold keepW; simp [h1]; omega, rfl⟩
        · go_wp2_with fail
          go_meet
          exact ⟨by rw [HKB.out]; unfold keepW; simp [h1], rfl⟩
      case rest =>
      obtain ⟨rfl, rfl⟩ := hcut
      rcases kb with _ | _
      · have htf := HTF.out
        simp only [Bool.false_eq_true, if_false, List.append_nil] at htf
        have HTF2 := Lib.hid htf
        clear htf HTF
        go_wp2_with fail
        exact ⟨⟨i + 1, k, A, c, by omega, by go_num, by rw [HTF2.out]; exact HK.out, rfl, by rw [HTF2.out]; exact HOWN2.out, HB2.out⟩, by simp [intOf]; omega⟩
      · have htf := HTF.out
        simp only [if_true] at htf
        have HTF2 := Lib.hid htf
        have hm1 : k + 1 ≤ maxLen := by unfold maxLen; omega
        have hm2 : (k + 1) * 24 ≤ 140737488355328 := by omega
        clear htf HTF
        go_wp2_with (at_builtin; refine wpList_append_seg _ rfl (.tmp 40) (.tmp 42) 71 rfl w.heap.size 84 i0 _ 3 24 Try.underlying71 e0 z0' z1' z2' rfl (by decide) (.slice A k c) k (wtCells ((wl.take i).filter (keepW u d))) rfl (World.ownsRow.alloc HOWN2.out _) (w2.heap.size + 1) (some ⟨w2.heap.size, 0, none⟩) 1 1 [.int .i64 (y.u : Int), .int .i64 (y.d : Int), .int .u8 (y.lv : Int)] rfl rfl (seg_new _ 84 #[.int .i64 (y.u : Int), .int .i64 (y.d : Int), .int .u8 (y.lv : Int)]) (by simp [Value.oneCell']) hm1 hm2 (by rw [World.size_alloc]; omega) ?_
                     intro v4 w8 hown4 hg4 _
                     obtain ⟨A4, c4, rfl⟩ := own_shape hown4
                     have hb8 : Below w.heap.size w w8 := (HB2.out.alloc hs2 _).grown hg4 (by rw [World.size_alloc]; omega) (fun g hg => (HOWN2.out.lt g hg).1)
                     have HOWN4 := Lib.hid hown4
                     have HB8 := Lib.hid hb8
                     clear hown4 hg4 hb8)
        exact ⟨⟨i + 1, k + 1, A4, c4, by omega, by go_num, by rw [HTF2.out, List.length_append]; have := HK.out; simp; omega, rfl, by rw [HTF2.out, wt_cells_add]; exact HOWN4.out, HB8.out⟩, by simp [intOf]; omega⟩
    · obtain rfl : i = m := by omega
      have e1 : wl.take i = wl := by rw [HM.out]; exact List.take_length
      have hk := HK.out
      have hown := HOWN.out
      rw [e1] at hk hown
      have HK2 := Lib.hid hk
      have HOWN2 := Lib.hid hown
      clear hk hown e1
      go_wp2_with fail
      go_ret
      exact ⟨k, A, c, HK2.out, by rfl, HOWN2.out, HB.out⟩
end Go.Proofs.Ytghcemfffhjmjaa
