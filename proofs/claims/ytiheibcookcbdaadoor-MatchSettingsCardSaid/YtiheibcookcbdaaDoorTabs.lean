/- The families' tables: what lies, the five Tables, the five closures: contracts. -/
import Derived.Test.YtiheibcookcbdaaDoorQuirk
import Derived.Deep.MidRow
set_option linter.unusedVariables false
namespace Go.Proofs.YtiheibcookcbdaaDoor
open Go.RowKit
def ints (l : List Int) : List Value := l.map (.int .i64)
theorem ints_len (l : List Int) : (ints l).length = l.length := by simp [ints]
theorem ints_mem (l : List Int) : ∀ v ∈ ints l, v.oneCell' = true := fun v hv => by
  unfold ints at hv
  obtain ⟨x, _, rfl⟩ := List.mem_map.1 hv
  rfl
theorem ints_one (l : List Int) : (ints l).toArray.all (·.oneCell') = true := all_oneCell_toArray (ints_mem l)
theorem Seg.int {w : World} {B : Nat} {A : Option Addr} {us : List Int} (h : Seg w B A (ints us)) {j : Nat} (hj : j < us.length) : ∃ b off, A = some ⟨b, off, none⟩ ∧ b < B ∧ w.cell? ⟨b, off + j, none⟩ = some (.int .i64 us[j]) := by
  obtain ⟨b, off, e, hb, hc⟩ := h (by intro e; have := congrArg List.length e; rw [ints_len] at this; simp at this; subst this; simp at hj)
  exact ⟨b, off, e, hb, hc j _ (by unfold ints; simp [hj])⟩
/-- A row of cells of one's own: its range, and that it may be written. -/
theorem row_range {w : World} {g : Nat} {e : TypeId} {xs : List Value} (h : RowAt w g e xs) : w.rangeAt g 0 xs := fun j v hv => by
  rw [Nat.zero_add, h.cell (List.getElem?_eq_some_iff.1 hv).1, hv]
theorem row_there {w : World} {g : Nat} {e : TypeId} {xs : List Value} (h : RowAt w g e xs) : w.there g 0 xs.length := fun j hj => by
  refine ⟨?_, h.frozen _⟩
  rw [Nat.zero_add, h.cell hj, List.getElem?_eq_getElem hj]
  rfl
theorem row_setCells {g : Nat} {e : TypeId} : ∀ (vs : List Value) (o : Nat) (xs : List Value) (w : World), RowAt w g e xs → o + vs.length ≤ xs.length → RowAt (w.setCells g o vs) g e (xs.take o ++ vs ++ xs.drop (o + vs.length))
  | [], o, xs, w, h, hl => by simpa [World.setCells] using h
  | v :: r, o, xs, w, h, hl => by
    simp only [List.length_cons] at hl
    have := row_setCells r (o + 1) (xs.set o v) _ (h.store o v) (by simp; omega)
    have e1 : (xs.set o v).take (o + 1) = xs.take o ++ [v] := by
      rw [List.take_succ_eq_append_getElem (by simp; omega), List.take_set_of_le (Nat.le_refl _)]
      simp
    have e2 : (xs.set o v).drop (o + 1 + r.length) = xs.drop (o + (r.length + 1)) := by
      rw [List.drop_set_of_lt (by omega)]
      congr 1; omega
    rw [e1, e2] at this
    simpa [World.setCells] using this
theorem setCells_heap {g : Nat} : ∀ (vs : List Value) (o : Nat) (w : World) (k : Nat), k ≠ g → (w.setCells g o vs).heap[k]? = w.heap[k]?
  | [], o, w, k, h => rfl
  | v :: r, o, w, k, h => (setCells_heap r (o + 1) _ k h).trans (Below.heap_setCell _ _ _ _ h)
theorem setCells_size {g : Nat} : ∀ (vs : List Value) (o : Nat) (w : World), (w.setCells g o vs).heap.size = w.heap.size
  | [], o, w => rfl
  | v :: r, o, w => (setCells_size r (o + 1) _).trans (by simp [World.setCell])
theorem below_setCells {B g : Nat} {a : World} : ∀ (vs : List Value) (o : Nat) (w : World), Below B a w → B ≤ g → Below B a (w.setCells g o vs)
  | [], o, w, h, _ => h
  | v :: r, o, w, h, hg => below_setCells r (o + 1) _ (h.setCell (p := ⟨g, o, none⟩) hg v) hg
theorem results_cell_mid {fn : Func} {p : Tmp} {ty : TypeId} (h : fn.results = #[.cell p ty]) (tmps : Array Value) (P : Program) (w : World) (g : Nat) (cs : List Value) (d : TypeDesc)
    (hp : tmps.getD p undef = .pointer (some ⟨g, 0, none⟩)) (hc : w.rangeAt g 0 cs)
    (hu : P.underlying ty = some d) (hd : d.isRow = true) (hi : (P.info? ty).map (·.size) = some cs.length) :
    (results fn tmps).run P w = .ok (.agg cs.toArray) w := by
  have hp' : tmps[p]?.getD undef = .pointer (some ⟨g, 0, none⟩) := by simpa using hp
  simp [results, h, hp', asAddr, run_loadVar_mid w g 0 ty cs d hc hu hd hi]
def t_crystal : List Int := [32768, 2000000, 3000000, 4000000, 5000000, 6000000, 7000000, 8000000, 9000000, 10000000, 11000000, 12000000, 13000000, 14000000, 15000000, 16000000, 17000000, 18000000, 19000000, 20000000, 21000000, 22000000, 23000000, 24000000, 25000000, 26000000, 27000000, 28000000, 29000000, 30000000, 31000000, 100000000]
theorem len_crystal : t_crystal.length = 32 := rfl
def t_supply : List Int := [800000, 2312500, 3325000, 4337500, 5350000, 6362500, 7375000, 8387500, 9400000, 10412500, 11425000, 12437500, 13450000, 14462500, 15475000, 16487500, 17500000, 18512500, 19525000, 20537500, 21550000, 22562500, 23575000, 25000000]
theorem len_supply : t_supply.length = 24 := rfl
def t_bus : List Int := [271672320, 279750992, 284866528, 289982064, 295097600, 300213136, 305328672, 310444208, 315559744, 320675280, 325790816, 330906352, 336021888, 341137424, 346252960, 351368496, 356484032, 361599568, 366715104, 411830640]
theorem len_bus : t_bus.length = 20 := rfl
def t_sensor : List Int := [625000, 2122500, 3145000, 4167500, 5190000, 6212500, 7235000, 8257500, 9280000, 10302500, 11325000, 12347500, 13370000, 14392500, 15415000, 16937500]
theorem len_sensor : t_sensor.length = 16 := rfl
def t_radio : List Int := [432920000, 444020992, 451206528, 458392064, 465577600, 472763136, 479948672, 487134208, 494319744, 501505280, 508690816, 515876352, 523061888, 530247424, 537432960, 545618496, 518134032, 526269568, 533455104, 580610000]
theorem len_radio : t_radio.length = 20 := rfl
theorem Tryd.size51 : (Tryd.prog.info? 51).map (·.size) = some 32 := by kernel_rfl
theorem zero51 (w : World) : (zeroValue 51).run Tryd.prog w = .ok (.agg (ints (List.replicate 32 0)).toArray) w := by kernel_rfl
theorem Tryd.size53 : (Tryd.prog.info? 53).map (·.size) = some 24 := by kernel_rfl
theorem zero53 (w : World) : (zeroValue 53).run Tryd.prog w = .ok (.agg (ints (List.replicate 24 0)).toArray) w := by kernel_rfl
theorem Tryd.size55 : (Tryd.prog.info? 55).map (·.size) = some 20 := by kernel_rfl
theorem zero55 (w : World) : (zeroValue 55).run Tryd.prog w = .ok (.agg (ints (List.replicate 20 0)).toArray) w := by kernel_rfl
theorem Tryd.size57 : (Tryd.prog.info? 57).map (·.size) = some 16 := by kernel_rfl
theorem zero57 (w : World) : (zeroValue 57).run Tryd.prog w = .ok (.agg (ints (List.replicate 16 0)).toArray) w := by kernel_rfl
/-- The tables as they stand. -/
structure Laid (w : World) : Prop where
  crystal : w.rangeAt 0 0 (ints t_crystal)
  supply : w.rangeAt 1 0 (ints t_supply)
  bus : w.rangeAt 2 0 (ints t_bus)
  sensor : w.rangeAt 3 0 (ints t_sensor)
  radio : w.rangeAt 4 0 (ints t_radio)
theorem range_below {w w' : World} {B b : Nat} {cs : List Value} (h : w.rangeAt b 0 cs) (hb : Below B w w') (hB : b < B) : w'.rangeAt b 0 cs := fun j v hv => (hb.cell (p := ⟨b, 0 + j, none⟩) hB).trans (h j v hv)
theorem Laid.below {w w' : World} {B : Nat} (h : Laid w) (hb : Below B w w') (hB : 5 ≤ B) : Laid w' :=
  ⟨range_below h.crystal hb (by omega), range_below h.supply hb (by omega), range_below h.bus hb (by omega), range_below h.sensor hb (by omega), range_below h.radio hb (by omega)⟩
theorem cells_lt {w : World} {b : Nat} {cs : List Value} (h : w.rangeAt b 0 cs) (h0 : 0 < cs.length) : b < w.heap.size := by
  have := h 0 cs[0] (by simp)
  exact World.block_lt_of_cell? w _ this
theorem Laid.size {w : World} (h : Laid w) : 5 ≤ w.heap.size := cells_lt h.radio (by rw [ints_len, len_radio]; omega)
/-- A row that was just made is filled. -/
theorem fill {w : World} {e : TypeId} {zs cs : List Value} {g : Nat} (hg : g = w.heap.size) (hl : cs.length = zs.length) : (w.alloc (.cells zs.toArray e)).there g 0 cs.length ∧ RowAt ((w.alloc (.cells zs.toArray e)).setCells g 0 cs) g e cs := by
  subst hg
  have hr : RowAt (w.alloc (.cells zs.toArray e)) w.heap.size e zs := ⟨_, heap_alloc_new _ _, by simp⟩
  refine ⟨by rw [hl]; exact row_there hr, ?_⟩
  have := row_setCells cs 0 zs _ hr (by omega)
  simpa [hl] using this
set_option maxRecDepth 100000 in
theorem tab_crystal (w : World) (h : Laid w) : Calls Tryd.prog 16 #[] w fun e w' => e = .returned (.agg (ints t_crystal).toArray) ∧ Below w.heap.size w w' := by
  have hz := zero51
  have hl : (ints t_crystal).length = (ints (List.replicate 32 0)).length := by rw [ints_len, ints_len, len_crystal, List.length_replicate]
  obtain ⟨h1, h2⟩ := fill (w := w) (e := 51) (g := w.heap.size) rfl hl
  have hc := h.crystal
  have hc2 : (w.alloc (.cells (ints (List.replicate 32 0)).toArray 51)).rangeAt 0 0 (ints t_crystal) := range_below hc ((Below.refl _ _).alloc (Nat.le_refl _) _) (by have := h.size; omega)
  have hlen : (ints t_crystal).length = 32 := by rw [ints_len, len_crystal]
  have hb : Below w.heap.size w ((w.alloc (.cells (ints (List.replicate 32 0)).toArray 51)).setCells w.heap.size 0 (ints t_crystal)) := below_setCells _ _ _ ((Below.refl _ _).alloc (Nat.le_refl _) _) (Nat.le_refl _)
  have hs1 : (Tryd.prog.info? 51).map (·.size) = some (ints t_crystal).length := by rw [hlen]; exact Tryd.size51
  have hs2 : (Tryd.prog.info? 51).map (·.size) = some (ints t_crystal).toArray.size := by rw [List.size_toArray, hlen]; exact Tryd.size51
  have ho := ints_one t_crystal
  generalize ints t_crystal = cs at *
  generalize (ints (List.replicate 32 0)).toArray = Z at *
  have H1 := Lib.hid h1
  have H2 := Lib.hid h2
  have HC := Lib.hid hc2
  have HB := Lib.hid hb
  have HS1 := Lib.hid hs1
  have HS2 := Lib.hid hs2
  have HO := Lib.hid ho
  clear h1 h2 hc hc2 hb hs1 hs2 ho hl hlen h
  go_enter Tryd.func16, Tryd.ntmps16
  go_wp2_with (first
    | (guard_target = wpList Tryd.prog _ _ ({ dst := _, op := Op.load 51 _, type := _, pos := _, after := _, guard := _ } :: _) _ _; refine wpList_load_mid rfl 51 (.global 0) rfl 0 0 rfl cs _ HC.out Tryd.underlying51 rfl HS1.out ?_)
    | (guard_target = wpList Tryd.prog _ _ ({ dst := none, op := Op.store 51 _ _, type := _, pos := _, after := _, guard := _ } :: _) _ _; refine wpList_store_mid rfl 51 (.tmp 0) (.tmp 1) rfl w.heap.size 0 cs.toArray rfl rfl H1.out HS2.out HO.out ?_)
    | fail)
  refine bodyPost_ret (v := .agg cs.toArray) (results_cell_mid Tryd.results16 _ _ _ w.heap.size cs _ rfl (row_range H2.out) Tryd.underlying51 rfl HS1.out) rfl ⟨rfl, HB.out⟩
set_option maxRecDepth 100000 in
theorem clos_crystal (w : World) (h : Laid w) : Calls Tryd.prog 15 #[] w fun e w' => ∃ g, e = .returned (.slice (some ⟨g, 0, none⟩) 32 32) ∧ w'.rangeAt g 0 (ints t_crystal) ∧ g < w'.heap.size ∧ Below w.heap.size w w' := by
  have hz := zero51
  have ht := tab_crystal w h
  have hl : (ints t_crystal).length = (ints (List.replicate 32 0)).length := by rw [ints_len, ints_len, len_crystal, List.length_replicate]
  have hfill := fun (w1 : World) => fill (w := w1) (e := 51) (g := w1.heap.size) rfl hl
  have hlen : (ints t_crystal).length = 32 := by rw [ints_len, len_crystal]
  have hs2 : (Tryd.prog.info? 51).map (·.size) = some (ints t_crystal).toArray.size := by rw [List.size_toArray, hlen]; exact Tryd.size51
  have ho := ints_one t_crystal
  generalize ints t_crystal = cs at *
  generalize (ints (List.replicate 32 0)).toArray = Z at *
  have HT := Lib.hid ht
  have HF := Lib.hid hfill
  have HS2 := Lib.hid hs2
  have HO := Lib.hid ho
  clear ht hfill hs2 ho hl hlen h
  go_enter Tryd.func15, Tryd.ntmps15
  go_wp2_with (first
    | (go_at_call 16; refine HT.out.mono ?_; rintro e w1 ⟨rfl, hb1⟩; have HB1 := Lib.hid hb1; have H1 := Lib.hid (HF.out w1).1; have H2 := Lib.hid (HF.out w1).2; clear hb1)
    | (guard_target = wpList Tryd.prog _ _ ({ dst := none, op := Op.store 51 _ _, type := _, pos := _, after := _, guard := _ } :: _) _ _; refine wpList_store_mid rfl 51 (.tmp 1) (.tmp 2) rfl w1.heap.size 0 cs.toArray rfl rfl H1.out HS2.out HO.out ?_)
    | fail)
  go_ret
  exact ⟨w1.heap.size, by rfl, row_range H2.out, H2.out.lt, below_setCells _ _ _ (HB1.out.alloc HB1.out.size _) HB1.out.size⟩
set_option maxRecDepth 100000 in
theorem tab_supply (w : World) (h : Laid w) : Calls Tryd.prog 18 #[] w fun e w' => e = .returned (.agg (ints t_supply).toArray) ∧ Below w.heap.size w w' := by
  have hz := zero53
  have hl : (ints t_supply).length = (ints (List.replicate 24 0)).length := by rw [ints_len, ints_len, len_supply, List.length_replicate]
  obtain ⟨h1, h2⟩ := fill (w := w) (e := 53) (g := w.heap.size) rfl hl
  have hc := h.supply
  have hc2 : (w.alloc (.cells (ints (List.replicate 24 0)).toArray 53)).rangeAt 1 0 (ints t_supply) := range_below hc ((Below.refl _ _).alloc (Nat.le_refl _) _) (by have := h.size; omega)
  have hlen : (ints t_supply).length = 24 := by rw [ints_len, len_supply]
  have hb : Below w.heap.size w ((w.alloc (.cells (ints (List.replicate 24 0)).toArray 53)).setCells w.heap.size 0 (ints t_supply)) := below_setCells _ _ _ ((Below.refl _ _).alloc (Nat.le_refl _) _) (Nat.le_refl _)
  have hs1 : (Tryd.prog.info? 53).map (·.size) = some (ints t_supply).length := by rw [hlen]; exact Tryd.size53
  have hs2 : (Tryd.prog.info? 53).map (·.size) = some (ints t_supply).toArray.size := by rw [List.size_toArray, hlen]; exact Tryd.size53
  have ho := ints_one t_supply
  generalize ints t_supply = cs at *
  generalize (ints (List.replicate 24 0)).toArray = Z at *
  have H1 := Lib.hid h1
  have H2 := Lib.hid h2
  have HC := Lib.hid hc2
  have HB := Lib.hid hb
  have HS1 := Lib.hid hs1
  have HS2 := Lib.hid hs2
  have HO := Lib.hid ho
  clear h1 h2 hc hc2 hb hs1 hs2 ho hl hlen h
  go_enter Tryd.func18, Tryd.ntmps18
  go_wp2_with (first
    | (guard_target = wpList Tryd.prog _ _ ({ dst := _, op := Op.load 53 _, type := _, pos := _, after := _, guard := _ } :: _) _ _; refine wpList_load_mid rfl 53 (.global 1) rfl 1 0 rfl cs _ HC.out Tryd.underlying53 rfl HS1.out ?_)
    | (guard_target = wpList Tryd.prog _ _ ({ dst := none, op := Op.store 53 _ _, type := _, pos := _, after := _, guard := _ } :: _) _ _; refine wpList_store_mid rfl 53 (.tmp 0) (.tmp 1) rfl w.heap.size 0 cs.toArray rfl rfl H1.out HS2.out HO.out ?_)
    | fail)
  refine bodyPost_ret (v := .agg cs.toArray) (results_cell_mid Tryd.results18 _ _ _ w.heap.size cs _ rfl (row_range H2.out) Tryd.underlying53 rfl HS1.out) rfl ⟨rfl, HB.out⟩
set_option maxRecDepth 100000 in
theorem clos_supply (w : World) (h : Laid w) : Calls Tryd.prog 17 #[] w fun e w' => ∃ g, e = .returned (.slice (some ⟨g, 0, none⟩) 24 24) ∧ w'.rangeAt g 0 (ints t_supply) ∧ g < w'.heap.size ∧ Below w.heap.size w w' := by
  have hz := zero53
  have ht := tab_supply w h
  have hl : (ints t_supply).length = (ints (List.replicate 24 0)).length := by rw [ints_len, ints_len, len_supply, List.length_replicate]
  have hfill := fun (w1 : World) => fill (w := w1) (e := 53) (g := w1.heap.size) rfl hl
  have hlen : (ints t_supply).length = 24 := by rw [ints_len, len_supply]
  have hs2 : (Tryd.prog.info? 53).map (·.size) = some (ints t_supply).toArray.size := by rw [List.size_toArray, hlen]; exact Tryd.size53
  have ho := ints_one t_supply
  generalize ints t_supply = cs at *
  generalize (ints (List.replicate 24 0)).toArray = Z at *
  have HT := Lib.hid ht
  have HF := Lib.hid hfill
  have HS2 := Lib.hid hs2
  have HO := Lib.hid ho
  clear ht hfill hs2 ho hl hlen h
  go_enter Tryd.func17, Tryd.ntmps17
  go_wp2_with (first
    | (go_at_call 18; refine HT.out.mono ?_; rintro e w1 ⟨rfl, hb1⟩; have HB1 := Lib.hid hb1; have H1 := Lib.hid (HF.out w1).1; have H2 := Lib.hid (HF.out w1).2; clear hb1)
    | (guard_target = wpList Tryd.prog _ _ ({ dst := none, op := Op.store 53 _ _, type := _, pos := _, after := _, guard := _ } :: _) _ _; refine wpList_store_mid rfl 53 (.tmp 1) (.tmp 2) rfl w1.heap.size 0 cs.toArray rfl rfl H1.out HS2.out HO.out ?_)
    | fail)
  go_ret
  exact ⟨w1.heap.size, by rfl, row_range H2.out, H2.out.lt, below_setCells _ _ _ (HB1.out.alloc HB1.out.size _) HB1.out.size⟩
set_option maxRecDepth 100000 in
theorem tab_bus (w : World) (h : Laid w) : Calls Tryd.prog 20 #[] w fun e w' => e = .returned (.agg (ints t_bus).toArray) ∧ Below w.heap.size w w' := by
  have hz := zero55
  have hl : (ints t_bus).length = (ints (List.replicate 20 0)).length := by rw [ints_len, ints_len, len_bus, List.length_replicate]
  obtain ⟨h1, h2⟩ := fill (w := w) (e := 55) (g := w.heap.size) rfl hl
  have hc := h.bus
  have hc2 : (w.alloc (.cells (ints (List.replicate 20 0)).toArray 55)).rangeAt 2 0 (ints t_bus) := range_below hc ((Below.refl _ _).alloc (Nat.le_refl _) _) (by have := h.size; omega)
  have hlen : (ints t_bus).length = 20 := by rw [ints_len, len_bus]
  have hb : Below w.heap.size w ((w.alloc (.cells (ints (List.replicate 20 0)).toArray 55)).setCells w.heap.size 0 (ints t_bus)) := below_setCells _ _ _ ((Below.refl _ _).alloc (Nat.le_refl _) _) (Nat.le_refl _)
  have hs1 : (Tryd.prog.info? 55).map (·.size) = some (ints t_bus).length := by rw [hlen]; exact Tryd.size55
  have hs2 : (Tryd.prog.info? 55).map (·.size) = some (ints t_bus).toArray.size := by rw [List.size_toArray, hlen]; exact Tryd.size55
  have ho := ints_one t_bus
  generalize ints t_bus = cs at *
  generalize (ints (List.replicate 20 0)).toArray = Z at *
  have H1 := Lib.hid h1
  have H2 := Lib.hid h2
  have HC := Lib.hid hc2
  have HB := Lib.hid hb
  have HS1 := Lib.hid hs1
  have HS2 := Lib.hid hs2
  have HO := Lib.hid ho
  clear h1 h2 hc hc2 hb hs1 hs2 ho hl hlen h
  go_enter Tryd.func20, Tryd.ntmps20
  go_wp2_with (first
    | (guard_target = wpList Tryd.prog _ _ ({ dst := _, op := Op.load 55 _, type := _, pos := _, after := _, guard := _ } :: _) _ _; refine wpList_load_mid rfl 55 (.global 2) rfl 2 0 rfl cs _ HC.out Tryd.underlying55 rfl HS1.out ?_)
    | (guard_target = wpList Tryd.prog _ _ ({ dst := none, op := Op.store 55 _ _, type := _, pos := _, after := _, guard := _ } :: _) _ _; refine wpList_store_mid rfl 55 (.tmp 0) (.tmp 1) rfl w.heap.size 0 cs.toArray rfl rfl H1.out HS2.out HO.out ?_)
    | fail)
  refine bodyPost_ret (v := .agg cs.toArray) (results_cell_mid Tryd.results20 _ _ _ w.heap.size cs _ rfl (row_range H2.out) Tryd.underlying55 rfl HS1.out) rfl ⟨rfl, HB.out⟩
set_option maxRecDepth 100000 in
theorem clos_bus (w : World) (h : Laid w) : Calls Tryd.prog 19 #[] w fun e w' => ∃ g, e = .returned (.slice (some ⟨g, 0, none⟩) 20 20) ∧ w'.rangeAt g 0 (ints t_bus) ∧ g < w'.heap.size ∧ Below w.heap.size w w' := by
  have hz := zero55
  have ht := tab_bus w h
  have hl : (ints t_bus).length = (ints (List.replicate 20 0)).length := by rw [ints_len, ints_len, len_bus, List.length_replicate]
  have hfill := fun (w1 : World) => fill (w := w1) (e := 55) (g := w1.heap.size) rfl hl
  have hlen : (ints t_bus).length = 20 := by rw [ints_len, len_bus]
  have hs2 : (Tryd.prog.info? 55).map (·.size) = some (ints t_bus).toArray.size := by rw [List.size_toArray, hlen]; exact Tryd.size55
  have ho := ints_one t_bus
  generalize ints t_bus = cs at *
  generalize (ints (List.replicate 20 0)).toArray = Z at *
  have HT := Lib.hid ht
  have HF := Lib.hid hfill
  have HS2 := Lib.hid hs2
  have HO := Lib.hid ho
  clear ht hfill hs2 ho hl hlen h
  go_enter Tryd.func19, Tryd.ntmps19
  go_wp2_with (first
    | (go_at_call 20; refine HT.out.mono ?_; rintro e w1 ⟨rfl, hb1⟩; have HB1 := Lib.hid hb1; have H1 := Lib.hid (HF.out w1).1; have H2 := Lib.hid (HF.out w1).2; clear hb1)
    | (guard_target = wpList Tryd.prog _ _ ({ dst := none, op := Op.store 55 _ _, type := _, pos := _, after := _, guard := _ } :: _) _ _; refine wpList_store_mid rfl 55 (.tmp 1) (.tmp 2) rfl w1.heap.size 0 cs.toArray rfl rfl H1.out HS2.out HO.out ?_)
    | fail)
  go_ret
  exact ⟨w1.heap.size, by rfl, row_range H2.out, H2.out.lt, below_setCells _ _ _ (HB1.out.alloc HB1.out.size _) HB1.out.size⟩
set_option maxRecDepth 100000 in
theorem tab_sensor (w : World) (h : Laid w) : Calls Tryd.prog 22 #[] w fun e w' => e = .returned (.agg (ints t_sensor).toArray) ∧ Below w.heap.size w w' := by
  have hz := zero57
  have hl : (ints t_sensor).length = (ints (List.replicate 16 0)).length := by rw [ints_len, ints_len, len_sensor, List.length_replicate]
  obtain ⟨h1, h2⟩ := fill (w := w) (e := 57) (g := w.heap.size) rfl hl
  have hc := h.sensor
  have hc2 : (w.alloc (.cells (ints (List.replicate 16 0)).toArray 57)).rangeAt 3 0 (ints t_sensor) := range_below hc ((Below.refl _ _).alloc (Nat.le_refl _) _) (by have := h.size; omega)
  have hlen : (ints t_sensor).length = 16 := by rw [ints_len, len_sensor]
  have hb : Below w.heap.size w ((w.alloc (.cells (ints (List.replicate 16 0)).toArray 57)).setCells w.heap.size 0 (ints t_sensor)) := below_setCells _ _ _ ((Below.refl _ _).alloc (Nat.le_refl _) _) (Nat.le_refl _)
  have hs1 : (Tryd.prog.info? 57).map (·.size) = some (ints t_sensor).length := by rw [hlen]; exact Tryd.size57
  have hs2 : (Tryd.prog.info? 57).map (·.size) = some (ints t_sensor).toArray.size := by rw [List.size_toArray, hlen]; exact Tryd.size57
  have ho := ints_one t_sensor
  generalize ints t_sensor = cs at *
  generalize (ints (List.replicate 16 0)).toArray = Z at *
  have H1 := Lib.hid h1
  have H2 := Lib.hid h2
  have HC := Lib.hid hc2
  have HB := Lib.hid hb
  have HS1 := Lib.hid hs1
  have HS2 := Lib.hid hs2
  have HO := Lib.hid ho
  clear h1 h2 hc hc2 hb hs1 hs2 ho hl hlen h
  go_enter Tryd.func22, Tryd.ntmps22
  go_wp2_with (first
    | (guard_target = wpList Tryd.prog _ _ ({ dst := _, op := Op.load 57 _, type := _, pos := _, after := _, guard := _ } :: _) _ _; refine wpList_load_mid rfl 57 (.global 3) rfl 3 0 rfl cs _ HC.out Tryd.underlying57 rfl HS1.out ?_)
    | (guard_target = wpList Tryd.prog _ _ ({ dst := none, op := Op.store 57 _ _, type := _, pos := _, after := _, guard := _ } :: _) _ _; refine wpList_store_mid rfl 57 (.tmp 0) (.tmp 1) rfl w.heap.size 0 cs.toArray rfl rfl H1.out HS2.out HO.out ?_)
    | fail)
  refine bodyPost_ret (v := .agg cs.toArray) (results_cell_mid Tryd.results22 _ _ _ w.heap.size cs _ rfl (row_range H2.out) Tryd.underlying57 rfl HS1.out) rfl ⟨rfl, HB.out⟩
set_option maxRecDepth 100000 in
theorem clos_sensor (w : World) (h : Laid w) : Calls Tryd.prog 21 #[] w fun e w' => ∃ g, e = .returned (.slice (some ⟨g, 0, none⟩) 16 16) ∧ w'.rangeAt g 0 (ints t_sensor) ∧ g < w'.heap.size ∧ Below w.heap.size w w' := by
  have hz := zero57
  have ht := tab_sensor w h
  have hl : (ints t_sensor).length = (ints (List.replicate 16 0)).length := by rw [ints_len, ints_len, len_sensor, List.length_replicate]
  have hfill := fun (w1 : World) => fill (w := w1) (e := 57) (g := w1.heap.size) rfl hl
  have hlen : (ints t_sensor).length = 16 := by rw [ints_len, len_sensor]
  have hs2 : (Tryd.prog.info? 57).map (·.size) = some (ints t_sensor).toArray.size := by rw [List.size_toArray, hlen]; exact Tryd.size57
  have ho := ints_one t_sensor
  generalize ints t_sensor = cs at *
  generalize (ints (List.replicate 16 0)).toArray = Z at *
  have HT := Lib.hid ht
  have HF := Lib.hid hfill
  have HS2 := Lib.hid hs2
  have HO := Lib.hid ho
  clear ht hfill hs2 ho hl hlen h
  go_enter Tryd.func21, Tryd.ntmps21
  go_wp2_with (first
    | (go_at_call 22; refine HT.out.mono ?_; rintro e w1 ⟨rfl, hb1⟩; have HB1 := Lib.hid hb1; have H1 := Lib.hid (HF.out w1).1; have H2 := Lib.hid (HF.out w1).2; clear hb1)
    | (guard_target = wpList Tryd.prog _ _ ({ dst := none, op := Op.store 57 _ _, type := _, pos := _, after := _, guard := _ } :: _) _ _; refine wpList_store_mid rfl 57 (.tmp 1) (.tmp 2) rfl w1.heap.size 0 cs.toArray rfl rfl H1.out HS2.out HO.out ?_)
    | fail)
  go_ret
  exact ⟨w1.heap.size, by rfl, row_range H2.out, H2.out.lt, below_setCells _ _ _ (HB1.out.alloc HB1.out.size _) HB1.out.size⟩
set_option maxRecDepth 100000 in
theorem tab_radio (w : World) (h : Laid w) : Calls Tryd.prog 24 #[] w fun e w' => e = .returned (.agg (ints t_radio).toArray) ∧ Below w.heap.size w w' := by
  have hz := zero55
  have hl : (ints t_radio).length = (ints (List.replicate 20 0)).length := by rw [ints_len, ints_len, len_radio, List.length_replicate]
  obtain ⟨h1, h2⟩ := fill (w := w) (e := 55) (g := w.heap.size) rfl hl
  have hc := h.radio
  have hc2 : (w.alloc (.cells (ints (List.replicate 20 0)).toArray 55)).rangeAt 4 0 (ints t_radio) := range_below hc ((Below.refl _ _).alloc (Nat.le_refl _) _) (by have := h.size; omega)
  have hlen : (ints t_radio).length = 20 := by rw [ints_len, len_radio]
  have hb : Below w.heap.size w ((w.alloc (.cells (ints (List.replicate 20 0)).toArray 55)).setCells w.heap.size 0 (ints t_radio)) := below_setCells _ _ _ ((Below.refl _ _).alloc (Nat.le_refl _) _) (Nat.le_refl _)
  have hs1 : (Tryd.prog.info? 55).map (·.size) = some (ints t_radio).length := by rw [hlen]; exact Tryd.size55
  have hs2 : (Tryd.prog.info? 55).map (·.size) = some (ints t_radio).toArray.size := by rw [List.size_toArray, hlen]; exact Tryd.size55
  have ho := ints_one t_radio
  generalize ints t_radio = cs at *
  generalize (ints (List.replicate 20 0)).toArray = Z at *
  have H1 := Lib.hid h1
  have H2 := Lib.hid h2
  have HC := Lib.hid hc2
  have HB := Lib.hid hb
  have HS1 := Lib.hid hs1
  have HS2 := Lib.hid hs2
  have HO := Lib.hid ho
  clear h1 h2 hc hc2 hb hs1 hs2 ho hl hlen h
  go_enter Tryd.func24, Tryd.ntmps24
  go_wp2_with (first
    | (guard_target = wpList Tryd.prog _ _ ({ dst := _, op := Op.load 55 _, type := _, pos := _, after := _, guard := _ } :: _) _ _; refine wpList_load_mid rfl 55 (.global 4) rfl 4 0 rfl cs _ HC.out Tryd.underlying55 rfl HS1.out ?_)
    | (guard_target = wpList Tryd.prog _ _ ({ dst := none, op := Op.store 55 _ _, type := _, pos := _, after := _, guard := _ } :: _) _ _; refine wpList_store_mid rfl 55 (.tmp 0) (.tmp 1) rfl w.heap.size 0 cs.toArray rfl rfl H1.out HS2.out HO.out ?_)
    | fail)
  refine bodyPost_ret (v := .agg cs.toArray) (results_cell_mid Tryd.results24 _ _ _ w.heap.size cs _ rfl (row_range H2.out) Tryd.underlying55 rfl HS1.out) rfl ⟨rfl, HB.out⟩
set_option maxRecDepth 100000 in
theorem clos_radio (w : World) (h : Laid w) : Calls Tryd.prog 23 #[] w fun e w' => ∃ g, e = .returned (.slice (some ⟨g, 0, none⟩) 20 20) ∧ w'.rangeAt g 0 (ints t_radio) ∧ g < w'.heap.size ∧ Below w.heap.size w w' := by
  have hz := zero55
  have ht := tab_radio w h
  have hl : (ints t_radio).length = (ints (List.replicate 20 0)).length := by rw [ints_len, ints_len, len_radio, List.length_replicate]
  have hfill := fun (w1 : World) => fill (w := w1) (e := 55) (g := w1.heap.size) rfl hl
  have hlen : (ints t_radio).length = 20 := by rw [ints_len, len_radio]
  have hs2 : (Tryd.prog.info? 55).map (·.size) = some (ints t_radio).toArray.size := by rw [List.size_toArray, hlen]; exact Tryd.size55
  have ho := ints_one t_radio
  generalize ints t_radio = cs at *
  generalize (ints (List.replicate 20 0)).toArray = Z at *
  have HT := Lib.hid ht
  have HF := Lib.hid hfill
  have HS2 := Lib.hid hs2
  have HO := Lib.hid ho
  clear ht hfill hs2 ho hl hlen h
  go_enter Tryd.func23, Tryd.ntmps23
  go_wp2_with (first
    | (go_at_call 24; refine HT.out.mono ?_; rintro e w1 ⟨rfl, hb1⟩; have HB1 := Lib.hid hb1; have H1 := Lib.hid (HF.out w1).1; have H2 := Lib.hid (HF.out w1).2; clear hb1)
    | (guard_target = wpList Tryd.prog _ _ ({ dst := none, op := Op.store 55 _ _, type := _, pos := _, after := _, guard := _ } :: _) _ _; refine wpList_store_mid rfl 55 (.tmp 1) (.tmp 2) rfl w1.heap.size 0 cs.toArray rfl rfl H1.out HS2.out HO.out ?_)
    | fail)
  go_ret
  exact ⟨w1.heap.size, by rfl, row_range H2.out, H2.out.lt, below_setCells _ _ _ (HB1.out.alloc HB1.out.size _) HB1.out.size⟩
end Go.Proofs.YtiheibcookcbdaaDoor
