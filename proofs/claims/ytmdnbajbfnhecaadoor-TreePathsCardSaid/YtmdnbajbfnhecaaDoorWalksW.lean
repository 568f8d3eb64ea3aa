/- The walk of TreeWalks. -/
import Derived.Test.YtmdnbajbfnhecaaDoorWStops
import Derived.Test.YtmdnbajbfnhecaaDoorWorks
set_option linter.unusedVariables false
namespace Go.Proofs.YtmdnbajbfnhecaaDoor
open Go.RowKit Go.Shelf
attribute [local go_sem] Oper.semAt_some
theorem row_own {β : Type} (B g : Nat) (e : TypeId) (f : β → List Value) : OwnFrom B (fun (s : β) W => RowAt W g e (f s)) := fun s A B' row hs hg hr =>
  hs.keep (hg.block g hs.lt (fun h => by
    obtain ⟨_, o, ho, hc⟩ := hr g h.symm
    obtain ⟨cur, hh, _⟩ := hs
    rw [hh] at ho
    injection ho with ho
    subst ho
    cases hc))
/-- The marks that ranges over a function have left. -/
def MarksAt (Ds : List Nat) (B : Nat) (W : World) : Prop := Ds.Nodup ∧ ∀ D ∈ Ds, B ≤ D ∧ W.heap[D]? = some (.deferred (some []))
theorem marks_own {β : Type} {Ds : List Nat} {B0 B : Nat} (hlt : ∀ D ∈ Ds, D < B) : OwnFrom B (fun (_ : β) W => MarksAt Ds B0 W) := fun s A B' row hs hg hr =>
  ⟨hs.1, fun D hD => ⟨(hs.2 D hD).1, (hg.block D (lt_of_heap (hs.2 D hD).2) (fun h => by have := (hr D h.symm).1; have := hlt D hD; omega)).trans (hs.2 D hD).2⟩⟩
theorem keeps_below {W W' : World} (h : Below W.heap.size W W') : KeepsOthers W W' := ⟨h.size, fun k o hk _ => (h.block k (lt_of_heap hk)).trans hk⟩
def marks (Ds : List Nat) : List Deferred := Ds.map fun D => { target := .collected D, args := #[] }
def shutAll (w : World) : List Nat → World
  | [] => w
  | D :: r => shutAll (w.putObj D (.deferred none)) r
theorem shut_other {g : Nat} : ∀ (Ds : List Nat) (w : World), g ∉ Ds → (shutAll w Ds).heap[g]? = w.heap[g]?
  | [], _, _ => rfl
  | D :: r, w, h => by
    rw [List.mem_cons, not_or] at h
    rw [shutAll, shut_other r _ h.2, World.putObj_heap_other h.1]
theorem shut_below {B : Nat} {a : World} : ∀ (Ds : List Nat) (w : World), (∀ D ∈ Ds, B ≤ D) → Below B a w → Below B a (shutAll w Ds)
  | [], _, _, h => h
  | D :: r, w, hD, h => shut_below r _ (fun x hx => hD x (List.mem_cons_of_mem _ hx)) (h.trans ⟨rfl, rfl, rfl, by simp, fun k hk => World.putObj_heap_other (fun e => by have := hD D List.mem_cons_self; omega)⟩)
theorem leaves_marks {F : Fence} {n : Nat} {P : Program} {fn : Func} {tmps : Array Value} {R : Ending → World → Prop} : ∀ (Ds : List Nat) (w : World), Ds.Nodup → (∀ D ∈ Ds, w.heap[D]? = some (.deferred (some []))) →
    LeavesIn F n P fn tmps R [] .returning (shutAll w Ds) → LeavesInM F n P fn tmps R (marks Ds) .returning w
  | [], w, _, _, h => h
  | D :: r, w, hn, hD, h => by
    refine ⟨by simp, .inl ⟨D, _, rfl, run_takeDeferred (hD D List.mem_cons_self), ?_⟩⟩
    rw [List.nodup_cons] at hn
    refine leaves_marks r _ hn.2 (fun x hx => ?_) h
    rw [World.putObj_heap_other (fun e => hn.1 (by rw [← e]; exact hx))]
    exact hD x (List.mem_cons_of_mem _ hx)
def tmW (v0 v1 v2 v3 v4 v5 v6 v7 v8 v9 : Value) (u : Nat → Value) : List Value := v0 :: v1 :: v2 :: v3 :: v4 :: v5 :: v6 :: v7 :: v8 :: v9 :: u 10 :: u 11 :: u 12 :: u 13 :: u 14 :: u 15 :: u 16 :: u 17 :: u 18 :: u 19 :: u 20 :: u 21 :: u 22 :: u 23 :: u 24 :: u 25 :: u 26 :: u 27 :: u 28 :: u 29 :: u 30 :: u 31 :: u 32 :: u 33 :: u 34 :: u 35 :: u 36 :: u 37 :: u 38 :: u 39 :: u 40 :: u 41 :: u 42 :: u 43 :: u 44 :: u 45 :: u 46 :: u 47 :: u 48 :: u 49 :: u 50 :: u 51 :: u 52 :: u 53 :: u 54 :: u 55 :: u 56 :: u 57 :: u 58 :: u 59 :: u 60 :: u 61 :: u 62 :: u 63 :: u 64 :: u 65 :: u 66 :: u 67 :: u 68 :: u 69 :: undef :: []
theorem func_nil (b : Nat) (W : World) : (binOp BinOp.eql 47 (.func (.func 62) #[] #[.pointer (some ⟨b, 0, none⟩)]) .nilFunc).run Tryd.prog W = .ok (.bool false) W := by
  have h : ∀ d : Nat, (Op.equalIn (d + 1) 47 (.func (.func 62) #[] #[.pointer (some ⟨b, 0, none⟩)]) .nilFunc).run Tryd.prog W = .ok false W := fun d => by
    simp [Op.equalIn, run_underlying Tryd.underlying47]
  simp only [binOp]
  simp [Op.equal, Op.maxDepth, h 9999]
theorem mism {ps : List ByteArray} {pre : List (ByteArray × Nat)} {x : ByteArray × Nat} (h : x ≠ pairOf ps pre.length) : ¬ ∃ k, k ≤ ps.length ∧ pre ++ [x] = upto (pairOf ps) k := by
  rintro ⟨k, _, e⟩
  have hl := congrArg List.length e
  rw [upto_length, List.length_append, List.length_singleton] at hl
  subst hl
  rw [upto_succ] at e
  have := List.append_inj' e rfl
  exact h (by simpa using this.2)
theorem MarksAt.keep {Ds : List Nat} {B : Nat} {W W' : World} (h : MarksAt Ds B W) (hk : ∀ D ∈ Ds, W'.heap[D]? = W.heap[D]?) : MarksAt Ds B W' := ⟨h.1, fun D hD => ⟨(h.2 D hD).1, (hk D hD).trans (h.2 D hD).2⟩⟩
theorem MarksAt.below {Ds : List Nat} {B : Nat} {W W' : World} (h : MarksAt Ds B W) (hb : Below W.heap.size W W') : MarksAt Ds B W' := h.keep fun D hD => hb.block D (lt_of_heap (h.2 D hD).2)
theorem MarksAt.set {Ds : List Nat} {B g : Nat} {e : TypeId} {xs : List Value} {W : World} (h : MarksAt Ds B W) (hr : RowAt W g e xs) (v : Value) : MarksAt Ds B (W.setCell ⟨g, 0, none⟩ v) := h.keep fun D hD => Below.heap_setCell _ _ _ _ (fun e2 => by
  have h2 := (h.2 D hD).2
  obtain ⟨cur, hh, _⟩ := hr
  have e3 : D = g := e2
  rw [e3, hh] at h2
  cases h2)
theorem MarksAt.cons {Ds : List Nat} {B D : Nat} {W : World} (h : MarksAt Ds B W) (hB : B ≤ D) (hD : W.heap[D]? = some (.deferred (some []))) (hlt : ∀ x ∈ Ds, x < D) : MarksAt (D :: Ds) B W :=
  ⟨List.nodup_cons.2 ⟨fun hx => by have := hlt D hx; omega, h.1⟩, fun x hx => by
    rcases List.mem_cons.1 hx with rfl | hx
    · exact ⟨hB, hD⟩
    · exact h.2 x hx⟩
set_option maxRecDepth 100000 in
set_option maxHeartbeats 8000000 in
theorem treeWalks_walk (A : Option Addr) (cap n : Nat) (l : List Nm) (hn : n = l.length) (hsz : Sized l) (st : Int) (w : World) (hv0 : Var0 w) (hw0 : 0 < w.heap.size) (hs : Nodes w w.heap.size A l) :
    Calls Tryd.prog 6 #[.slice A n cap, .int .i64 st] w fun e w' => e = .returned (.bool true) ∧ Below w.heap.size w w' := by
  have hnn : n * 48 ≤ 140737488355328 := by rw [hn]; exact hsz.n
  obtain ⟨W0, hW0⟩ : ∃ W0, W0 = ((w.alloc (.cells #[.slice A n cap] 22)).alloc (.cells #[.int .i64 st] 3)).alloc (.cells #[.bool false] 4) := ⟨_, rfl⟩
  have hb0 : Below w.heap.size w W0 := by rw [hW0]; exact (((Below.refl _ w).alloc (Nat.le_refl _) _).alloc (by simp) _).alloc (by simp; omega) _
  have hz0 : W0.heap.size = w.heap.size + 1 + 1 + 1 := by rw [hW0]; simp
  have r0 : RowAt W0 w.heap.size 22 [.slice A n cap] := by
    refine RowAt.keep (w := w.alloc (.cells #[.slice A n cap] 22)) ⟨_, heap_alloc_new _ _, rfl⟩ ?_
    rw [hW0, Below.heap_alloc _ _ _ (by simp; omega), Below.heap_alloc _ _ _ (by simp)]
  have r1 : RowAt W0 (w.heap.size + 1) 3 [.int .i64 st] := by
    refine RowAt.keep (w := (w.alloc (.cells #[.slice A n cap] 22)).alloc (.cells #[.int .i64 st] 3)) ⟨_, by have := heap_alloc_new (w.alloc (.cells #[.slice A n cap] 22)) (.cells #[.int .i64 st] 3); simpa using this, rfl⟩ ?_
    rw [hW0, Below.heap_alloc _ _ _ (by simp)]
  have r2 : RowAt W0 (w.heap.size + 1 + 1) 4 [.bool false] := by
    rw [hW0]
    exact ⟨_, by have := heap_alloc_new ((w.alloc (.cells #[.slice A n cap] 22)).alloc (.cells #[.int .i64 st] 3)) (.cells #[.bool false] 4); simpa using this, rfl⟩
  have htw := rtwin_any A cap n l hn hsz W0 w.heap.size (by omega) (hs.below hb0)
  have z0 := r0.cell (k := 0) (by simp)
  simp only [List.getElem?_cons_zero] at z0
  have HN := Lib.hid hn
  have HS := Lib.hid hs
  have HV := Lib.hid hv0
  have HZ := Lib.hid hsz
  have HB0 := Lib.hid hb0
  have R0 := Lib.hid r0
  have R1 := Lib.hid r1
  have R2 := Lib.hid r2
  have HTW := Lib.hid htw
  clear hn hs hv0 hsz hb0 r0 r1 r2 htw
  have hnf := func_nil
  refine (callsIn_wide (n := 20)).1 ?_
  refine callsIn_of_wp_marks Tryd.func6 rfl trivial ?_ rfl
  simp only [Tryd.ntmps6, List.size_toArray, List.length_cons, List.length_nil, Nat.reduceAdd, Nat.reduceSub, Array.replicate_succ, Array.replicate_zero, List.push_toArray, List.append_toArray, List.nil_append, List.cons_append]
  gi_wp2_with (first
    | (refine ⟨trivial, ?_⟩
       gi_at_call 28
       refine (callsIn_wide.2 HWK.out).mono ?_
       rintro e w2 ⟨A6, m6, c6, rfl, hp6, hb6⟩
       have HP6 := Lib.hid hp6
       have HB6 := Lib.hid hb6
       have hw2 := hb6.size
       clear hp6 hb6)
    | (refine ⟨trivial, ?_⟩
       gi_at_call 8
       rw [← hW0]
       refine (callsIn_wide.2 HTW.out).mono ?_
       rintro e w1 ⟨A5, c5, l5, rfl, hd5, ho5, hb5⟩
       have hwk := walk_any A5 c5 n l5 ho5.len (sized_dat HZ.out hd5) w1 w1.heap.size (Nat.le_refl _) ho5.nodes
       rw [hd5] at hwk
       have HWK := Lib.hid hwk
       have HO5 := Lib.hid ho5.row
       have HB5 := Lib.hid hb5
       have hw1 := hb5.size
       clear hd5 ho5 hb5 hwk))
  clear HTW HWK z0
  gi_loopw [7] (fun iv wr => ∃ (i : Nat) (xs : List Value), i ≤ n ∧ iv = .int .i64 i ∧ wr.ownsRow W0.heap.size 43 3 (.slice A5 n c5) n xs ∧ Frame (fun g => (Value.slice A5 n c5).ownBlock = some g) w2 wr) (fun iv _ => n - (intOf iv).toNat)
  case atStart => exact ⟨0, _, by omega, rfl, own_keep HO5.out fun g _ hlt => HB6.out.block g hlt, Frame.refl _ _⟩
  case round =>
    obtain ⟨i, xs, hi, rfl, hrow, hfr⟩ := hrel
    have HROW := Lib.hid hrow
    have HFR := Lib.hid hfr
    by_cases hin : i < n
    · have hii : (i : Int) < (n : Int) := by omega
      obtain ⟨g, cap5, hv, hgb, hgl⟩ := hrow.form (by omega)
      injection hv with hA _ hc
      subst hA
      have hl := hrow.1
      have f0 := hrow.frozenAt (i * 3)
      have f1 := hrow.frozenAt (i * 3 + 1)
      have f2 := hrow.frozenAt (i * 3 + 2)
      have y0 := (hrow.cellAt (i * 3) (by omega)).trans (List.getElem?_eq_getElem (by omega))
      have y1 := (hrow.cellAt (i * 3 + 1) (by omega)).trans (List.getElem?_eq_getElem (by omega))
      have y2 := (hrow.cellAt (i * 3 + 2) (by omega)).trans (List.getElem?_eq_getElem (by omega))
      generalize xs[i * 3] = v0 at y0
      generalize xs[i * 3 + 1] = v1 at y1
      generalize xs[i * 3 + 2] = v2 at y2
      have hst := (((hrow.stored (i * 3) (.int .i64 (-5))).1.stored (i * 3 + 1) (.string ⟨#[126]⟩)).1.stored (i * 3 + 2) (.slice none 0 0)).1
      have hS : (Value.slice (some ⟨g, 0, none⟩) n c5).ownBlock = some g := rfl
      have hfr2 : Frame (fun g' => (Value.slice (some ⟨g, 0, none⟩) n c5).ownBlock = some g') w2 (((wr.setCell ⟨g, i * 3, none⟩ (.int .i64 (-5))).setCell ⟨g, i * 3 + 1, none⟩ (.string ⟨#[126]⟩)).setCell ⟨g, i * 3 + 2, none⟩ (.slice none 0 0)) :=
        ((hfr.setCell (fun _ => hS) _).setCell (fun _ => hS) _).setCell (fun _ => hS) _
      have HST := Lib.hid hst
      have HF2 := Lib.hid hfr2
      clear hrow hfr hst hfr2 hl hc
      gi_wp2
      exact ⟨⟨i + 1, _, by omega, by go_num, HST.out, HF2.out⟩, by simp [intOf]; omega⟩
    · obtain rfl : i = n := by omega
      have hb8 : Below W0.heap.size W0 wr := (below_next HB5.out HB6.out).trans (hrow.2.elim (fun h => hfr.toBelow (by omega) (fun k hk hs => by
        have := (hrow.lt k hs).1; omega)) (fun h => hfr.toBelow (by omega) (fun k hk hs => by have := (hrow.lt k hs).1; omega)))
      have hp8 : PathsAt wr w1.heap.size (w1.heap.size + 1) A6 m6 c6 (walkL (dat l)) := by
        have hne : ∀ g, (Value.slice A5 i c5).ownBlock = some g → g < w1.heap.size := fun g hg => (HO5.out.lt g hg).2
        refine ⟨HP6.out.len, HP6.out.box.frame hfr (fun h => by have := hne _ h; omega), own_frame HP6.out.row hfr fun g hg hs => ?_⟩
        have h1 := (HP6.out.row.lt g hg).1
        have h2 := hne g hs
        omega
      have hbw : Below w.heap.size w wr := HB0.out.trans (hb8.mono (by omega))
      have z8 := (R0.out.keep (hb8.block _ (by omega))).cell (k := 0) (by simp)
      simp only [List.getElem?_cons_zero] at z8
      have hba : Below wr.heap.size wr (wr.alloc (.cells #[.int .i64 (i : Int)] 3)) := (Below.refl _ wr).alloc (Nat.le_refl _) _
      have hbV : Below W0.heap.size W0 (wr.alloc (.cells #[.int .i64 (i : Int)] 3)) := hb8.alloc hb8.size _
      have hbwV : Below w.heap.size w (wr.alloc (.cells #[.int .i64 (i : Int)] 3)) := HB0.out.trans (hbV.mono (by omega))
      have hszV : (wr.alloc (.cells #[.int .i64 (i : Int)] 3)).heap.size = wr.heap.size + 1 := by simp
      have hmy := may_any A cap i l HN.out HZ.out _ w.heap.size hbwV.size (HS.out.below hbwV)
      have hrn : RowAt (wr.alloc (.cells #[.int .i64 (i : Int)] 3)) wr.heap.size 3 [.int .i64 (i : Int)] := by exact ⟨_, heap_alloc_new _ _, rfl⟩
      have z9 : (wr.alloc (.cells #[.int .i64 (i : Int)] 3)).cell? ⟨w.heap.size, 0, none⟩ = some (.slice A i cap) := (World.cell?_alloc_lt _ _ _ (by show w.heap.size < wr.heap.size; have := hb8.size; omega)).trans z8
      have hw8 : w2.heap.size ≤ wr.heap.size := hfr.size
      have hpV : PathsAt (wr.alloc (.cells #[.int .i64 (i : Int)] 3)) w1.heap.size (w1.heap.size + 1) A6 m6 c6 (walkL (dat l)) := ⟨hp8.len, hp8.box.keep (hba.block _ hp8.box.lt), hp8.row.alloc _⟩
      have hplt : ∀ g, (Value.slice A6 m6 c6).ownBlock = some g → g < wr.heap.size := fun g hg => (hp8.row.lt g hg).2
      have hblt : w1.heap.size < wr.heap.size := hp8.box.lt
      have HBV := Lib.hid hbV
      have HRN := Lib.hid hrn
      have HPV := Lib.hid hpV
      have HPL := Lib.hid hplt
      rw [hszV] at hmy
      have HMY := Lib.hid hmy
      clear hrow hfr hb8 hp8 hbw hmy HROW HFR hrn hbV hbwV hpV hba hplt
      cases hmay : ((checkF (dat l)).2 == 0) with
      | false =>
        have hwl : walkL (dat l) = [] := by
          unfold walkL
          rw [if_neg (fun h => by rw [h] at hmay; cases hmay)]
        have HWL := Lib.hid (show (walkL (dat l)).length = 0 by rw [hwl]; rfl)
        have HFI := Lib.hid (show 0 < (walkL (dat l)).length → Fine (dat l) (dat l).length ∧ i ≤ 512 ∧ walkL (dat l) = pathsK (dat l) i from fun h => by rw [hwl] at h; cases h)
        clear hwl
        rw [hmay] at HMY
        clear hmay
        gi_wp2_with (refine ⟨trivial, ?_⟩
                     gi_at_call 29
                     refine (callsIn_wide.2 HMY.out).mono ?_
                     rintro e w9 ⟨rfl, hb9⟩
                     have HB9 := Lib.hid hb9
                     have hr9 := HRN.out.keep (hb9.block _ (Nat.lt_succ_self _))
                     have f9 := hr9.frozen 0
                     have y9 := hr9.cell (k := 0) (by simp)
                     simp only [List.getElem?_cons_zero] at y9
                     have HR9 := Lib.hid hr9
                     clear hb9 hr9)
        have hr4 : RowAt (w9.setCell ⟨wr.heap.size, 0, none⟩ (.int .i64 0)) wr.heap.size 3 [.int .i64 ((walkL (dat l)).length : Nat)] := by rw [HWL.out]; exact HR9.out.store 0 (.int .i64 0)
        have hb4 : Below wr.heap.size (wr.alloc (.cells #[.int .i64 (i : Int)] 3)) (w9.setCell ⟨wr.heap.size, 0, none⟩ (.int .i64 0)) := Below.setCell (p := ⟨wr.heap.size, 0, none⟩) (HB9.out.mono (Nat.le_succ _)) (Nat.le_refl _) _
        clear f9 y9 HR9 HB9
        generalize w9.setCell ⟨wr.heap.size, 0, none⟩ (.int .i64 0) = W4 at *
        have hbw4 : Below W0.heap.size W0 W4 := HBV.out.trans (hb4.mono (by omega))
        have hbb4 : Below w.heap.size w W4 := HB0.out.trans (hbw4.mono (by omega))
        have hp4 : PathsAt W4 w1.heap.size (w1.heap.size + 1) A6 m6 c6 (walkL (dat l)) := ⟨HPV.out.len, HPV.out.box.keep (hb4.block _ (by omega)), own_keep HPV.out.row fun g hg _ => hb4.block g (HPL.out g hg)⟩
        have r04 := R0.out.keep (hbw4.block _ R0.out.lt)
        have r14 := R1.out.keep (hbw4.block _ R1.out.lt)
        have r24 := R2.out.keep (hbw4.block _ R2.out.lt)
        have hpl4 : ∀ g, (Value.slice A6 m6 c6).ownBlock = some g → g < W4.heap.size := fun g hg => (hp4.row.lt g hg).2
        obtain ⟨ps, hps⟩ : ∃ ps, ps = walkL (dat l) := ⟨_, rfl⟩
        obtain ⟨N, hN⟩ : ∃ N, N = ps.length := ⟨_, rfl⟩
        have hfi := HFI.out
        rw [← hps] at hp4 hr4 hfi
        rw [← hN] at hr4 hfi
        have hNi : N ≤ 1000 := by
          rcases Nat.eq_zero_or_pos N with h | h
          · omega
          · have h2 := (hfi h).2.1
            rw [hN, (hfi h).2.2, pathsK_len]
            omega
        have HR4 := Lib.hid hr4
        have HBB4 := Lib.hid hbb4
        have HP4 := Lib.hid hp4
        have R04 := Lib.hid r04
        have R14 := Lib.hid r14
        have R24 := Lib.hid r24
        have HPL4 := Lib.hid hpl4
        have HFN := Lib.hid hfi
        have HNN := Lib.hid hN
        have hbp4 : w1.heap.size < W4.heap.size := hp4.box.lt
        clear hr4 hb4 hbw4 hbb4 hp4 r04 r14 r24 hpl4 hps hfi hN HFI HWL HBV HPV HPL HMY HRN HP6 HB6 HB5 R0 R1 R2 HB0
        generalize wr.heap.size = bn at *
        refine wpIn_loop (fun a' w' => ∃ (r : Nat) (Ds : List Nat), r ≤ 2 ∧ a' = { tmps := (tmW (.slice A i cap) (.int .i64 st) (.pointer (some ⟨w.heap.size, 0, none⟩)) (.pointer (some ⟨w.heap.size + 1, 0, none⟩)) (.pointer (some ⟨w.heap.size + 1 + 1, 0, none⟩)) (.slice A5 i c5) (.func (.func 62) #[] #[.pointer (some ⟨w1.heap.size, 0, none⟩)]) (.int .i64 i) (.pointer (some ⟨bn, 0, none⟩)) (.int .i64 (r : Nat)) (fun k => a'.tmps.getD k undef)).toArray, defers := marks Ds } ∧ MarksAt Ds W4.heap.size w' ∧ Below W4.heap.size W4 w') (fun a' _ => 2 - (intOf (a'.tmps.getD 9 undef)).toNat) ⟨0, [], by omega, rfl, ⟨List.nodup_nil, by simp⟩, Below.refl _ _⟩ ?_
        rintro a' wr ⟨r, Ds, hr2, ha', hmk, hb⟩
        generalize (fun k => a'.tmps.getD k undef) = u at *
        subst ha'
        unfold tmW
        have hfence : Fence.wide.fn 62 := trivial
        by_cases hr : r < 2
        · have hri : (r : Int) < 2 := by omega
          have hwz := hb.size
          have hbV : Below W4.heap.size W4 (wr.alloc (.cells #[.int .i64 0] 3)) := hb.alloc hb.size _
          have hrV : RowAt (wr.alloc (.cells #[.int .i64 0] 3)) wr.heap.size 3 [.int .i64 (([] : List (ByteArray × Nat)).length : Nat)] := ⟨_, heap_alloc_new _ _, rfl⟩
          have hmV : MarksAt Ds W4.heap.size (wr.alloc (.cells #[.int .i64 0] 3)) := ⟨hmk.1, fun D hD => ⟨(hmk.2 D hD).1, (Below.heap_alloc _ _ _ (lt_of_heap (hmk.2 D hD).2)).trans (hmk.2 D hD).2⟩⟩
          have hDl : ∀ D ∈ Ds, D < (wr.alloc (.cells #[.int .i64 0] 3)).heap.size := fun D hD => lt_of_heap (hmV.2 D hD).2
          have hpV : PathsAt (wr.alloc (.cells #[.int .i64 0] 3)) w1.heap.size (w1.heap.size + 1) A6 m6 c6 ps := ⟨HP4.out.len, HP4.out.box.keep (hbV.block _ hbp4), own_keep HP4.out.row fun g hg _ => hbV.block g (HPL4.out g hg)⟩
          have hszV : (wr.alloc (.cells #[.int .i64 0] 3)).heap.size = wr.heap.size + 1 := by simp
          have hNl : ps.length ≤ 1000 := by rw [← HNN.out]; exact hNi
          have hps := clos_stops Fence.wide (20 - 1) hfence rfl (by omega) w1.heap.size (w1.heap.size + 1) W4.heap.size A6 m6 c6 ps hNl (wr.alloc (.cells #[.int .i64 0] 3)) hbV.size hpV HPL4.out hbp4
          have HVB := Lib.hid hbV
          have HVR := Lib.hid hrV
          have HVM := Lib.hid hmV
          have HDL := Lib.hid hDl
          have HST := Lib.hid hps
          have HSZ := Lib.hid hszV
          clear hmk hb hbV hrV hmV hpV hDl hps hszV
          gi_wp2
          refine wpIn_rangeFunc_ownF rfl (by omega) (gf := 62) (lb := #[.pointer (some ⟨w1.heap.size, 0, none⟩)]) rfl hfence (enters_of Tryd.func62 (by kernel_rfl) rfl) HST.out belowK_t (belowK_b HVB.out.size) (Below.refl _ _) (fun _ => rfl)
            (fun pre W => RowAt W wr.heap.size 3 [.int .i64 (pre.length : Nat)] ∧ (Below W4.heap.size W4 W ∧ MarksAt Ds W4.heap.size W))
            (fun c pre W => c = .ret ∧ ¬ ∃ k, k ≤ ps.length ∧ pre = upto (pairOf ps) k)
            (OwnFrom.and (row_own _ _ _ (fun pre : List (ByteArray × Nat) => [.int .i64 (pre.length : Nat)])) (OwnFrom.and (ownFrom_below (Nat.le_refl _) HVB.out.size) (marks_own HDL.out)))
            (fun _ _ _ _ _ hs _ _ => hs)
            ⟨HVR.out, HVB.out, HVM.out⟩
            (fun x => { tmps := ((.slice A i cap) :: (.int .i64 st) :: (.pointer (some ⟨w.heap.size, 0, none⟩)) :: (.pointer (some ⟨w.heap.size + 1, 0, none⟩)) :: (.pointer (some ⟨w.heap.size + 1 + 1, 0, none⟩)) :: (.slice A5 i c5) :: (.func (.func 62) #[] #[.pointer (some ⟨w1.heap.size, 0, none⟩)]) :: (.int .i64 i) :: (.pointer (some ⟨bn, 0, none⟩)) :: (.int .i64 (r : Nat)) :: (.pointer (some ⟨wr.heap.size, 0, none⟩)) :: (.string x.1) :: (.int .i64 (x.2 : Int)) :: (u 13) :: (u 14) :: (u 15) :: (u 16) :: (u 17) :: (u 18) :: (u 19) :: (u 20) :: (u 21) :: (u 22) :: (u 23) :: (u 24) :: (u 25) :: (u 26) :: (u 27) :: (u 28) :: (u 29) :: (u 30) :: (u 31) :: (u 32) :: (u 33) :: (u 34) :: (.int .i64 (r : Nat)) :: (.bool true) :: (u 37) :: (u 38) :: (.func (.func 62) #[] #[.pointer (some ⟨w1.heap.size, 0, none⟩)]) :: (.string x.1) :: (.int .i64 (x.2 : Int)) :: (u 42) :: (u 43) :: (u 44) :: (u 45) :: (u 46) :: (u 47) :: (u 48) :: (u 49) :: (u 50) :: (u 51) :: (u 52) :: (u 53) :: (u 54) :: (u 55) :: (u 56) :: (u 57) :: (u 58) :: (u 59) :: (u 60) :: (u 61) :: (u 62) :: (u 63) :: (u 64) :: (u 65) :: (u 66) :: (u 67) :: (u 68) :: (u 69) :: (undef) :: []).toArray, defers := [] }) ?assign ?body ?done ?stop
          case assign =>
            intro l0 x W K hK
            gi_wp2
            exact hK
          case stop =>
            rintro D c pre W _ hpre ⟨_, hno⟩ _
            exact absurd hpre hno
          case body =>
            rintro l0 pre x W ⟨hrow, hb3, hmk3⟩ hlen
            rw [← HNN.out] at hlen
            obtain ⟨hf1, hi5, hpse⟩ := HFN.out (by omega)
            have hNi2 : N = i := by rw [HNN.out, hpse, pathsK_len]
            have hpx : pairOf ps pre.length = (pathB (dat l) pre.length, pre.length) := by
              unfold pairOf
              rw [hpse, List.getElem?_eq_getElem (by rw [pathsK_len]; omega)]
              simp [pathsK]
            have y10 := hrow.cell (k := 0) (by simp)
            have y8 := (HR4.out.keep (hb3.block _ HR4.out.lt)).cell (k := 0) (by simp)
            have y2 := (R04.out.keep (hb3.block _ R04.out.lt)).cell (k := 0) (by simp)
            have hr4' := R24.out.keep (hb3.block _ R24.out.lt)
            have y4 := hr4'.cell (k := 0) (by simp)
            have f4 := hr4'.frozen 0
            simp only [List.getElem?_cons_zero] at y10 y8 y2 y4
            obtain ⟨q, hq⟩ : ∃ q, q = pre.length := ⟨_, rfl⟩
            rw [← hq] at y10 hlen hpx
            have HQ := Lib.hid hq
            have hge : ¬ (N : Int) ≤ (q : Int) := by omega
            have hqi : q < i := by omega
            clear hNi2
            have hq63 : (q : Int) ≤ 1000 := by omega
            have hbw3 : Below w.heap.size w W := HBB4.out.trans (hb3.mono HBB4.out.size)
            have hW4W : W4.heap.size ≤ W.heap.size := hb3.size
            have hpo := pathof_any A cap i l HN.out hi5 hf1 q hqi W w.heap.size hbw3.size (HS.out.below hbw3)
            have hpd := pathD_eq hf1 (i := q) (by rw [dat_len, ← HN.out]; exact hqi)
            have HPO := Lib.hid hpo
            have HPD := Lib.hid hpd
            have HROW := Lib.hid hrow
            have HB3 := Lib.hid hb3
            have HM3 := Lib.hid hmk3
            have HPX := Lib.hid hpx
            obtain ⟨xs1, xs2⟩ := x
            clear hrow hb3 hmk3 hpx hr4' hbw3 hpo hpd hq hf1 hpse
            dsimp only
            by_cases hx2 : xs2 = q
            · have e2 : ((xs2 : Int) != (q : Int)) = false := by rw [bne_eq_false_iff_eq]; omega
              by_cases hx1 : xs1 = pathB (dat l) q
              · have HX1 := Lib.hid hx1
                have HX2 := Lib.hid hx2
                clear hx1 hx2
                gi_wp2_with (refine ⟨trivial, ?_⟩
                             gi_at_call 30
                             refine (CallsIn.inRound l0 (callsIn_wide.2 HPO.out)).mono ?_
                             rintro e w5 ⟨s, rfl, hsd, hb5⟩
                             obtain rfl : xs1 = s := HX1.out.trans (path_bytes (hsd.trans HPD.out)).symm
                             have e1 : (xs1.toList != xs1.toList) = false := by simp
                             have e1' : (xs1.toList == xs1.toList) = true := by simp
                             have hr5 := HROW.out.keep (hb5.block _ HROW.out.lt)
                             have y5 := (hb5.cell (p := ⟨wr.heap.size, 0, none⟩) HROW.out.lt).trans y10
                             have f5 := hr5.frozen 0
                             have HR5 := Lib.hid hr5
                             have HB5 := Lib.hid hb5
                             clear hsd hr5 hb5)
                have hrf := HR5.out.store 0 (.int .i64 ((q : Int) + 1))
                refine ⟨(keeps_below HB5.out).trans (KeepsOthers.setCell _ _ _), (HB5.out.mono hW4W).setCell (p := ⟨wr.heap.size, 0, none⟩) (by have := HVB.out.size; rw [HSZ.out] at this; exact hwz) _, ?_, (HB3.out.trans (HB5.out.mono hW4W)).setCell (p := ⟨wr.heap.size, 0, none⟩) hwz _, (HM3.out.below HB5.out).set HR5.out _⟩
                have e3 : (((pre ++ [(xs1, xs2)]).length : Nat) : Int) = (q : Int) + 1 := by rw [List.length_append, List.length_singleton, HQ.out]; omega
                rw [e3]
                exact hrf
              · have HX1 := Lib.hid hx1
                clear hx1 hx2
                gi_wp2_with (refine ⟨trivial, ?_⟩
                             gi_at_call 30
                             refine (CallsIn.inRound l0 (callsIn_wide.2 HPO.out)).mono ?_
                             rintro e w5 ⟨s, rfl, hsd, hb5⟩
                             have e0 : xs1.toList ≠ s.toList := by intro h; rw [ByteArray.toList_eq, ByteArray.toList_eq] at h; exact HX1.out ((bytes_eq h).trans (path_bytes (hsd.trans HPD.out)))
                             have e1 : (xs1.toList != s.toList) = true := by rw [bne_iff_ne]; exact e0
                             have e2' : (xs1.toList == s.toList) = false := by rw [beq_eq_false_iff_ne]; exact e0
                             have E0 := Lib.hid e0
                             clear e0
                             have y5 := (hb5.cell (p := ⟨w.heap.size + 1 + 1, 0, none⟩) (World.block_lt_of_cell? _ _ y4)).trans y4
                             have f5 := ((R24.out.keep (HB3.out.block _ R24.out.lt)).keep (hb5.block _ (World.block_lt_of_cell? _ _ y4))).frozen 0
                             have HB5 := Lib.hid hb5
                             clear hsd hb5)
                all_goals first
                  | exact ⟨(keeps_below HB5.out).trans (KeepsOthers.setCell _ _ _), rfl, mism (by rw [← HQ.out, HPX.out]; intro h; injection h with h1 _; exact HX1.out h1)⟩
                  | (exfalso; rename_i h9; exact E0.out h9)
                  | (exfalso; rename_i h9; exact E0.out (by simpa using h9))
            · have e2 : ((xs2 : Int) != (q : Int)) = true := by rw [bne_iff_ne]; omega
              have HX2 := Lib.hid hx2
              clear hx2
              gi_wp2
              refine ⟨trivial, ?_⟩
              gi_wp2
              exact ⟨KeepsOthers.setCell _ _ _, rfl, mism (by rw [← HQ.out, HPX.out]; intro h; injection h with _ h1; exact HX2.out h1)⟩
          case done =>
            rintro D xs W hD rfl ⟨hrow, hb3, hmk3⟩ hK
            rw [upto_length, ← HNN.out] at hrow
            have y10 := hrow.cell (k := 0) (by simp)
            have y8 := (HR4.out.keep (hb3.block _ HR4.out.lt)).cell (k := 0) (by simp)
            simp only [List.getElem?_cons_zero] at y10 y8
            have eN : ((N : Int) != (N : Int)) = false := bne_self_eq_false _
            have hW4D : W4.heap.size ≤ D := Nat.le_trans HVB.out.size hD
            have hmkD : MarksAt (D :: Ds) W4.heap.size W := hmk3.cons hW4D hK (fun x hx => Nat.lt_of_lt_of_le (HDL.out x hx) hD)
            have hbV2 : Below W4.heap.size W4 (W.alloc (.cells #[.int .i64 0] 3)) := hb3.alloc hb3.size _
            have hrV2 : RowAt (W.alloc (.cells #[.int .i64 0] 3)) W.heap.size 3 [.int .i64 (([] : List (ByteArray × Nat)).length : Nat)] := ⟨_, heap_alloc_new _ _, rfl⟩
            have hmV2 : MarksAt (D :: Ds) W4.heap.size (W.alloc (.cells #[.int .i64 0] 3)) := hmkD.keep fun x hx => Below.heap_alloc _ _ _ (lt_of_heap (hmkD.2 x hx).2)
            have hDl2 : ∀ x ∈ D :: Ds, x < (W.alloc (.cells #[.int .i64 0] 3)).heap.size := fun x hx => lt_of_heap (hmV2.2 x hx).2
            have hpV2 : PathsAt (W.alloc (.cells #[.int .i64 0] 3)) w1.heap.size (w1.heap.size + 1) A6 m6 c6 ps := ⟨HP4.out.len, HP4.out.box.keep (hbV2.block _ hbp4), own_keep HP4.out.row fun g hg _ => hbV2.block g (HPL4.out g hg)⟩
            have hps2 := clos_stops Fence.wide (20 - 1) hfence rfl (by omega) w1.heap.size (w1.heap.size + 1) W4.heap.size A6 m6 c6 ps hNl (W.alloc (.cells #[.int .i64 0] 3)) hbV2.size hpV2 HPL4.out hbp4
            have hWz : W4.heap.size ≤ W.heap.size := hb3.size
            have HVB2 := Lib.hid hbV2
            have HVR2 := Lib.hid hrV2
            have HVM2 := Lib.hid hmV2
            have HDL2 := Lib.hid hDl2
            have HST2 := Lib.hid hps2
            clear hrow hb3 hmk3 hK hmkD hbV2 hrV2 hmV2 hDl2 hpV2 hps2
            gi_wp2
            refine wpIn_rangeFunc_ownF rfl (by omega) (gf := 62) (lb := #[.pointer (some ⟨w1.heap.size, 0, none⟩)]) rfl hfence (enters_of Tryd.func62 (by kernel_rfl) rfl) HST2.out belowK_t (belowK_b HVB2.out.size) (Below.refl _ _) (fun _ => rfl)
              (fun pre W5 => RowAt W5 W.heap.size 3 [.int .i64 (pre.length : Nat)] ∧ (Below W4.heap.size W4 W5 ∧ MarksAt (D :: Ds) W4.heap.size W5))
              (fun c pre W5 => c = .exit 6 ∧ (Below W4.heap.size W4 W5 ∧ MarksAt (D :: Ds) W4.heap.size W5))
              (OwnFrom.and (row_own _ _ _ (fun pre : List (ByteArray × Nat) => [.int .i64 (pre.length : Nat)])) (OwnFrom.and (ownFrom_below (Nat.le_refl _) HVB2.out.size) (marks_own HDL2.out)))
              (fun c => OwnFrom.and (fun _ _ _ _ hs _ _ => hs) (OwnFrom.and (ownFrom_below (Nat.le_refl _) HVB2.out.size) (marks_own HDL2.out)))
              ⟨HVR2.out, HVB2.out, HVM2.out⟩
              (fun x => { tmps := ((.slice A i cap) :: (.int .i64 st) :: (.pointer (some ⟨w.heap.size, 0, none⟩)) :: (.pointer (some ⟨w.heap.size + 1, 0, none⟩)) :: (.pointer (some ⟨w.heap.size + 1 + 1, 0, none⟩)) :: (.slice A5 i c5) :: (.func (.func 62) #[] #[.pointer (some ⟨w1.heap.size, 0, none⟩)]) :: (.int .i64 i) :: (.pointer (some ⟨bn, 0, none⟩)) :: (.int .i64 (r : Nat)) :: (.pointer (some ⟨wr.heap.size, 0, none⟩)) :: (u 11) :: (u 12) :: (.pointer (some ⟨W.heap.size, 0, none⟩)) :: (u 14) :: (u 15) :: (u 16) :: (u 17) :: (u 18) :: (u 19) :: (u 20) :: (u 21) :: (u 22) :: (u 23) :: (u 24) :: (u 25) :: (u 26) :: (u 27) :: (u 28) :: (u 29) :: (u 30) :: (u 31) :: (u 32) :: (u 33) :: (u 34) :: (.int .i64 (r : Nat)) :: (.bool true) :: (u 37) :: (u 38) :: (.func (.func 62) #[] #[.pointer (some ⟨w1.heap.size, 0, none⟩)]) :: (u 40) :: (u 41) :: (u 42) :: (u 43) :: (u 44) :: (u 45) :: (u 46) :: (u 47) :: (u 48) :: (u 49) :: (u 50) :: (u 51) :: (u 52) :: (u 53) :: (u 54) :: (u 55) :: (u 56) :: (u 57) :: (u 58) :: (.int .i64 (N : Nat)) :: (.int .i64 (N : Nat)) :: (.bool false) :: (.func (.func 62) #[] #[.pointer (some ⟨w1.heap.size, 0, none⟩)]) :: (.string x.1) :: (.int .i64 (x.2 : Int)) :: (u 65) :: (u 66) :: (u 67) :: (u 68) :: (u 69) :: (undef) :: []).toArray, defers := [] }) ?assign2 ?body2 ?done2 ?stop2
            case assign2 =>
              intro l0 x W5 K hK
              gi_wp2
              simpa using hK
            case body2 =>
              rintro l0 pre x W5 ⟨hrow, hb3, hmk3⟩ hlen
              have hq63 : (pre.length : Int) ≤ 1000 := by omega
              have y13 := hrow.cell (k := 0) (by simp)
              have f13 := hrow.frozen 0
              have hr3 := R14.out.keep (hb3.block _ R14.out.lt)
              have y3 := hr3.cell (k := 0) (by simp)
              simp only [List.getElem?_cons_zero] at y13 y3
              obtain ⟨q, hq⟩ : ∃ q, q = pre.length := ⟨_, rfl⟩
              rw [← hq] at y13 hq63
              have hrf := hrow.store 0 (.int .i64 ((q : Int) + 1))
              have hne3 : w.heap.size + 1 ≠ W.heap.size := by have := R14.out.lt; omega
              have z3 : (W5.setCell ⟨W.heap.size, 0, none⟩ (.int .i64 ((q : Int) + 1))).cell? ⟨w.heap.size + 1, 0, none⟩ = some (.int .i64 st) := (World.cell?_of_block (Below.heap_setCell _ _ _ _ hne3)).trans y3
              have z13 := hrf.cell (k := 0) (by simp)
              simp only [List.set_cons_zero, List.getElem?_cons_zero] at z13
              have e3 : (((pre ++ [x]).length : Nat) : Int) = (q : Int) + 1 := by rw [List.length_append, List.length_singleton, hq]; omega
              have hK1 := KeepsOthers.setCell W5 ⟨W.heap.size, 0, none⟩ (.int .i64 ((q : Int) + 1))
              have hK2 : Below W4.heap.size W5 (W5.setCell ⟨W.heap.size, 0, none⟩ (.int .i64 ((q : Int) + 1))) := (Below.refl _ W5).setCell (p := ⟨W.heap.size, 0, none⟩) hWz _
              have hK3 : RowAt (W5.setCell ⟨W.heap.size, 0, none⟩ (.int .i64 ((q : Int) + 1))) W.heap.size 3 [.int .i64 ((pre ++ [x]).length : Nat)] := by rw [e3]; exact hrf
              have hK4 := hmk3.set hrow (.int .i64 ((q : Int) + 1))
              have H1 := Lib.hid hK1
              have H2 := Lib.hid hK2
              have H3 := Lib.hid hK3
              have H4 := Lib.hid hK4
              have HB3 := Lib.hid hb3
              clear hrow hb3 hmk3 hr3 hrf hK1 hK2 hK3 hK4 e3 hq
              try dsimp only
              gi_wp2
              all_goals first
                | exact ⟨H1.out, rfl, HB3.out.trans H2.out, H4.out⟩
                | exact ⟨H1.out, H2.out, H3.out, HB3.out.trans H2.out, H4.out⟩
            case done2 =>
              rintro D2 xs W6 hD2 rfl ⟨_, hb6, hmk6⟩ hK2
              have hmkE : MarksAt (D2 :: D :: Ds) W4.heap.size W6 := hmk6.cons (Nat.le_trans HVB2.out.size hD2) hK2 (fun x hx => Nat.lt_of_lt_of_le (HDL2.out x hx) hD2)
              have HE := Lib.hid hmkE
              have H6 := Lib.hid hb6
              clear hb6 hmk6 hK2 hmkE
              gi_wp2
              exact ⟨⟨r + 1, D2 :: D :: Ds, by omega, rfl, HE.out, H6.out⟩, by simp [intOf]; omega⟩
            case stop2 =>
              rintro D2 c pre W6 hD2 _ ⟨rfl, hb6, hmk6⟩ hK2
              have hmkE : MarksAt (D2 :: D :: Ds) W4.heap.size W6 := hmk6.cons (Nat.le_trans HVB2.out.size hD2) hK2 (fun x hx => Nat.lt_of_lt_of_le (HDL2.out x hx) hD2)
              have HE := Lib.hid hmkE
              have H6 := Lib.hid hb6
              clear hb6 hmk6 hK2 hmkE
              gi_wp2
              exact ⟨⟨r + 1, D2 :: D :: Ds, by omega, rfl, HE.out, H6.out⟩, by simp [intOf]; omega⟩
        · obtain rfl : r = 2 := by omega
          have hbwr : Below w.heap.size w wr := HBB4.out.trans (hb.mono HBB4.out.size)
          have hwo := works_any wr (HV.out.below hbwr hw0) (Nat.lt_of_lt_of_le hw0 hbwr.size)
          have hr4 := R24.out.keep (hb.block _ R24.out.lt)
          have HWO := Lib.hid hwo
          have HRR := Lib.hid hr4
          have HBR := Lib.hid hbwr
          have HMK := Lib.hid hmk
          clear hwo hr4 hbwr hmk hb
          gi_wp2_with (refine ⟨trivial, ?_⟩
                       gi_at_call 27
                       refine (callsIn_wide.2 HWO.out).mono ?_
                       rintro e w8 ⟨rfl, hb8⟩
                       have hr8 := HRR.out.keep (hb8.block _ HRR.out.lt)
                       have y4 := hr8.cell (k := 0) (by simp)
                       have f4 := hr8.frozen 0
                       simp only [List.getElem?_cons_zero] at y4
                       have HR8 := Lib.hid hr8
                       have HB8 := Lib.hid hb8
                       clear hb8 hr8)
          have hmf := (HMK.out.below HB8.out).set HR8.out (.bool true)
          have hge4 : ∀ D ∈ Ds, w.heap.size ≤ D := fun D hD => Nat.le_trans HBB4.out.size (hmf.2 D hD).1
          have hbf : Below w.heap.size w (w8.setCell ⟨w.heap.size + 1 + 1, 0, none⟩ (.bool true)) := ((HBR.out.trans (HB8.out.mono HBR.out.size))).setCell (p := ⟨w.heap.size + 1 + 1, 0, none⟩) (by show w.heap.size ≤ w.heap.size + 1 + 1; omega) _
          have hrf := HR8.out.store 0 (.bool true)
          have hnin : w.heap.size + 1 + 1 ∉ Ds := fun hD => by
            have h2 := (hmf.2 _ hD).2
            obtain ⟨cur, hh, _⟩ := hrf
            rw [hh] at h2
            cases h2
          refine leaves_marks Ds _ hmf.1 (fun D hD => (hmf.2 D hD).2) ?_
          have hc5 : (shutAll (w8.setCell ⟨w.heap.size + 1 + 1, 0, none⟩ (.bool true)) Ds).cell? ⟨w.heap.size + 1 + 1, 0, none⟩ = some (.bool true) := by
            rw [World.cell?_of_block (shut_other Ds _ hnin), hrf.cell (k := 0) (by simp)]
            rfl
          refine ⟨.bool true, ?_, rfl, shut_below Ds _ hge4 hbf⟩
          simp [results, Tryd.f6, go_sem, hc5]
      | true =>
        have h0 : (checkF (dat l)).2 = 0 := by simpa using hmay
        obtain ⟨k1, k2, k3⟩ := check_fine h0
        have hwl : walkL (dat l) = pathsK (dat l) i := by
          unfold walkL
          rw [if_pos h0, dat_len, HN.out]
        have HWL := Lib.hid (show (walkL (dat l)).length = i by rw [hwl, pathsK_len])
        have HFI := Lib.hid (show 0 < (walkL (dat l)).length → Fine (dat l) (dat l).length ∧ i ≤ 512 ∧ walkL (dat l) = pathsK (dat l) i from fun _ => ⟨k1, by rw [HN.out, ← dat_len]; exact k3, hwl⟩)
        clear hwl h0 k1 k2 k3
        rw [hmay] at HMY
        clear hmay
        gi_wp2_with (refine ⟨trivial, ?_⟩
                     gi_at_call 29
                     refine (callsIn_wide.2 HMY.out).mono ?_
                     rintro e w9 ⟨rfl, hb9⟩
                     have HB9 := Lib.hid hb9
                     have hr9 := HRN.out.keep (hb9.block _ (Nat.lt_succ_self _))
                     have f9 := hr9.frozen 0
                     have y9 := hr9.cell (k := 0) (by simp)
                     simp only [List.getElem?_cons_zero] at y9
                     have HR9 := Lib.hid hr9
                     clear hb9 hr9)
        have hr4 : RowAt w9 wr.heap.size 3 [.int .i64 ((walkL (dat l)).length : Nat)] := by rw [HWL.out]; exact HR9.out
        have hb4 : Below wr.heap.size (wr.alloc (.cells #[.int .i64 (i : Int)] 3)) w9 := HB9.out.mono (by omega)
        clear f9 y9 HR9 HB9
        generalize w9 = W4 at *
        have hbw4 : Below W0.heap.size W0 W4 := HBV.out.trans (hb4.mono (by omega))
        have hbb4 : Below w.heap.size w W4 := HB0.out.trans (hbw4.mono (by omega))
        have hp4 : PathsAt W4 w1.heap.size (w1.heap.size + 1) A6 m6 c6 (walkL (dat l)) := ⟨HPV.out.len, HPV.out.box.keep (hb4.block _ (by omega)), own_keep HPV.out.row fun g hg _ => hb4.block g (HPL.out g hg)⟩
        have r04 := R0.out.keep (hbw4.block _ R0.out.lt)
        have r14 := R1.out.keep (hbw4.block _ R1.out.lt)
        have r24 := R2.out.keep (hbw4.block _ R2.out.lt)
        have hpl4 : ∀ g, (Value.slice A6 m6 c6).ownBlock = some g → g < W4.heap.size := fun g hg => (hp4.row.lt g hg).2
        obtain ⟨ps, hps⟩ : ∃ ps, ps = walkL (dat l) := ⟨_, rfl⟩
        obtain ⟨N, hN⟩ : ∃ N, N = ps.length := ⟨_, rfl⟩
        have hfi := HFI.out
        rw [← hps] at hp4 hr4 hfi
        rw [← hN] at hr4 hfi
        have hNi : N ≤ 1000 := by
          rcases Nat.eq_zero_or_pos N with h | h
          · omega
          · have h2 := (hfi h).2.1
            rw [hN, (hfi h).2.2, pathsK_len]
            omega
        have HR4 := Lib.hid hr4
        have HBB4 := Lib.hid hbb4
        have HP4 := Lib.hid hp4
        have R04 := Lib.hid r04
        have R14 := Lib.hid r14
        have R24 := Lib.hid r24
        have HPL4 := Lib.hid hpl4
        have HFN := Lib.hid hfi
        have HNN := Lib.hid hN
        have hbp4 : w1.heap.size < W4.heap.size := hp4.box.lt
        clear hr4 hb4 hbw4 hbb4 hp4 r04 r14 r24 hpl4 hps hfi hN HFI HWL HBV HPV HPL HMY HRN HP6 HB6 HB5 R0 R1 R2 HB0
        generalize wr.heap.size = bn at *
        refine wpIn_loop (fun a' w' => ∃ (r : Nat) (Ds : List Nat), r ≤ 2 ∧ a' = { tmps := (tmW (.slice A i cap) (.int .i64 st) (.pointer (some ⟨w.heap.size, 0, none⟩)) (.pointer (some ⟨w.heap.size + 1, 0, none⟩)) (.pointer (some ⟨w.heap.size + 1 + 1, 0, none⟩)) (.slice A5 i c5) (.func (.func 62) #[] #[.pointer (some ⟨w1.heap.size, 0, none⟩)]) (.int .i64 i) (.pointer (some ⟨bn, 0, none⟩)) (.int .i64 (r : Nat)) (fun k => a'.tmps.getD k undef)).toArray, defers := marks Ds } ∧ MarksAt Ds W4.heap.size w' ∧ Below W4.heap.size W4 w') (fun a' _ => 2 - (intOf (a'.tmps.getD 9 undef)).toNat) ⟨0, [], by omega, rfl, ⟨List.nodup_nil, by simp⟩, Below.refl _ _⟩ ?_
        rintro a' wr ⟨r, Ds, hr2, ha', hmk, hb⟩
        generalize (fun k => a'.tmps.getD k undef) = u at *
        subst ha'
        unfold tmW
        have hfence : Fence.wide.fn 62 := trivial
        by_cases hr : r < 2
        · have hri : (r : Int) < 2 := by omega
          have hwz := hb.size
          have hbV : Below W4.heap.size W4 (wr.alloc (.cells #[.int .i64 0] 3)) := hb.alloc hb.size _
          have hrV : RowAt (wr.alloc (.cells #[.int .i64 0] 3)) wr.heap.size 3 [.int .i64 (([] : List (ByteArray × Nat)).length : Nat)] := ⟨_, heap_alloc_new _ _, rfl⟩
          have hmV : MarksAt Ds W4.heap.size (wr.alloc (.cells #[.int .i64 0] 3)) := ⟨hmk.1, fun D hD => ⟨(hmk.2 D hD).1, (Below.heap_alloc _ _ _ (lt_of_heap (hmk.2 D hD).2)).trans (hmk.2 D hD).2⟩⟩
          have hDl : ∀ D ∈ Ds, D < (wr.alloc (.cells #[.int .i64 0] 3)).heap.size := fun D hD => lt_of_heap (hmV.2 D hD).2
          have hpV : PathsAt (wr.alloc (.cells #[.int .i64 0] 3)) w1.heap.size (w1.heap.size + 1) A6 m6 c6 ps := ⟨HP4.out.len, HP4.out.box.keep (hbV.block _ hbp4), own_keep HP4.out.row fun g hg _ => hbV.block g (HPL4.out g hg)⟩
          have hszV : (wr.alloc (.cells #[.int .i64 0] 3)).heap.size = wr.heap.size + 1 := by simp
          have hNl : ps.length ≤ 1000 := by rw [← HNN.out]; exact hNi
          have hps := clos_stops Fence.wide (20 - 1) hfence rfl (by omega) w1.heap.size (w1.heap.size + 1) W4.heap.size A6 m6 c6 ps hNl (wr.alloc (.cells #[.int .i64 0] 3)) hbV.size hpV HPL4.out hbp4
          have HVB := Lib.hid hbV
          have HVR := Lib.hid hrV
          have HVM := Lib.hid hmV
          have HDL := Lib.hid hDl
          have HST := Lib.hid hps
          have HSZ := Lib.hid hszV
          clear hmk hb hbV hrV hmV hpV hDl hps hszV
          gi_wp2
          refine wpIn_rangeFunc_ownF rfl (by omega) (gf := 62) (lb := #[.pointer (some ⟨w1.heap.size, 0, none⟩)]) rfl hfence (enters_of Tryd.func62 (by kernel_rfl) rfl) HST.out belowK_t (belowK_b HVB.out.size) (Below.refl _ _) (fun _ => rfl)
            (fun pre W => RowAt W wr.heap.size 3 [.int .i64 (pre.length : Nat)] ∧ (Below W4.heap.size W4 W ∧ MarksAt Ds W4.heap.size W))
            (fun c pre W => c = .ret ∧ ¬ ∃ k, k ≤ ps.length ∧ pre = upto (pairOf ps) k)
            (OwnFrom.and (row_own _ _ _ (fun pre : List (ByteArray × Nat) => [.int .i64 (pre.length : Nat)])) (OwnFrom.and (ownFrom_below (Nat.le_refl _) HVB.out.size) (marks_own HDL.out)))
            (fun _ _ _ _ _ hs _ _ => hs)
            ⟨HVR.out, HVB.out, HVM.out⟩
            (fun x => { tmps := ((.slice A i cap) :: (.int .i64 st) :: (.pointer (some ⟨w.heap.size, 0, none⟩)) :: (.pointer (some ⟨w.heap.size + 1, 0, none⟩)) :: (.pointer (some ⟨w.heap.size + 1 + 1, 0, none⟩)) :: (.slice A5 i c5) :: (.func (.func 62) #[] #[.pointer (some ⟨w1.heap.size, 0, none⟩)]) :: (.int .i64 i) :: (.pointer (some ⟨bn, 0, none⟩)) :: (.int .i64 (r : Nat)) :: (.pointer (some ⟨wr.heap.size, 0, none⟩)) :: (.string x.1) :: (.int .i64 (x.2 : Int)) :: (u 13) :: (u 14) :: (u 15) :: (u 16) :: (u 17) :: (u 18) :: (u 19) :: (u 20) :: (u 21) :: (u 22) :: (u 23) :: (u 24) :: (u 25) :: (u 26) :: (u 27) :: (u 28) :: (u 29) :: (u 30) :: (u 31) :: (u 32) :: (u 33) :: (u 34) :: (.int .i64 (r : Nat)) :: (.bool true) :: (u 37) :: (u 38) :: (.func (.func 62) #[] #[.pointer (some ⟨w1.heap.size, 0, none⟩)]) :: (.string x.1) :: (.int .i64 (x.2 : Int)) :: (u 42) :: (u 43) :: (u 44) :: (u 45) :: (u 46) :: (u 47) :: (u 48) :: (u 49) :: (u 50) :: (u 51) :: (u 52) :: (u 53) :: (u 54) :: (u 55) :: (u 56) :: (u 57) :: (u 58) :: (u 59) :: (u 60) :: (u 61) :: (u 62) :: (u 63) :: (u 64) :: (u 65) :: (u 66) :: (u 67) :: (u 68) :: (u 69) :: (undef) :: []).toArray, defers := [] }) ?assign ?body ?done ?stop
          case assign =>
            intro l0 x W K hK
            gi_wp2
            exact hK
          case stop =>
            rintro D c pre W _ hpre ⟨_, hno⟩ _
            exact absurd hpre hno
          case body =>
            rintro l0 pre x W ⟨hrow, hb3, hmk3⟩ hlen
            rw [← HNN.out] at hlen
            obtain ⟨hf1, hi5, hpse⟩ := HFN.out (by omega)
            have hNi2 : N = i := by rw [HNN.out, hpse, pathsK_len]
            have hpx : pairOf ps pre.length = (pathB (dat l) pre.length, pre.length) := by
              unfold pairOf
              rw [hpse, List.getElem?_eq_getElem (by rw [pathsK_len]; omega)]
              simp [pathsK]
            have y10 := hrow.cell (k := 0) (by simp)
            have y8 := (HR4.out.keep (hb3.block _ HR4.out.lt)).cell (k := 0) (by simp)
            have y2 := (R04.out.keep (hb3.block _ R04.out.lt)).cell (k := 0) (by simp)
            have hr4' := R24.out.keep (hb3.block _ R24.out.lt)
            have y4 := hr4'.cell (k := 0) (by simp)
            have f4 := hr4'.frozen 0
            simp only [List.getElem?_cons_zero] at y10 y8 y2 y4
            obtain ⟨q, hq⟩ : ∃ q, q = pre.length := ⟨_, rfl⟩
            rw [← hq] at y10 hlen hpx
            have HQ := Lib.hid hq
            have hge : ¬ (N : Int) ≤ (q : Int) := by omega
            have hqi : q < i := by omega
            clear hNi2
            have hq63 : (q : Int) ≤ 1000 := by omega
            have hbw3 : Below w.heap.size w W := HBB4.out.trans (hb3.mono HBB4.out.size)
            have hW4W : W4.heap.size ≤ W.heap.size := hb3.size
            have hpo := pathof_any A cap i l HN.out hi5 hf1 q hqi W w.heap.size hbw3.size (HS.out.below hbw3)
            have hpd := pathD_eq hf1 (i := q) (by rw [dat_len, ← HN.out]; exact hqi)
            have HPO := Lib.hid hpo
            have HPD := Lib.hid hpd
            have HROW := Lib.hid hrow
            have HB3 := Lib.hid hb3
            have HM3 := Lib.hid hmk3
            have HPX := Lib.hid hpx
            obtain ⟨xs1, xs2⟩ := x
            clear hrow hb3 hmk3 hpx hr4' hbw3 hpo hpd hq hf1 hpse
            dsimp only
            by_cases hx2 : xs2 = q
            · have e2 : ((xs2 : Int) != (q : Int)) = false := by rw [bne_eq_false_iff_eq]; omega
              by_cases hx1 : xs1 = pathB (dat l) q
              · have HX1 := Lib.hid hx1
                have HX2 := Lib.hid hx2
                clear hx1 hx2
                gi_wp2_with (refine ⟨trivial, ?_⟩
                             gi_at_call 30
                             refine (CallsIn.inRound l0 (callsIn_wide.2 HPO.out)).mono ?_
                             rintro e w5 ⟨s, rfl, hsd, hb5⟩
                             obtain rfl : xs1 = s := HX1.out.trans (path_bytes (hsd.trans HPD.out)).symm
                             have e1 : (xs1.toList != xs1.toList) = false := by simp
                             have e1' : (xs1.toList == xs1.toList) = true := by simp
                             have hr5 := HROW.out.keep (hb5.block _ HROW.out.lt)
                             have y5 := (hb5.cell (p := ⟨wr.heap.size, 0, none⟩) HROW.out.lt).trans y10
                             have f5 := hr5.frozen 0
                             have HR5 := Lib.hid hr5
                             have HB5 := Lib.hid hb5
                             clear hsd hr5 hb5)
                have hrf := HR5.out.store 0 (.int .i64 ((q : Int) + 1))
                refine ⟨(keeps_below HB5.out).trans (KeepsOthers.setCell _ _ _), (HB5.out.mono hW4W).setCell (p := ⟨wr.heap.size, 0, none⟩) (by have := HVB.out.size; rw [HSZ.out] at this; exact hwz) _, ?_, (HB3.out.trans (HB5.out.mono hW4W)).setCell (p := ⟨wr.heap.size, 0, none⟩) hwz _, (HM3.out.below HB5.out).set HR5.out _⟩
                have e3 : (((pre ++ [(xs1, xs2)]).length : Nat) : Int) = (q : Int) + 1 := by rw [List.length_append, List.length_singleton, HQ.out]; omega
                rw [e3]
                exact hrf
              · have HX1 := Lib.hid hx1
                clear hx1 hx2
                gi_wp2_with (refine ⟨trivial, ?_⟩
                             gi_at_call 30
                             refine (CallsIn.inRound l0 (callsIn_wide.2 HPO.out)).mono ?_
                             rintro e w5 ⟨s, rfl, hsd, hb5⟩
                             have e0 : xs1.toList ≠ s.toList := by intro h; rw [ByteArray.toList_eq, ByteArray.toList_eq] at h; exact HX1.out ((bytes_eq h).trans (path_bytes (hsd.trans HPD.out)))
                             have e1 : (xs1.toList != s.toList) = true := by rw [bne_iff_ne]; exact e0
                             have e2' : (xs1.toList == s.toList) = false := by rw [beq_eq_false_iff_ne]; exact e0
                             have E0 := Lib.hid e0
                             clear e0
                             have y5 := (hb5.cell (p := ⟨w.heap.size + 1 + 1, 0, none⟩) (World.block_lt_of_cell? _ _ y4)).trans y4
                             have f5 := ((R24.out.keep (HB3.out.block _ R24.out.lt)).keep (hb5.block _ (World.block_lt_of_cell? _ _ y4))).frozen 0
                             have HB5 := Lib.hid hb5
                             clear hsd hb5)
                all_goals first
                  | exact ⟨(keeps_below HB5.out).trans (KeepsOthers.setCell _ _ _), rfl, mism (by rw [← HQ.out, HPX.out]; intro h; injection h with h1 _; exact HX1.out h1)⟩
                  | (exfalso; rename_i h9; exact E0.out h9)
                  | (exfalso; rename_i h9; exact E0.out (by simpa using h9))
            · have e2 : ((xs2 : Int) != (q : Int)) = true := by rw [bne_iff_ne]; omega
              have HX2 := Lib.hid hx2
              clear hx2
              gi_wp2
              refine ⟨trivial, ?_⟩
              gi_wp2
              exact ⟨KeepsOthers.setCell _ _ _, rfl, mism (by rw [← HQ.out, HPX.out]; intro h; injection h with _ h1; exact HX2.out h1)⟩
          case done =>
            rintro D xs W hD rfl ⟨hrow, hb3, hmk3⟩ hK
            rw [upto_length, ← HNN.out] at hrow
            have y10 := hrow.cell (k := 0) (by simp)
            have y8 := (HR4.out.keep (hb3.block _ HR4.out.lt)).cell (k := 0) (by simp)
            simp only [List.getElem?_cons_zero] at y10 y8
            have eN : ((N : Int) != (N : Int)) = false := bne_self_eq_false _
            have hW4D : W4.heap.size ≤ D := Nat.le_trans HVB.out.size hD
            have hmkD : MarksAt (D :: Ds) W4.heap.size W := hmk3.cons hW4D hK (fun x hx => Nat.lt_of_lt_of_le (HDL.out x hx) hD)
            have hbV2 : Below W4.heap.size W4 (W.alloc (.cells #[.int .i64 0] 3)) := hb3.alloc hb3.size _
            have hrV2 : RowAt (W.alloc (.cells #[.int .i64 0] 3)) W.heap.size 3 [.int .i64 (([] : List (ByteArray × Nat)).length : Nat)] := ⟨_, heap_alloc_new _ _, rfl⟩
            have hmV2 : MarksAt (D :: Ds) W4.heap.size (W.alloc (.cells #[.int .i64 0] 3)) := hmkD.keep fun x hx => Below.heap_alloc _ _ _ (lt_of_heap (hmkD.2 x hx).2)
            have hDl2 : ∀ x ∈ D :: Ds, x < (W.alloc (.cells #[.int .i64 0] 3)).heap.size := fun x hx => lt_of_heap (hmV2.2 x hx).2
            have hpV2 : PathsAt (W.alloc (.cells #[.int .i64 0] 3)) w1.heap.size (w1.heap.size + 1) A6 m6 c6 ps := ⟨HP4.out.len, HP4.out.box.keep (hbV2.block _ hbp4), own_keep HP4.out.row fun g hg _ => hbV2.block g (HPL4.out g hg)⟩
            have hps2 := clos_stops Fence.wide (20 - 1) hfence rfl (by omega) w1.heap.size (w1.heap.size + 1) W4.heap.size A6 m6 c6 ps hNl (W.alloc (.cells #[.int .i64 0] 3)) hbV2.size hpV2 HPL4.out hbp4
            have hWz : W4.heap.size ≤ W.heap.size := hb3.size
            have HVB2 := Lib.hid hbV2
            have HVR2 := Lib.hid hrV2
            have HVM2 := Lib.hid hmV2
            have HDL2 := Lib.hid hDl2
            have HST2 := Lib.hid hps2
            clear hrow hb3 hmk3 hK hmkD hbV2 hrV2 hmV2 hDl2 hpV2 hps2
            gi_wp2
            refine wpIn_rangeFunc_ownF rfl (by omega) (gf := 62) (lb := #[.pointer (some ⟨w1.heap.size, 0, none⟩)]) rfl hfence (enters_of Tryd.func62 (by kernel_rfl) rfl) HST2.out belowK_t (belowK_b HVB2.out.size) (Below.refl _ _) (fun _ => rfl)
              (fun pre W5 => RowAt W5 W.heap.size 3 [.int .i64 (pre.length : Nat)] ∧ (Below W4.heap.size W4 W5 ∧ MarksAt (D :: Ds) W4.heap.size W5))
              (fun c pre W5 => c = .exit 6 ∧ (Below W4.heap.size W4 W5 ∧ MarksAt (D :: Ds) W4.heap.size W5))
              (OwnFrom.and (row_own _ _ _ (fun pre : List (ByteArray × Nat) => [.int .i64 (pre.length : Nat)])) (OwnFrom.and (ownFrom_below (Nat.le_refl _) HVB2.out.size) (marks_own HDL2.out)))
              (fun c => OwnFrom.and (fun _ _ _ _ hs _ _ => hs) (OwnFrom.and (ownFrom_below (Nat.le_refl _) HVB2.out.size) (marks_own HDL2.out)))
              ⟨HVR2.out, HVB2.out, HVM2.out⟩
              (fun x => { tmps := ((.slice A i cap) :: (.int .i64 st) :: (.pointer (some ⟨w.heap.size, 0, none⟩)) :: (.pointer (some ⟨w.heap.size + 1, 0, none⟩)) :: (.pointer (some ⟨w.heap.size + 1 + 1, 0, none⟩)) :: (.slice A5 i c5) :: (.func (.func 62) #[] #[.pointer (some ⟨w1.heap.size, 0, none⟩)]) :: (.int .i64 i) :: (.pointer (some ⟨bn, 0, none⟩)) :: (.int .i64 (r : Nat)) :: (.pointer (some ⟨wr.heap.size, 0, none⟩)) :: (u 11) :: (u 12) :: (.pointer (some ⟨W.heap.size, 0, none⟩)) :: (u 14) :: (u 15) :: (u 16) :: (u 17) :: (u 18) :: (u 19) :: (u 20) :: (u 21) :: (u 22) :: (u 23) :: (u 24) :: (u 25) :: (u 26) :: (u 27) :: (u 28) :: (u 29) :: (u 30) :: (u 31) :: (u 32) :: (u 33) :: (u 34) :: (.int .i64 (r : Nat)) :: (.bool true) :: (u 37) :: (u 38) :: (.func (.func 62) #[] #[.pointer (some ⟨w1.heap.size, 0, none⟩)]) :: (u 40) :: (u 41) :: (u 42) :: (u 43) :: (u 44) :: (u 45) :: (u 46) :: (u 47) :: (u 48) :: (u 49) :: (u 50) :: (u 51) :: (u 52) :: (u 53) :: (u 54) :: (u 55) :: (u 56) :: (u 57) :: (u 58) :: (.int .i64 (N : Nat)) :: (.int .i64 (N : Nat)) :: (.bool false) :: (.func (.func 62) #[] #[.pointer (some ⟨w1.heap.size, 0, none⟩)]) :: (.string x.1) :: (.int .i64 (x.2 : Int)) :: (u 65) :: (u 66) :: (u 67) :: (u 68) :: (u 69) :: (undef) :: []).toArray, defers := [] }) ?assign2 ?body2 ?done2 ?stop2
            case assign2 =>
              intro l0 x W5 K hK
              gi_wp2
              simpa using hK
            case body2 =>
              rintro l0 pre x W5 ⟨hrow, hb3, hmk3⟩ hlen
              have hq63 : (pre.length : Int) ≤ 1000 := by omega
              have y13 := hrow.cell (k := 0) (by simp)
              have f13 := hrow.frozen 0
              have hr3 := R14.out.keep (hb3.block _ R14.out.lt)
              have y3 := hr3.cell (k := 0) (by simp)
              simp only [List.getElem?_cons_zero] at y13 y3
              obtain ⟨q, hq⟩ : ∃ q, q = pre.length := ⟨_, rfl⟩
              rw [← hq] at y13 hq63
              have hrf := hrow.store 0 (.int .i64 ((q : Int) + 1))
              have hne3 : w.heap.size + 1 ≠ W.heap.size := by have := R14.out.lt; omega
              have z3 : (W5.setCell ⟨W.heap.size, 0, none⟩ (.int .i64 ((q : Int) + 1))).cell? ⟨w.heap.size + 1, 0, none⟩ = some (.int .i64 st) := (World.cell?_of_block (Below.heap_setCell _ _ _ _ hne3)).trans y3
              have z13 := hrf.cell (k := 0) (by simp)
              simp only [List.set_cons_zero, List.getElem?_cons_zero] at z13
              have e3 : (((pre ++ [x]).length : Nat) : Int) = (q : Int) + 1 := by rw [List.length_append, List.length_singleton, hq]; omega
              have hK1 := KeepsOthers.setCell W5 ⟨W.heap.size, 0, none⟩ (.int .i64 ((q : Int) + 1))
              have hK2 : Below W4.heap.size W5 (W5.setCell ⟨W.heap.size, 0, none⟩ (.int .i64 ((q : Int) + 1))) := (Below.refl _ W5).setCell (p := ⟨W.heap.size, 0, none⟩) hWz _
              have hK3 : RowAt (W5.setCell ⟨W.heap.size, 0, none⟩ (.int .i64 ((q : Int) + 1))) W.heap.size 3 [.int .i64 ((pre ++ [x]).length : Nat)] := by rw [e3]; exact hrf
              have hK4 := hmk3.set hrow (.int .i64 ((q : Int) + 1))
              have H1 := Lib.hid hK1
              have H2 := Lib.hid hK2
              have H3 := Lib.hid hK3
              have H4 := Lib.hid hK4
              have HB3 := Lib.hid hb3
              clear hrow hb3 hmk3 hr3 hrf hK1 hK2 hK3 hK4 e3 hq
              try dsimp only
              gi_wp2
              all_goals first
                | exact ⟨H1.out, rfl, HB3.out.trans H2.out, H4.out⟩
                | exact ⟨H1.out, H2.out, H3.out, HB3.out.trans H2.out, H4.out⟩
            case done2 =>
              rintro D2 xs W6 hD2 rfl ⟨_, hb6, hmk6⟩ hK2
              have hmkE : MarksAt (D2 :: D :: Ds) W4.heap.size W6 := hmk6.cons (Nat.le_trans HVB2.out.size hD2) hK2 (fun x hx => Nat.lt_of_lt_of_le (HDL2.out x hx) hD2)
              have HE := Lib.hid hmkE
              have H6 := Lib.hid hb6
              clear hb6 hmk6 hK2 hmkE
              gi_wp2
              exact ⟨⟨r + 1, D2 :: D :: Ds, by omega, rfl, HE.out, H6.out⟩, by simp [intOf]; omega⟩
            case stop2 =>
              rintro D2 c pre W6 hD2 _ ⟨rfl, hb6, hmk6⟩ hK2
              have hmkE : MarksAt (D2 :: D :: Ds) W4.heap.size W6 := hmk6.cons (Nat.le_trans HVB2.out.size hD2) hK2 (fun x hx => Nat.lt_of_lt_of_le (HDL2.out x hx) hD2)
              have HE := Lib.hid hmkE
              have H6 := Lib.hid hb6
              clear hb6 hmk6 hK2 hmkE
              gi_wp2
              exact ⟨⟨r + 1, D2 :: D :: Ds, by omega, rfl, HE.out, H6.out⟩, by simp [intOf]; omega⟩
        · obtain rfl : r = 2 := by omega
          have hbwr : Below w.heap.size w wr := HBB4.out.trans (hb.mono HBB4.out.size)
          have hwo := works_any wr (HV.out.below hbwr hw0) (Nat.lt_of_lt_of_le hw0 hbwr.size)
          have hr4 := R24.out.keep (hb.block _ R24.out.lt)
          have HWO := Lib.hid hwo
          have HRR := Lib.hid hr4
          have HBR := Lib.hid hbwr
          have HMK := Lib.hid hmk
          clear hwo hr4 hbwr hmk hb
          gi_wp2_with (refine ⟨trivial, ?_⟩
                       gi_at_call 27
                       refine (callsIn_wide.2 HWO.out).mono ?_
                       rintro e w8 ⟨rfl, hb8⟩
                       have hr8 := HRR.out.keep (hb8.block _ HRR.out.lt)
                       have y4 := hr8.cell (k := 0) (by simp)
                       have f4 := hr8.frozen 0
                       simp only [List.getElem?_cons_zero] at y4
                       have HR8 := Lib.hid hr8
                       have HB8 := Lib.hid hb8
                       clear hb8 hr8)
          have hmf := (HMK.out.below HB8.out).set HR8.out (.bool true)
          have hge4 : ∀ D ∈ Ds, w.heap.size ≤ D := fun D hD => Nat.le_trans HBB4.out.size (hmf.2 D hD).1
          have hbf : Below w.heap.size w (w8.setCell ⟨w.heap.size + 1 + 1, 0, none⟩ (.bool true)) := ((HBR.out.trans (HB8.out.mono HBR.out.size))).setCell (p := ⟨w.heap.size + 1 + 1, 0, none⟩) (by show w.heap.size ≤ w.heap.size + 1 + 1; omega) _
          have hrf := HR8.out.store 0 (.bool true)
          have hnin : w.heap.size + 1 + 1 ∉ Ds := fun hD => by
            have h2 := (hmf.2 _ hD).2
            obtain ⟨cur, hh, _⟩ := hrf
            rw [hh] at h2
            cases h2
          refine leaves_marks Ds _ hmf.1 (fun D hD => (hmf.2 D hD).2) ?_
          have hc5 : (shutAll (w8.setCell ⟨w.heap.size + 1 + 1, 0, none⟩ (.bool true)) Ds).cell? ⟨w.heap.size + 1 + 1, 0, none⟩ = some (.bool true) := by
            rw [World.cell?_of_block (shut_other Ds _ hnin), hrf.cell (k := 0) (by simp)]
            rfl
          refine ⟨.bool true, ?_, rfl, shut_below Ds _ hge4 hbf⟩
          simp [results, Tryd.f6, go_sem, hc5]
end Go.Proofs.YtmdnbajbfnhecaaDoor
