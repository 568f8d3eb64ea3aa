/- A list lent, with marks behind it: the contract. -/
import Derived.Test.YtndocngkganpdaaHeld
import Derived.Test.YtndocngkganpdaaRgOwnS
import Derived.Deep.DeepCutAuto
set_option linter.unusedVariables false
namespace Go.Proofs.Ytndocngkganpdaa
open Go.RowKit
/-- Whatever order is picked, and S holds behind every operation that is carried out before number f has come up. -/
def wpAnyF (P : Program) (md : Region.Mode) (ops : Array Oper) (Q : Exit → Act → World → Prop) (S : World → Prop) (f : Nat) : Nat → Array Bool → Act → World → Prop
  | 0, listed, a, w => Region.ready md ops listed = [] ∧ Q .normal a w
  | fuel + 1, listed, a, w =>
    (Region.ready md ops listed = [] → Q .normal a w) ∧
    ∀ i ∈ Region.ready md ops listed, wpOp P ops Q i (fun a' w' => (f = i ∨ listed.getD f true = true ∨ S w') ∧ wpAnyF P md ops Q S f fuel (listed.setIfInBounds i true) a' w') a w
section
variable {P : Program} {ops : Array Oper} {Q : Exit → Act → World → Prop} {md : Region.Mode} {S : World → Prop} {f : Nat}
theorem wpAny_of_F : ∀ (fuel : Nat) (listed : Array Bool) (a : Act) (w : World), wpAnyF P md ops Q S f fuel listed a w → wpAny P md ops Q fuel listed a w
  | 0, _, _, _, h => h
  | fuel + 1, _, _, _, h => ⟨h.1, fun i hi => wpOp_mono (fun a' w' h' => wpAny_of_F fuel _ a' w' h'.2) (h.2 i hi)⟩
/-- Number i may be taken first: number f waits for it. -/
theorem wpAnyF_first {i : Nat} {oi of : Oper} {v : Value} (hi : ops[i]? = some oi) (hsel : ∀ (j : Nat) (o : Oper) cs b, ops[j]? = some o → o.op ≠ .select cs b)
    (hQ : ∀ c a w, Q (.panic c) (a.put oi.dst v) w → Q (.panic c) a w) (hof : ops[f]? = some of) (hdep : ∃ e ∈ of.after, Region.binds md e = true ∧ e.on = i) (hfi : f ≠ i) :
    ∀ (fuel : Nat) (listed : Array Bool) (a : Act) (w : World),
      (∀ j oj, ops[j]? = some oj → j ≠ i → listed.getD j true = false → (∀ e ∈ oj.after, Region.binds md e = true → e.on ≠ i) → oi.apart ops oj = true) →
      i ∈ Region.ready md ops listed → listed.getD f true = false → YieldsIf P ops S oi v a → S w →
      wpAnyF P md ops Q S f fuel (listed.setIfInBounds i true) (a.put oi.dst v) w → wpAnyF P md ops Q S f (fuel + 1) listed a w := by
  intro fuel
  induction fuel with
  | zero =>
    intro listed a w _ hr _ hy hS H
    refine ⟨fun h => (by rw [h] at hr; cases hr), fun j hj => ?_⟩
    by_cases hji : j = i
    · subst hji; exact hy.wpOp hi hS ⟨.inr (.inr hS), H⟩
    · have := ready_mono hj hji
      rw [H.1] at this
      cases this
  | succ fuel ih =>
    intro listed a w hfree hr hfu hy hS H
    refine ⟨fun h => (by rw [h] at hr; cases hr), fun j hj => ?_⟩
    by_cases hji : j = i
    · subst hji; exact hy.wpOp hi hS ⟨.inr (.inr hS), H⟩
    · have h1 := H.2 j (ready_mono hj hji)
      obtain ⟨hjun, oj, hoj, hall⟩ := mem_ready.1 hj
      have hnot : ∀ e ∈ oj.after, Region.binds md e = true → e.on ≠ i := fun e he hb heq => by
        have h1 := hall e he hb
        have h0 := (mem_ready.1 hr).1
        rw [heq] at h1
        rcases Nat.lt_or_ge i listed.size with h' | h'
        · simp [h'] at h0 h1; rw [h0] at h1; cases h1
        · simp [Array.getElem?_eq_none h'] at h1
      have hjf : f ≠ j := fun e => by
        subst e
        obtain ⟨e, he, hb, heq⟩ := hdep
        rw [hof] at hoj
        injection hoj with hoj
        subst hoj
        exact hnot e he hb heq
      have h2 := wpOp_putIf hoj (hfree j oj hoj hji hjun hnot) (fun cs b => hsel i oi cs b hi) (fun cs b => hsel j oj cs b hoj) hQ hy h1
      have hfree' : ∀ k ok, ops[k]? = some ok → k ≠ i → (listed.setIfInBounds j true).getD k true = false →
          (∀ e ∈ ok.after, Region.binds md e = true → e.on ≠ i) → oi.apart ops ok = true := fun k ok hk hki hun hno => by
        refine hfree k ok hk hki ?_ hno
        by_cases hjk : j = k
        · subst hjk; exact hjun
        · rw [getD_set_ne true hjk] at hun; exact hun
      have hfu' : (listed.setIfInBounds j true).getD f true = false := by rw [getD_set_ne true (Ne.symm hjf)]; exact hfu
      have hSw : ∀ w', (f = j ∨ (listed.setIfInBounds i true).getD f true = true ∨ S w') → S w' := fun w' h => by
        rcases h with h | h | h
        · exact absurd h hjf
        · rw [getD_set_ne true (Ne.symm hfi), hfu] at h; cases h
        · exact h
      refine wpOp_mono (fun a' w' h3 => ⟨.inr (.inr (hSw w' h3.2.1)), ih (listed.setIfInBounds j true) a' w' hfree' (ready_mono hr (Ne.symm hji)) hfu' h3.1 (hSw w' h3.2.1) ?_⟩) h2
      rw [Array.setIfInBounds_comm _ _ hji]
      exact h3.2.2
/-- Does number f wait for number i? -/
def waitsB (md : Region.Mode) (ops : Array Oper) (f i : Nat) : Bool := match ops[f]? with
  | none => false
  | some o => o.after.any fun e => Region.binds md e && e.on == i
theorem waits_spec {i : Nat} (h : waitsB md ops f i = true) : ∃ of, ops[f]? = some of ∧ ∃ e ∈ of.after, Region.binds md e = true ∧ e.on = i := by
  unfold waitsB at h
  split at h
  · cases h
  · rename_i o ho
    rw [Array.any_eq_true'] at h
    obtain ⟨e, he, hh⟩ := h
    rw [Bool.and_eq_true, beq_iff_eq] at hh
    exact ⟨o, ho, e, he, hh⟩
theorem heldF_take {i d : Nat} {oi : Oper} {v : Value} {fuel : Nat} {listed : Array Bool} {a : Act} {w : World} (hi : ops[i]? = some oi) (hd : oi.dst = some d)
    (hs : Region.noSelect ops = true) (hf : Region.free md ops listed i = true) (hr : (Region.ready md ops listed).contains i = true) (hwt : waitsB md ops f i = true) (hfi : (f == i) = false) (hfu : listed.getD f true = false)
    (hQ : ∀ c a w, Q (.panic c) (a.put (some d) v) w → Q (.panic c) a w) (hw : Region.wanted oi (yielded ops a.tmps) = true) (hy : ∀ w, S w → (execOp a.eval oi).run P w = .ok (.value v) w) (hS : S w)
    (h : wpAnyF P md ops Q S f fuel (listed.setIfInBounds i true) (a.put (some d) v) w) : wpAnyF P md ops Q S f (fuel + 1) listed a w := by
  obtain ⟨of, hof, hdep⟩ := waits_spec hwt
  exact wpAnyF_first hi (Region.noSelect_spec hs) (by rw [hd]; exact hQ) hof hdep (by simpa using hfi) fuel listed a w (Region.free_spec hi hf) (by simpa using hr) hfu (.inl ⟨hw, hy⟩) hS (by rw [hd]; exact h)
def AllReadyF (P : Program) (md : Region.Mode) (ops : Array Oper) (Q : Exit → Act → World → Prop) (S : World → Prop) (f : Nat) (fuel : Nat) (listed : Array Bool) (a : Act) (w : World) (rs : List Nat) : Prop :=
  ∀ i ∈ rs, wpOp P ops Q i (fun a' w' => (f = i ∨ listed.getD f true = true ∨ S w') ∧ wpAnyF P md ops Q S f fuel (listed.setIfInBounds i true) a' w') a w
theorem AllReadyF.nil {fuel : Nat} {listed : Array Bool} {a : Act} {w : World} : AllReadyF P md ops Q S f fuel listed a w [] := fun _ h => by cases h
theorem AllReadyF.cons {fuel : Nat} {listed : Array Bool} {a : Act} {w : World} {i : Nat} {o : Oper} {rs : List Nat} (ho : ops[i]? = some o)
    (h : ∀ K' : Act → World → Prop, Shut (∀ a w, S w → (S w → wpAnyF P md ops Q S f fuel (listed.setIfInBounds i true) a w) → K' a w) → if Region.wanted o (yielded ops a.tmps) = true then Oper.wp P o a w K' Q else K' (a.put o.dst undef) w)
    (hs : AllReadyF P md ops Q S f fuel listed a w rs) : AllReadyF P md ops Q S f fuel listed a w (i :: rs) := fun j hj => by
  rcases List.mem_cons.1 hj with rfl | hj
  · exact wpOp_step ho (fun K' hK => h K' (fun a w hS hW => hK a w ⟨.inr (.inr hS), hW hS⟩))
  · exact hs j hj
/-- Number f itself: nothing is asked behind it. -/
theorem AllReadyF.last {fuel : Nat} {listed : Array Bool} {a : Act} {w : World} {o : Oper} (ho : ops[f]? = some o)
    (h : ∀ K' : Act → World → Prop, Shut (∀ a w, wpAnyF P md ops Q S f fuel (listed.setIfInBounds f true) a w → K' a w) → if Region.wanted o (yielded ops a.tmps) = true then Oper.wp P o a w K' Q else K' (a.put o.dst undef) w) : AllReadyF P md ops Q S f fuel listed a w [f] := fun j hj => by
  obtain rfl : j = f := by simpa using hj
  exact wpOp_step ho (fun K' hK => h K' (fun a w hW => hK a w ⟨.inl rfl, hW⟩))
theorem wpAnyF_ready {rs : List Nat} {fuel : Nat} {listed : Array Bool} {a : Act} {w : World} (hr : Region.ready md ops listed = rs) (hne : rs ≠ [])
    (h : AllReadyF P md ops Q S f fuel listed a w rs) : wpAnyF P md ops Q S f (fuel + 1) listed a w := ⟨fun h0 => absurd (hr ▸ h0) hne, hr ▸ h⟩
theorem wpAnyF_done {listed : Array Bool} {a : Act} {w : World} (hr : Region.ready md ops listed = []) (h : Q .normal a w) : ∀ fuel, wpAnyF P md ops Q S f fuel listed a w
  | 0 => ⟨hr, h⟩
  | _ + 1 => ⟨fun _ => h, by rw [hr]; simp⟩
theorem wp_region_F {id : Nat} {a : Act} {w : World} (hm : P.follows .mixedOrders = true)
    (h : wpAnyF P .any ops Q S f ops.size (Array.replicate ops.size false) a w.drew) : (Code.region id ops true).wp P Q a w := wp_region_any hm (wpAny_of_F _ _ _ _ h)
end
end Go.Proofs.Ytndocngkganpdaa

set_option linter.unusedVariables false
namespace Go.Proofs.Ytndocngkganpdaa
open Go.RowKit
theorem info54 : (Try.prog.info? 54).map (fun i => (i.zero, i.size, i.bytes)) = some (some (.agg #[.string ⟨#[]⟩, .string ⟨#[]⟩]), 2, 32) := by kernel_rfl
theorem info42 : (Try.prog.info? 42).map (fun i => (i.zero, i.size, i.bytes)) = some (some (.agg #[.int .i64 0, .string ⟨#[]⟩, .slice none 0 0]), 3, 48) := by kernel_rfl
def mkP : List Value := [.string ⟨#[33]⟩, .string ⟨#[]⟩]
def mkN : List Value := [.int .i64 (-9), .string ⟨#[]⟩, .slice none 0 0]
theorem one_nm (l : List Nm) : ∀ u ∈ nmCells l, u.oneCell' = true := by
  intro u hu
  obtain ⟨x, _, hx⟩ := List.mem_flatMap.1 hu
  simp [Nm.cells] at hx
  rcases hx with rfl | rfl | rfl <;> rfl
theorem own_cap1 {w : World} {base e size n c : Nat} {A : Option Addr} {xs : List Value} (h : w.ownsRow base e size (.slice A (n + 1) c) (n + 1) xs) : n + 1 ≤ c ∧ c ≤ maxLen := by
  rcases h.2 with ⟨_, h⟩ | ⟨g, cap, cur, hv, h1, h2, h3, h4, _⟩
  · omega
  · injection hv with _ _ hv
    subst hv
    exact ⟨h3, h4⟩
theorem seg_front {w : World} {B : Nat} {A : Option Addr} {xs ys : List Value} (h : Seg w B A (xs ++ ys)) : Seg w B A xs := fun hne => by
  obtain ⟨b, off, e, hb, hc⟩ := h (by intro e; exact hne (List.append_eq_nil_iff.1 e).1)
  exact ⟨b, off, e, hb, fun j u hu => hc j u (by rw [List.getElem?_append_left (List.getElem?_eq_some_iff.1 hu).1]; exact hu)⟩
/-- The props of a node, with a mark behind them. -/
def markP (w : World) (base : Nat) (x : Nm) : Prop := w.ownsRow base 54 2 (.slice x.A (x.d.ps.length + 1) x.c) (x.d.ps.length + 1) (prCells x.d.ps ++ mkP)
structure LentR (w : World) (base : Nat) (A : Option Addr) (k c : Nat) (L : List Nm) : Prop where
  len : k = L.length
  row : w.ownsRow base 42 3 (.slice A k c) k (nmCells L)
  props : ∀ x ∈ L, markP w base x
/-- The same, with the mark behind the list. -/
structure LentE (w : World) (base : Nat) (A : Option Addr) (k c : Nat) (L : List Nm) : Prop where
  len : k = L.length
  row : w.ownsRow base 42 3 (.slice A (k + 1) c) (k + 1) (nmCells L ++ mkN)
  props : ∀ x ∈ L, markP w base x
section
variable {w w' : World} {base k c : Nat} {A : Option Addr} {L : List Nm}
theorem LentR.keep (h : LentR w base A k c L) (hb : Below w.heap.size w w') : LentR w' base A k c L :=
  ⟨h.len, own_keep h.row fun g _ hlt => hb.block g hlt, fun x hx => own_keep (h.props x hx) fun g _ hlt => hb.block g hlt⟩
theorem LentE.keep (h : LentE w base A k c L) (hb : Below w.heap.size w w') : LentE w' base A k c L :=
  ⟨h.len, own_keep h.row fun g _ hlt => hb.block g hlt, fun x hx => own_keep (h.props x hx) fun g _ hlt => hb.block g hlt⟩
theorem LentR.push {A5 : Option Addr} {c5 : Nat} (h : LentR w base A k c L) (hp : Pushed base (.slice A k c) w w') (x : Nm) (hx : markP w base x) (ho : w'.ownsRow base 42 3 (.slice A5 (k + 1) c5) (k + 1) (nmCells L ++ x.cells)) : LentR w' base A5 (k + 1) c5 (L ++ [x]) := by
  refine ⟨by simp [h.len], by unfold nmCells at ho ⊢; rw [List.flatMap_append]; simpa using ho, fun y hy => ?_⟩
  rcases List.mem_append.1 hy with hy | hy
  · exact own_keep (h.props y hy) fun g hg hlt => hp.row g hlt (own_types (h.props y hy) h.row (by decide) g hg)
  · obtain rfl : y = x := by simpa using hy
    exact own_keep hx fun g hg hlt => hp.row g hlt (own_types hx h.row (by decide) g hg)
theorem LentR.close {A5 : Option Addr} {c5 : Nat} (h : LentR w base A k c L) (hp : Pushed base (.slice A k c) w w') (ho : w'.ownsRow base 42 3 (.slice A5 (k + 1) c5) (k + 1) (nmCells L ++ mkN)) : LentE w' base A5 k c5 L :=
  ⟨h.len, ho, fun y hy => own_keep (h.props y hy) fun g hg hlt => hp.row g hlt (own_types (h.props y hy) h.row (by decide) g hg)⟩
theorem LentE.nodes (h : LentE w base A k c L) : Nodes w w.heap.size A L := ⟨seg_front (own_seg h.row), fun x hx => seg_front (own_seg (h.props x hx))⟩
end
theorem sized_dat {l L : List Nm} (hd : dat L = dat l) (h : Sized l) : Sized L := by
  have hl : L.length = l.length := by rw [← dat_len L, hd, dat_len]
  have hm : ∀ x ∈ L, ∃ y ∈ l, y.d = x.d := fun x hx => by
    have : x.d ∈ dat L := List.mem_map_of_mem hx
    rw [hd] at this
    obtain ⟨y, hy, e⟩ := List.mem_map.1 this
    exact ⟨y, hy, e⟩
  refine ⟨by rw [hl]; exact h.n, by rw [hd]; exact h.small, fun x hx => ?_, fun x hx => ?_⟩
  · obtain ⟨y, hy, e⟩ := hm x hx
    rw [← e]; exact h.props y hy
  · obtain ⟨y, hy, e⟩ := hm x hx
    rw [← e]; exact h.wf y hy
/-- What memory holds of a list with one thing more. -/
structure Roomy (l : List Nm) : Prop where
  n : (l.length + 1) * 48 ≤ 140737488355328
  props : ∀ x ∈ l, (x.d.ps.length + 1) * 32 ≤ 140737488355328
set_option maxRecDepth 100000 in
set_option maxHeartbeats 16000000 in
theorem lent_any (A : Option Addr) (cap n : Nat) (l : List Nm) (hn : n = l.length) (hsz : Sized l) (hrm : Roomy l) (w : World) (B : Nat) (hB : B ≤ w.heap.size) (hs : Nodes w B A l) :
    Calls Try.prog 10 #[.slice A n cap] w fun e w' => ∃ A' c' L, e = .returned (.slice A' n c') ∧ dat L = dat l ∧ LentE w' w.heap.size A' n c' L ∧ Below w.heap.size w w' := by
  obtain ⟨i0, fi, fz0, fz1, fz2⟩ := info_parts info54
  obtain ⟨j0, gi, gz0, gz1, gz2⟩ := info_parts info42
  have hnn : (n + 1) * 48 ≤ 140737488355328 := by rw [hn]; exact hrm.n
  have HN := Lib.hid hn
  have HRM := Lib.hid hrm
  have HS := Lib.hid hs
  clear hn hsz hrm hs
  go_enter Try.func10, Try.ntmps10
  go_wp2_with fail
  go_loopw [3, 4] (fun mv iv wx => ∃ (k : Nat) (Am : Option Addr) (cm : Nat) (L : List Nm), k ≤ n ∧ iv = .int .i64 k ∧ mv = .slice Am k cm ∧ dat L = (dat l).take k ∧ LentR wx w.heap.size Am k cm L ∧ Below w.heap.size w wx) (fun _ iv _ => n - (intOf iv).toNat)
  case atStart => exact ⟨0, none, 0, [], by omega, rfl, rfl, rfl, ⟨rfl, World.ownsRow_nil _ _ _ _, fun x hx => by cases hx⟩, Below.refl _ _⟩
  case round =>
    obtain ⟨k, Am, cm, L, hk, rfl, rfl, hd, hl, hb⟩ := hrel
    have HD := Lib.hid hd
    have HL := Lib.hid hl
    have HB := Lib.hid hb
    have hbs := hb.size
    by_cases hlt : k < n
    · have hkl : k < l.length := by rw [← HN.out]; exact hlt
      have hki : (k : Int) < (n : Int) := by omega
      obtain ⟨b, off, eA, hbB, x0, x1, x2, hseg⟩ := (HS.out.below (hb.mono hB)).at_ hkl
      subst eA
      have hzk := HRM.out.props l[k] (List.getElem_mem hkl)
      have hdk : (dat l).take (k + 1) = (dat l).take k ++ [l[k].d] := by
        rw [List.take_succ_eq_append_getElem (by rw [dat_len]; exact hkl), dat_get l hkl]
      obtain ⟨X, hx⟩ : ∃ X, l[k] = X := ⟨_, rfl⟩
      obtain ⟨⟨P, s, ps⟩, xA, xc⟩ := X
      rw [hx] at x0 x1 x2 hseg hzk hdk
      simp only at x0 x1 x2 hseg hzk hdk
      obtain ⟨m, hm⟩ : ∃ m, m = ps.length := ⟨_, rfl⟩
      rw [← hm] at x2 hzk
      have HM := Lib.hid hm
      have HDK := Lib.hid hdk
      have HSG := Lib.hid hseg
      clear hd hl hb hx hdk hseg hm
      obtain ⟨wo, hwo⟩ : ∃ wo : World, wo = wr := ⟨_, rfl⟩
      go_upto_region 6 with (fail)
      obtain ⟨wq, hwq⟩ : ∃ wq, wq = wr.alloc (.cells #[.int .i64 P, .string s, .slice xA m xc] 42) := ⟨_, rfl⟩
      have hrq := rowAt_box wr 42 [.int .i64 P, .string s, .slice xA m xc]
      have hrq : RowAt wq wr.heap.size 42 [.int .i64 P, .string s, .slice xA m xc] := by rw [hwq]; exact hrq
      have hbq : Below wr.heap.size wr wq := by rw [hwq]; exact (Below.refl _ wr).alloc (Nat.le_refl _) _
      have hqlt : wr.heap.size < wq.heap.size := by rw [hwq]; simp
      have hsq : Seg wq wq.heap.size xA (prCells ps) := (HSG.out.more (Nat.le_trans hB hbs)).below hbq |>.more hbq.size
      have HRQ := Lib.hid hrq
      have HBQ := Lib.hid hbq
      have HSQ := Lib.hid hsq
      rw [← hwq]
      clear hwq hrq hbq hsq
      go_cut [3] (fun mv wx => mv = .slice Am k cm ∧ ∃ Ax cx, RowAt wx wr.heap.size 42 [.int .i64 P, .string s, .slice Ax m cx] ∧ wx.ownsRow wr.heap.size 54 2 (.slice Ax (m + 1) cx) (m + 1) (prCells ps ++ mkP) ∧ Below wr.heap.size wr wx)
      case first =>
        refine wp_region_noPanic ?_
        have hx2 := HRQ.out.cell (k := 2) (by simp)
        simp only [List.getElem?_cons_zero, List.getElem?_cons_succ] at hx2
        have hb0 : Below wq.heap.size wq wq.drew := (Below.refl _ wq).drew
        refine wp_region_F (S := fun W => W.cell? ⟨wr.heap.size, 2, none⟩ = some (.slice xA m xc)) (f := 12) (by kernel_rfl) ?_
        have hHeld : (wq.drew).cell? ⟨wr.heap.size, 2, none⟩ = some (.slice xA m xc) := hx2
        (refine heldF_take (i := 1) rfl rfl (by kernel_rfl) (by kernel_rfl) (by kernel_rfl) (by kernel_rfl) rfl (by kernel_rfl) (fun _ _ _ h => h) (by rfl) (by intro w hSw; (try dsimp only at hSw); go_simp; first | done | with_reducible rfl) (by assumption) ?_; try simp only [Act.put, List.setIfInBounds_toArray, List.set_cons_zero, List.set_cons_succ])
        (refine heldF_take (i := 2) rfl rfl (by kernel_rfl) (by kernel_rfl) (by kernel_rfl) (by kernel_rfl) rfl (by kernel_rfl) (fun _ _ _ h => h) (by rfl) (by intro w hSw; (try dsimp only at hSw); go_simp; first | done | with_reducible rfl) (by assumption) ?_; try simp only [Act.put, List.setIfInBounds_toArray, List.set_cons_zero, List.set_cons_succ])
        (refine heldF_take (i := 4) rfl rfl (by kernel_rfl) (by kernel_rfl) (by kernel_rfl) (by kernel_rfl) rfl (by kernel_rfl) (fun _ _ _ h => h) (by rfl) (by intro w hSw; (try dsimp only at hSw); go_simp; first | done | with_reducible rfl) (by assumption) ?_; try simp only [Act.put, List.setIfInBounds_toArray, List.set_cons_zero, List.set_cons_succ])
        (refine heldF_take (i := 7) rfl rfl (by kernel_rfl) (by kernel_rfl) (by kernel_rfl) (by kernel_rfl) rfl (by kernel_rfl) (fun _ _ _ h => h) (by rfl) (by intro w hSw; (try dsimp only at hSw); go_simp; first | done | with_reducible rfl) (by assumption) ?_; try simp only [Act.put, List.setIfInBounds_toArray, List.set_cons_zero, List.set_cons_succ])
        (refine heldF_take (i := 8) rfl rfl (by kernel_rfl) (by kernel_rfl) (by kernel_rfl) (by kernel_rfl) rfl (by kernel_rfl) (fun _ _ _ h => h) (by rfl) (by intro w hSw; (try dsimp only at hSw); go_simp; first | done | with_reducible rfl) (by assumption) ?_; try simp only [Act.put, List.setIfInBounds_toArray, List.set_cons_zero, List.set_cons_succ])
        (refine heldF_take (i := 9) rfl rfl (by kernel_rfl) (by kernel_rfl) (by kernel_rfl) (by kernel_rfl) rfl (by kernel_rfl) (fun _ _ _ h => h) (by rfl) (by intro w hSw; (try dsimp only at hSw); go_simp; first | done | with_reducible rfl) (by assumption) ?_; try simp only [Act.put, List.setIfInBounds_toArray, List.set_cons_zero, List.set_cons_succ])
        refine wpAnyF_ready (rs := [0, 5]) (by kernel_rfl) (by simp) ?_
        refine AllReadyF.cons rfl (fun K hK => ?_) ?_
        · go_simp
          have hb1 : Below wq.heap.size wq ((wq.drew).alloc (.cells #[] 54)) := hb0.alloc hb0.size _
          refine hK.out _ _ ((hb1.cell (p := ⟨wr.heap.size, 2, none⟩) hqlt).trans hx2) (fun hHeld => ?_)
          clear hK K
          try simp only [Act.put, List.setIfInBounds_toArray, List.set_cons_zero, List.set_cons_succ]
          refine wpAnyF_ready (rs := [3, 5]) (by kernel_rfl) (by simp) ?_
          refine AllReadyF.cons rfl (fun K hK => ?_) ?_
          · refine step_append_seg rfl (.tmp 16) (.tmp 18) 40 rfl wq.heap.size 54 i0 _ 2 32 Try.underlying40 fi fz0 fz1 fz2 rfl (by decide) (.slice (some ⟨wq.heap.size, 0, none⟩) 0 0) 0 [] rfl (own_empty wq.drew wq.heap.size 54 2 wq.heap.size rfl (Nat.le_refl _)) wq.heap.size xA m xc (prCells ps) rfl (by rw [prCells_len, HM.out]) (HSQ.out.below hb1) (one_pr ps) (by unfold maxLen; omega) (by omega) hb1.size ?_
            intro v3 w3 hown3' hg3 _
            have hown3 : w3.ownsRow wq.heap.size 54 2 v3 m (prCells ps) := by simpa using hown3'
            obtain ⟨A3, c3, rfl⟩ := own_shape hown3
            have hb3 : Below wq.heap.size wq w3 := hb1.grown hg3 hb1.size (fun g hg => ((own_empty wq.drew wq.heap.size 54 2 wq.heap.size rfl (Nat.le_refl _)).lt g hg).1)
            refine hK.out _ _ ((hb3.cell (p := ⟨wr.heap.size, 2, none⟩) hqlt).trans hx2) (fun hHeld => ?_)
            clear hK K
            try simp only [Act.put, List.setIfInBounds_toArray]
            refine wpAnyF_ready (rs := [5]) (by kernel_rfl) (by simp) ?_
            refine AllReadyF.cons rfl (fun K hK => ?_) AllReadyF.nil
            go_simp
            have hb5 : Below wq.heap.size wq ((w3).alloc (.cells #[.string ⟨#[33]⟩, .string ⟨#[]⟩] 54)) := hb3.alloc hb3.size _
            refine hK.out _ _ ((hb5.cell (p := ⟨wr.heap.size, 2, none⟩) hqlt).trans hx2) (fun hHeld => ?_)
            clear hK K
            try simp only [Act.put, List.setIfInBounds_toArray, List.set_cons_zero, List.set_cons_succ]
            have hmk := rowAt_box w3 54 mkP
            refine wpAnyF_ready (rs := [6]) (by kernel_rfl) (by simp) ?_
            refine AllReadyF.cons rfl (fun K hK => ?_) AllReadyF.nil
            refine step_append_seg rfl (.tmp 19) (.tmp 21) 40 rfl wq.heap.size 54 i0 _ 2 32 Try.underlying40 fi fz0 fz1 fz2 rfl (by decide) (.slice A3 m c3) m (prCells ps) rfl (hown3.alloc _) ((w3.alloc (.cells #[.string ⟨#[33]⟩, .string ⟨#[]⟩] 54)).heap.size) (some ⟨w3.heap.size, 0, none⟩) 1 1 mkP rfl rfl (hmk.seg hmk.lt) (by intro u hu; simp [mkP] at hu; rcases hu with rfl | rfl <;> rfl) (by unfold maxLen; omega) (by omega) hb5.size ?_
            intro v6 w6 hown6 hg6 _
            obtain ⟨A6, c6, rfl⟩ := own_shape hown6
            have hb6 : Below wq.heap.size wq w6 := hb5.grown hg6 hb5.size (fun g hg => (hown3.lt g hg).1)
            have hc6 := own_cap1 hown6
            have hc6i : (m : Int) ≤ (c6 : Int) := by omega
            have hc6n : m ≤ c6 := by omega
            refine hK.out _ _ ((hb6.cell (p := ⟨wr.heap.size, 2, none⟩) hqlt).trans hx2) (fun hHeld => ?_)
            clear hK K
            try simp only [Act.put, List.setIfInBounds_toArray]
            (refine heldF_take (i := 10) rfl rfl (by kernel_rfl) (by kernel_rfl) (by kernel_rfl) (by kernel_rfl) rfl (by kernel_rfl) (fun _ _ _ h => h) (by rfl) (by intro w hSw; (try dsimp only at hSw); go_simp; first | done | with_reducible rfl) (by assumption) ?_; try simp only [Act.put])
            (refine heldF_take (i := 11) rfl rfl (by kernel_rfl) (by kernel_rfl) (by kernel_rfl) (by kernel_rfl) rfl (by kernel_rfl) (fun _ _ _ h => h) (by rfl) (by intro w hSw; (try dsimp only at hSw); go_simp; first | done | with_reducible rfl) (by assumption) ?_; try simp only [Act.put])
            have hr6 : RowAt w6 wr.heap.size 42 [.int .i64 P, .string s, .slice xA m xc] := HRQ.out.keep (hb6.block _ hqlt)
            have y6 := hr6.cell (k := 2) (by simp)
            simp only [List.getElem?_cons_zero, List.getElem?_cons_succ] at y6
            have f6 := hr6.frozen 2
            refine wpAnyF_ready (rs := [12]) (by kernel_rfl) (by simp) ?_
            refine AllReadyF.last rfl (fun K hK => ?_)
            go_simp
            refine hK.out _ _ ?_
            clear hK K
            try simp only [Act.put, List.setIfInBounds_toArray, List.set_cons_zero, List.set_cons_succ]
            refine wpAnyF_done (by kernel_rfl) ?_ _
            refine NoPanic.normal ?_
            have hst := hr6.store 2 (.slice A6 m c6)
            have ho7 : (w6.setCell ⟨wr.heap.size, 2, none⟩ (.slice A6 m c6)).ownsRow wr.heap.size 54 2 (.slice A6 (m + 1) c6) (m + 1) (prCells ps ++ mkP) := own_base (own_keep hown6 fun g hg _ => Below.heap_setCell _ _ _ _ (by have := (hown6.lt g hg).1; show g ≠ wr.heap.size; omega)) (Nat.le_of_lt hqlt)
            have hb7 : Below wr.heap.size wr (w6.setCell ⟨wr.heap.size, 2, none⟩ (.slice A6 m c6)) := (below_next HBQ.out hb6).setCell (Nat.le_refl _) _
            have R7 := Lib.hid hst
            have O7 := Lib.hid ho7
            have B7 := Lib.hid hb7
            clear hst ho7 hb7 hown6 hg6 hown3 hown3' hg3 hr6 y6 f6 hmk hHeld
            go_wp2_with fail
            go_meet
            exact ⟨rfl, A6, c6, R7.out, O7.out, B7.out⟩
          · refine AllReadyF.cons rfl (fun K hK => ?_) AllReadyF.nil
            go_simp
            have hb5 : Below wq.heap.size wq ((wq.drew.alloc (.cells #[] 54)).alloc (.cells #[.string ⟨#[33]⟩, .string ⟨#[]⟩] 54)) := hb1.alloc hb1.size _
            refine hK.out _ _ ((hb5.cell (p := ⟨wr.heap.size, 2, none⟩) hqlt).trans hx2) (fun hHeld => ?_)
            clear hK K
            try simp only [Act.put, List.setIfInBounds_toArray, List.set_cons_zero, List.set_cons_succ]
            have hmk0 : RowAt ((wq.drew.alloc (.cells #[] 54)).alloc (.cells #[.string ⟨#[33]⟩, .string ⟨#[]⟩] 54)) (wq.heap.size + 1) 54 mkP := by have h := rowAt_box (wq.drew.alloc (.cells #[] 54)) 54 mkP; rw [show (wq.drew.alloc (.cells #[] 54)).heap.size = wq.heap.size + 1 from by simp] at h; exact h
            refine wpAnyF_ready (rs := [3]) (by kernel_rfl) (by simp) ?_
            refine AllReadyF.cons rfl (fun K hK => ?_) AllReadyF.nil
            refine step_append_seg rfl (.tmp 16) (.tmp 18) 40 rfl wq.heap.size 54 i0 _ 2 32 Try.underlying40 fi fz0 fz1 fz2 rfl (by decide) (.slice (some ⟨wq.heap.size, 0, none⟩) 0 0) 0 [] rfl ((own_empty wq.drew wq.heap.size 54 2 wq.heap.size rfl (Nat.le_refl _)).alloc (.cells #[.string ⟨#[33]⟩, .string ⟨#[]⟩] 54)) wq.heap.size xA m xc (prCells ps) rfl (by rw [prCells_len, HM.out]) (HSQ.out.below hb5) (one_pr ps) (by unfold maxLen; omega) (by omega) hb5.size ?_
            intro v3 w3 hown3' hg3 _
            have hown3 : w3.ownsRow wq.heap.size 54 2 v3 m (prCells ps) := by simpa using hown3'
            obtain ⟨A3, c3, rfl⟩ := own_shape hown3
            have hb3 : Below wq.heap.size wq w3 := hb5.grown hg3 hb5.size (fun g hg => (((own_empty wq.drew wq.heap.size 54 2 wq.heap.size rfl (Nat.le_refl _)).alloc (.cells #[.string ⟨#[33]⟩, .string ⟨#[]⟩] 54)).lt g hg).1)
            have hmk : RowAt w3 (wq.heap.size + 1) 54 mkP := RowAt.keep hmk0 (hg3.block _ (by simp) (by simp [Value.ownBlock]))
            refine hK.out _ _ ((hb3.cell (p := ⟨wr.heap.size, 2, none⟩) hqlt).trans hx2) (fun hHeld => ?_)
            clear hK K
            try simp only [Act.put, List.setIfInBounds_toArray]
            refine wpAnyF_ready (rs := [6]) (by kernel_rfl) (by simp) ?_
            refine AllReadyF.cons rfl (fun K hK => ?_) AllReadyF.nil
            refine step_append_seg rfl (.tmp 19) (.tmp 21) 40 rfl wq.heap.size 54 i0 _ 2 32 Try.underlying40 fi fz0 fz1 fz2 rfl (by decide) (.slice A3 m c3) m (prCells ps) rfl (hown3) ((w3).heap.size) (some ⟨wq.heap.size + 1, 0, none⟩) 1 1 mkP rfl rfl (hmk.seg hmk.lt) (by intro u hu; simp [mkP] at hu; rcases hu with rfl | rfl <;> rfl) (by unfold maxLen; omega) (by omega) hb3.size ?_
            intro v6 w6 hown6 hg6 _
            obtain ⟨A6, c6, rfl⟩ := own_shape hown6
            have hb6 : Below wq.heap.size wq w6 := hb3.grown hg6 hb3.size (fun g hg => ((hown3).lt g hg).1)
            have hc6 := own_cap1 hown6
            have hc6i : (m : Int) ≤ (c6 : Int) := by omega
            have hc6n : m ≤ c6 := by omega
            refine hK.out _ _ ((hb6.cell (p := ⟨wr.heap.size, 2, none⟩) hqlt).trans hx2) (fun hHeld => ?_)
            clear hK K
            try simp only [Act.put]
            (refine heldF_take (i := 10) rfl rfl (by kernel_rfl) (by kernel_rfl) (by kernel_rfl) (by kernel_rfl) rfl (by kernel_rfl) (fun _ _ _ h => h) (by rfl) (by intro w hSw; (try dsimp only at hSw); go_simp; first | done | with_reducible rfl) (by assumption) ?_; try simp only [Act.put])
            (refine heldF_take (i := 11) rfl rfl (by kernel_rfl) (by kernel_rfl) (by kernel_rfl) (by kernel_rfl) rfl (by kernel_rfl) (fun _ _ _ h => h) (by rfl) (by intro w hSw; (try dsimp only at hSw); go_simp; first | done | with_reducible rfl) (by assumption) ?_; try simp only [Act.put])
            have hr6 : RowAt w6 wr.heap.size 42 [.int .i64 P, .string s, .slice xA m xc] := HRQ.out.keep (hb6.block _ hqlt)
            have y6 := hr6.cell (k := 2) (by simp)
            simp only [List.getElem?_cons_zero, List.getElem?_cons_succ] at y6
            have f6 := hr6.frozen 2
            refine wpAnyF_ready (rs := [12]) (by kernel_rfl) (by simp) ?_
            refine AllReadyF.last rfl (fun K hK => ?_)
            go_simp
            refine hK.out _ _ ?_
            clear hK K
            try simp only [Act.put, List.setIfInBounds_toArray, List.set_cons_zero, List.set_cons_succ]
            refine wpAnyF_done (by kernel_rfl) ?_ _
            refine NoPanic.normal ?_
            have hst := hr6.store 2 (.slice A6 m c6)
            have ho7 : (w6.setCell ⟨wr.heap.size, 2, none⟩ (.slice A6 m c6)).ownsRow wr.heap.size 54 2 (.slice A6 (m + 1) c6) (m + 1) (prCells ps ++ mkP) := own_base (own_keep hown6 fun g hg _ => Below.heap_setCell _ _ _ _ (by have := (hown6.lt g hg).1; show g ≠ wr.heap.size; omega)) (Nat.le_of_lt hqlt)
            have hb7 : Below wr.heap.size wr (w6.setCell ⟨wr.heap.size, 2, none⟩ (.slice A6 m c6)) := (below_next HBQ.out hb6).setCell (Nat.le_refl _) _
            have R7 := Lib.hid hst
            have O7 := Lib.hid ho7
            have B7 := Lib.hid hb7
            clear hst ho7 hb7 hown6 hg6 hown3 hown3' hg3 hr6 y6 f6 hmk hHeld
            go_wp2_with fail
            go_meet
            exact ⟨rfl, A6, c6, R7.out, O7.out, B7.out⟩
        · refine AllReadyF.cons rfl (fun K hK => ?_) AllReadyF.nil
          go_simp
          have hb5 : Below wq.heap.size wq ((wq.drew).alloc (.cells #[.string ⟨#[33]⟩, .string ⟨#[]⟩] 54)) := hb0.alloc hb0.size _
          refine hK.out _ _ ((hb5.cell (p := ⟨wr.heap.size, 2, none⟩) hqlt).trans hx2) (fun hHeld => ?_)
          clear hK K
          try simp only [Act.put, List.setIfInBounds_toArray, List.set_cons_zero, List.set_cons_succ]
          have hmk0 : RowAt (wq.drew.alloc (.cells #[.string ⟨#[33]⟩, .string ⟨#[]⟩] 54)) wq.heap.size 54 mkP := rowAt_box wq.drew 54 mkP
          refine wpAnyF_ready (rs := [0]) (by kernel_rfl) (by simp) ?_
          refine AllReadyF.cons rfl (fun K hK => ?_) AllReadyF.nil
          go_simp
          have hb1 : Below wq.heap.size wq ((wq.drew.alloc (.cells #[.string ⟨#[33]⟩, .string ⟨#[]⟩] 54)).alloc (.cells #[] 54)) := hb5.alloc hb5.size _
          refine hK.out _ _ ((hb1.cell (p := ⟨wr.heap.size, 2, none⟩) hqlt).trans hx2) (fun hHeld => ?_)
          clear hK K
          try simp only [Act.put, List.setIfInBounds_toArray, List.set_cons_zero, List.set_cons_succ]
          refine wpAnyF_ready (rs := [3]) (by kernel_rfl) (by simp) ?_
          refine AllReadyF.cons rfl (fun K hK => ?_) AllReadyF.nil
          refine step_append_seg rfl (.tmp 16) (.tmp 18) 40 rfl wq.heap.size 54 i0 _ 2 32 Try.underlying40 fi fz0 fz1 fz2 rfl (by decide) (.slice (some ⟨wq.heap.size + 1, 0, none⟩) 0 0) 0 [] rfl (own_empty (wq.drew.alloc (.cells #[.string ⟨#[33]⟩, .string ⟨#[]⟩] 54)) wq.heap.size 54 2 (wq.heap.size + 1) (by simp) (by simp)) wq.heap.size xA m xc (prCells ps) rfl (by rw [prCells_len, HM.out]) (HSQ.out.below hb1) (one_pr ps) (by unfold maxLen; omega) (by omega) hb1.size ?_
          intro v3 w3 hown3' hg3 _
          have hown3 : w3.ownsRow wq.heap.size 54 2 v3 m (prCells ps) := by simpa using hown3'
          obtain ⟨A3, c3, rfl⟩ := own_shape hown3
          have hb3 : Below wq.heap.size wq w3 := hb1.grown hg3 hb1.size (fun g hg => ((own_empty (wq.drew.alloc (.cells #[.string ⟨#[33]⟩, .string ⟨#[]⟩] 54)) wq.heap.size 54 2 (wq.heap.size + 1) (by simp) (by simp)).lt g hg).1)
          have hmk : RowAt w3 wq.heap.size 54 mkP := RowAt.keep hmk0 ((hg3.block _ (by simp; omega) (by simp [Value.ownBlock])).trans (Below.heap_alloc _ _ _ (by simp)))
          refine hK.out _ _ ((hb3.cell (p := ⟨wr.heap.size, 2, none⟩) hqlt).trans hx2) (fun hHeld => ?_)
          clear hK K
          try simp only [Act.put, List.setIfInBounds_toArray]
          refine wpAnyF_ready (rs := [6]) (by kernel_rfl) (by simp) ?_
          refine AllReadyF.cons rfl (fun K hK => ?_) AllReadyF.nil
          refine step_append_seg rfl (.tmp 19) (.tmp 21) 40 rfl wq.heap.size 54 i0 _ 2 32 Try.underlying40 fi fz0 fz1 fz2 rfl (by decide) (.slice A3 m c3) m (prCells ps) rfl (hown3) ((w3).heap.size) (some ⟨wq.heap.size, 0, none⟩) 1 1 mkP rfl rfl (hmk.seg hmk.lt) (by intro u hu; simp [mkP] at hu; rcases hu with rfl | rfl <;> rfl) (by unfold maxLen; omega) (by omega) hb3.size ?_
          intro v6 w6 hown6 hg6 _
          obtain ⟨A6, c6, rfl⟩ := own_shape hown6
          have hb6 : Below wq.heap.size wq w6 := hb3.grown hg6 hb3.size (fun g hg => ((hown3).lt g hg).1)
          have hc6 := own_cap1 hown6
          have hc6i : (m : Int) ≤ (c6 : Int) := by omega
          have hc6n : m ≤ c6 := by omega
          refine hK.out _ _ ((hb6.cell (p := ⟨wr.heap.size, 2, none⟩) hqlt).trans hx2) (fun hHeld => ?_)
          clear hK K
          try simp only [Act.put]
          (refine heldF_take (i := 10) rfl rfl (by kernel_rfl) (by kernel_rfl) (by kernel_rfl) (by kernel_rfl) rfl (by kernel_rfl) (fun _ _ _ h => h) (by rfl) (by intro w hSw; (try dsimp only at hSw); go_simp; first | done | with_reducible rfl) (by assumption) ?_; try simp only [Act.put])
          (refine heldF_take (i := 11) rfl rfl (by kernel_rfl) (by kernel_rfl) (by kernel_rfl) (by kernel_rfl) rfl (by kernel_rfl) (fun _ _ _ h => h) (by rfl) (by intro w hSw; (try dsimp only at hSw); go_simp; first | done | with_reducible rfl) (by assumption) ?_; try simp only [Act.put])
          have hr6 : RowAt w6 wr.heap.size 42 [.int .i64 P, .string s, .slice xA m xc] := HRQ.out.keep (hb6.block _ hqlt)
          have y6 := hr6.cell (k := 2) (by simp)
          simp only [List.getElem?_cons_zero, List.getElem?_cons_succ] at y6
          have f6 := hr6.frozen 2
          refine wpAnyF_ready (rs := [12]) (by kernel_rfl) (by simp) ?_
          refine AllReadyF.last rfl (fun K hK => ?_)
          go_simp
          refine hK.out _ _ ?_
          clear hK K
          try simp only [Act.put, List.setIfInBounds_toArray, List.set_cons_zero, List.set_cons_succ]
          refine wpAnyF_done (by kernel_rfl) ?_ _
          refine NoPanic.normal ?_
          have hst := hr6.store 2 (.slice A6 m c6)
          have ho7 : (w6.setCell ⟨wr.heap.size, 2, none⟩ (.slice A6 m c6)).ownsRow wr.heap.size 54 2 (.slice A6 (m + 1) c6) (m + 1) (prCells ps ++ mkP) := own_base (own_keep hown6 fun g hg _ => Below.heap_setCell _ _ _ _ (by have := (hown6.lt g hg).1; show g ≠ wr.heap.size; omega)) (Nat.le_of_lt hqlt)
          have hb7 : Below wr.heap.size wr (w6.setCell ⟨wr.heap.size, 2, none⟩ (.slice A6 m c6)) := (below_next HBQ.out hb6).setCell (Nat.le_refl _) _
          have R7 := Lib.hid hst
          have O7 := Lib.hid ho7
          have B7 := Lib.hid hb7
          clear hst ho7 hb7 hown6 hg6 hown3 hown3' hg3 hr6 y6 f6 hmk hHeld
          go_wp2_with fail
          go_meet
          exact ⟨rfl, A6, c6, R7.out, O7.out, B7.out⟩
      case rest =>
        obtain ⟨rfl, Ax, cx, hr7, ho7, hb7⟩ := hcut
        have c0 := hr7.cell (k := 0) (by simp)
        have c1 := hr7.cell (k := 1) (by simp)
        have c2 := hr7.cell (k := 2) (by simp)
        simp only [List.getElem?_cons_zero, List.getElem?_cons_succ] at c0 c1 c2
        have hl7 := HL.out.keep hb7
        have hmk7 : markP wc w.heap.size ⟨⟨P, s, ps⟩, Ax, cx⟩ := by unfold markP; show wc.ownsRow _ 54 2 (.slice Ax (ps.length + 1) cx) (ps.length + 1) _; rw [← HM.out]; exact own_base ho7 hbs
        have HL7 := Lib.hid hl7
        have HMK7 := Lib.hid hmk7
        have HB7 := Lib.hid (HB.out.trans (hb7.mono hbs))
        have hbs7 := HB7.out.size
        clear hr7 ho7 hb7 hl7 hmk7 HRQ HBQ HSQ hqlt
        go_wp2_with (first
          | (at_builtin; refine wpList_push rfl (.tmp 28) (.tmp 30) 22 rfl w.heap.size 42 j0 _ 3 48 Try.underlying22 gi gz0 gz1 gz2 rfl (by decide) (.slice Am k cm) k (nmCells L) rfl HL7.out.row #[.int .i64 P, .string s, .slice Ax m cx] rfl rfl ?_ ?_ ?_ ?_ ?_)
          | fail)
        · exact ⟨rfl, rfl, rfl⟩
        · unfold maxLen; omega
        · omega
        · exact hbs7
        intro A9 c9 w9 hown9 hp9
        have hl9 := HL7.out.push hp9 ⟨⟨P, s, ps⟩, Ax, cx⟩ HMK7.out (by unfold Nm.cells; simp only; rw [← HM.out]; exact hown9)
        have HL9 := Lib.hid hl9
        have HB9 := Lib.hid (HB7.out.trans hp9.low)
        have HD9 := Lib.hid (show dat (L ++ [⟨⟨P, s, ps⟩, Ax, cx⟩]) = (dat l).take (k + 1) by rw [HDK.out, ← HD.out]; simp [dat])
        clear hown9 hp9 hl9
        go_wp2_with fail
        exact ⟨⟨k + 1, A9, c9, L ++ [⟨⟨P, s, ps⟩, Ax, cx⟩], by omega, by go_num, rfl, HD9.out, HL9.out, HB9.out⟩, by simp [intOf]; omega⟩
    · obtain rfl : k = n := by omega
      rw [List.take_of_length_le (by rw [dat_len, HN.out]; exact Nat.le_refl _)] at hd
      have HD2 := Lib.hid hd
      clear hd hl hb HD
      go_wp2_with (first
        | (at_builtin; refine wpList_push rfl (.tmp 32) (.tmp 34) 22 rfl w.heap.size 42 j0 _ 3 48 Try.underlying22 gi gz0 gz1 gz2 rfl (by decide) (.slice Am k cm) k (nmCells L) rfl HL.out.row #[.int .i64 (-9), .string ⟨#[]⟩, .slice none 0 0] rfl rfl ?_ ?_ ?_ ?_ ?_)
        | fail)
      · exact ⟨rfl, rfl, rfl⟩
      · unfold maxLen; omega
      · omega
      · exact hbs
      intro A9 c9 w9 hown9 hp9
      have hcap := own_cap1 hown9
      have hc1 : (k : Int) ≤ (c9 : Int) := by omega
      have hc2 : k ≤ c9 := by omega
      have HL9 := Lib.hid (HL.out.close hp9 hown9)
      have HB9 := Lib.hid (HB.out.trans hp9.low)
      clear hown9 hp9 hcap
      go_wp2_with fail
      go_ret
      exact ⟨A9, c9, L, rfl, HD2.out, HL9.out, HB9.out⟩
end Go.Proofs.Ytndocngkganpdaa
