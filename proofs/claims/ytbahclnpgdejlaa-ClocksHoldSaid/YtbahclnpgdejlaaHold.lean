/- The contract of hold. -/
import Derived.Test.YtbahclnpgdejlaaRead
set_option linter.unusedVariables false
namespace Go.Proofs.Ytbahclnpgdejlaa
open Go.RowKit
/-- A net whose 'holds' alone has changed. -/
theorem net_hold {w w' : World} {B nb n gh : Nat} {Ac Ar Au : Option Addr} {cc cr cu ch : Nat} {s : St} {hs' : List Int} (h : NetAt w B nb n Ac Ar Au (some ⟨gh, 0, none⟩) cc cr cu ch s) (hn : 0 < n)
    (hf : Frame (fun k => k = gh) w w') (hr : RowAt w' gh 3 (i64s hs')) (hl : n = hs'.length) : NetAt w' B nb n Ac Ar Au (some ⟨gh, 0, none⟩) cc cr cu ch { s with hs := hs' } := by
  have hh : RowAt w gh 3 (i64s s.hs) ∧ B ≤ gh := by
    obtain ⟨g, e, hb, hr⟩ := h.vh (by intro e; have := congrArg List.length e; simp [i64s] at this; have := h.lenh; rw [‹s.hs = []›] at this; simp at this; omega)
    injection e with e
    injection e with e
    subst e
    exact ⟨hr, hb⟩
  have hnb : nb ≠ gh := by
    rintro rfl
    obtain ⟨cur, hc, _⟩ := hh.1
    rw [h.box] at hc
    injection hc with hc
    injection hc with _ ht
    exact absurd ht (by decide)
  have keepv : ∀ (A : Option Addr) (e : TypeId) (xs : List Value), (e ≠ 3 ∨ A ≠ some ⟨gh, 0, none⟩) → Vec w B A e xs → Vec w' B A e xs := fun A e xs hne hv hx => by
    obtain ⟨g, ha, hb, hrg⟩ := hv hx
    refine ⟨g, ha, hb, hrg.frame hf ?_⟩
    rintro rfl
    rcases hne with hne | hne
    · exact (hrg.ne_type hh.1 hne) rfl
    · exact hne ha
  exact ⟨h.low, h.len, h.lenr, h.lenu, hl, (hf.heap h.lt hnb).trans h.box, keepv _ _ _ (.inl (by decide)) h.vc, keepv _ _ _ (.inl (by decide)) h.vr, keepv _ _ _ (.inr (h.ne hn)) h.vu, hr.vec hh.2, h.ne⟩
theorem NetAt.row_h {w : World} {B nb n : Nat} {Ac Ar Au Ah : Option Addr} {cc cr cu ch : Nat} {s : St} (h : NetAt w B nb n Ac Ar Au Ah cc cr cu ch s) (hn : 0 < n) : ∃ gh, Ah = some ⟨gh, 0, none⟩ ∧ B ≤ gh ∧ RowAt w gh 3 (i64s s.hs) :=
  h.vh (by intro e; have := congrArg List.length e; simp [i64s] at this; have := h.lenh; rw [‹s.hs = []›] at this; simp at this; omega)
theorem net_ne {w : World} {B nb n gh : Nat} {Ac Ar Au : Option Addr} {cc cr cu ch : Nat} {s : St} (h : NetAt w B nb n Ac Ar Au (some ⟨gh, 0, none⟩) cc cr cu ch s) (hn : 0 < n) :
    nb ≠ gh ∧ ∀ gc, Ac = some ⟨gc, 0, none⟩ → gc ≠ gh := by
  obtain ⟨g, e, hb, hr⟩ := h.row_h hn
  injection e with e
  injection e with e
  subst e
  refine ⟨?_, fun gc e => ?_⟩
  · rintro rfl
    obtain ⟨cur, hc, _⟩ := hr
    rw [h.box] at hc
    injection hc with hc
    injection hc with _ ht
    exact absurd ht (by decide)
  · obtain ⟨g', e', _, hr'⟩ := h.vc (by
      intro e; have := congrArg List.length e; rw [clkCells, flat_length _ 7 clk_len] at this; have := h.len; simp at *; omega)
    rw [e] at e'
    injection e' with e'
    injection e' with e'
    subst e'
    exact hr'.ne_type hr (by decide)
theorem seg_new (w : World) (e : TypeId) (cs : Array Value) : Seg (w.alloc (.cells cs e)) (w.heap.size + 1) (some ⟨w.heap.size, 0, none⟩) cs.toList := fun _ =>
  ⟨w.heap.size, 0, rfl, by omega, fun j u hu => by
    rw [Nat.zero_add, cell_of_row _ _ _ _ _ (0, 0) (heap_alloc_new w _)]
    simpa using hu⟩
theorem i64s_get (l : List Int) (k : Nat) (h : k < l.length) : (i64s l)[k]? = some (.int .i64 (l.getD k 0)) := by simp [i64s, List.getD, h]
theorem i64s_len (l : List Int) : (i64s l).length = l.length := by simp [i64s]
theorem i64s_set (l : List Int) (k : Nat) (z : Int) : (i64s l).set k (.int .i64 z) = i64s (l.set k z) := by simp [i64s, List.map_set]
def turnCells (t : List (Int × Bool)) : List Value := t.flatMap fun x => [.int .i64 x.1, .bool x.2]
def frmAt (l : List Clk) (i : Int) : Int := match l[i.toNat]? with | some c => c.frm | none => -1
/-- What hold does to the holds, and the turns that it tells. -/
def holdF (l : List Clk) : Nat → Int → List Int → List Int × List (Int × Bool)
  | 0, _, hs => (hs, [])
  | f + 1, i, hs => if i < 0 then (hs, []) else
    if hs.getD i.toNat 0 = 0 then ((holdF l f (frmAt l i) (hs.set i.toNat 1)).1, (holdF l f (frmAt l i) (hs.set i.toNat 1)).2 ++ [(i, true)])
    else (hs.set i.toNat (hs.getD i.toNat 0 + 1), [])
theorem holdF_succ (l : List Clk) (f : Nat) (i : Int) (hs : List Int) : holdF l (f + 1) i hs = if i < 0 then (hs, []) else
    if hs.getD i.toNat 0 = 0 then ((holdF l f (frmAt l i) (hs.set i.toNat 1)).1, (holdF l f (frmAt l i) (hs.set i.toNat 1)).2 ++ [(i, true)])
    else (hs.set i.toNat (hs.getD i.toNat 0 + 1), []) := rfl
theorem Try.info80 : (Try.prog.info? 80).map (fun i => (i.zero, i.size, i.bytes)) = some (some (.agg #[.int .i64 0, .bool false]), 2, 16) := by kernel_rfl
theorem holdF_len (l : List Clk) : ∀ f i hs, (holdF l f i hs).1.length = hs.length
  | 0, _, _ => rfl
  | f + 1, i, hs => by
    unfold holdF
    split
    · rfl
    · split
      · simp [holdF_len l f]
      · simp
theorem holdF_turns (l : List Clk) : ∀ f i hs, (holdF l f i hs).2.length ≤ f
  | 0, _, _ => by simp [holdF]
  | f + 1, i, hs => by
    unfold holdF
    split
    · simp
    · split
      · have := holdF_turns l f (frmAt l i) (hs.set i.toNat 1); simp; omega
      · simp
set_option maxRecDepth 100000 in
set_option maxHeartbeats 2000000 in
theorem hold_any (B nb n gh : Nat) (Ac Ar Au : Option Addr) (cc cr cu ch : Nat) (hn : 0 < n) (hn5 : n ≤ 512) (f : Nat) : ∀ (i : Int) (w : World) (s : St), NetAt w B nb n Ac Ar Au (some ⟨gh, 0, none⟩) cc cr cu ch s → Good s.l →
    (∀ j : Nat, (j : Int) ≤ i → 0 ≤ s.hs.getD j 0 ∧ s.hs.getD j 0 ≤ 1099511627776) → i < n → i < f → -1 ≤ i → f ≤ 513 →
    Calls Try.prog 30 #[.pointer (some ⟨nb, 0, none⟩), .int .i64 i] w fun e w' => ∃ A c, e = .returned (.slice A (holdF s.l f i s.hs).2.length c) ∧ w'.ownsRow w.heap.size 80 2 (.slice A (holdF s.l f i s.hs).2.length c) (holdF s.l f i s.hs).2.length (turnCells (holdF s.l f i s.hs).2) ∧
      NetAt w' B nb n Ac Ar Au (some ⟨gh, 0, none⟩) cc cr cu ch { s with hs := (holdF s.l f i s.hs).1 } ∧ Frame (fun k => k = gh) w w' := by
  induction f with
  | zero =>
    intro i w s h hg hb h1 h2 h3 h4
    have hi : i < 0 := by omega
    go_enter Try.func30, Try.ntmps30
    go_wp2_with fail
    go_ret
    exact ⟨none, 0, rfl, World.ownsRow_nil _ _ _ _, h, Frame.refl _ _⟩
  | succ f ih =>
    intro i w s h hg hb h1 h2 h3 h4
    by_cases hi : i < 0
    · have e : holdF s.l (f + 1) i s.hs = (s.hs, []) := by rw [holdF_succ, if_pos hi]
      rw [e]
      go_enter Try.func30, Try.ntmps30
      go_wp2_with fail
      go_ret
      exact ⟨none, 0, rfl, World.ownsRow_nil _ _ _ _, h, Frame.refl _ _⟩
    · obtain ⟨k, rfl⟩ := Int.eq_ofNat_of_zero_le (show 0 ≤ i by omega)
      have hlen := h.len
      have hlenh := h.lenh
      have hkl : k < s.l.length := by omega
      have hkh : k < s.hs.length := by omega
      obtain ⟨g', e', hBg, hrow⟩ := h.row_h hn
      obtain rfl : gh = g' := by injection e' with e'; injection e'
      have c3 := h.c3
      have hcl := hrow.cell (k := k) (by rw [i64s_len]; omega)
      rw [i64s_get _ _ hkh] at hcl
      have hfz := hrow.frozen k
      have hbk := hb k (by omega)
      have hst := hrow.store k (.int .i64 (s.hs.getD k 0 + 1))
      rw [i64s_set] at hst
      have hfr := (Frame.refl (fun k => k = gh) w).setCell (p := ⟨gh, k, none⟩) (fun _ => rfl) (.int .i64 (s.hs.getD k 0 + 1))
      have hnet := net_hold h hn hfr hst (by simp; omega)
      obtain ⟨ne1, ne2⟩ := net_ne h hn
      have ne1' := ne1.symm
      have hki : (k : Int) < (n : Int) := by omega
      by_cases hz : s.hs.getD k 0 = 0
      · have e : holdF s.l (f + 1) k s.hs = ((holdF s.l f (frmAt s.l k) (s.hs.set k 1)).1, (holdF s.l f (frmAt s.l k) (s.hs.set k 1)).2 ++ [((k : Int), true)]) := by rw [holdF_succ, if_neg (by omega), if_pos (by simpa using hz)]; rfl
        have hF : frmAt s.l k = s.l[k].frm := by simp [frmAt, hkl]
        rw [e]
        have o := hg.at_ hkl
        obtain ⟨b, off, hA, hbb, g0, _⟩ := h.vc.seg.clk hkl
        obtain ⟨gc, hgc, _, hrc⟩ := h.vc (by intro e; have := congrArg List.length e; rw [clkCells, flat_length _ 7 clk_len] at this; simp only [List.length_nil] at this; omega)
        rw [hgc] at hA
        injection hA with hA
        injection hA with hA hA2
        subst hA hA2
        have ne3 := ne2 gc hgc
        have ne3' := ne3.symm
        subst hgc
        rw [hz] at hcl hst hnet hfr
        rw [Int.zero_add] at hst hnet hfr
        rw [Nat.zero_add] at g0
        have c0 := h.c0
        rw [← hF] at g0 o
        have hih := ih (frmAt s.l k) _ { s with hs := s.hs.set k 1 } hnet hg (fun j hj => by
          have hjk : j < k := by rcases o.src with ⟨h, _, _⟩ | ⟨_, h, _⟩ <;> omega
          have := hb j (by omega)
          simpa [List.getD, List.getElem?_set, show k ≠ j by omega] using this) (by rcases o.src with ⟨h, _, _⟩ | ⟨_, h, _⟩ <;> omega) (by rcases o.src with ⟨h, _, _⟩ | ⟨_, h, _⟩ <;> omega) (by rcases o.src with ⟨h, _, _⟩ | ⟨h, _, _⟩ <;> omega) (by omega)
        have HI := Lib.hid hih
        have HFR := Lib.hid hfr
        obtain ⟨q, hq⟩ : ∃ q, q = frmAt s.l k := ⟨_, rfl⟩
        have HQ := Lib.hid hq
        rw [← hq] at g0
        clear hih hfr hnet hst hb ih hrow hg e' hlen hlenh ne2 o hbk hF hq hrc
        obtain ⟨i0, ei, ez0, ez1, ez2⟩ := info_parts Try.info80
        have hsz : (w.setCell ⟨gh, k, none⟩ (.int .i64 1)).heap.size = w.heap.size := by simp
        clear e hz hi
        obtain ⟨R, hR⟩ : ∃ R, R = holdF s.l f (frmAt s.l k) (s.hs.set k 1) := ⟨_, rfl⟩
        have hRl : R.2.length ≤ f := by rw [hR]; exact holdF_turns _ _ _ _
        have HI2 : Hid (Calls Try.prog 30 #[.pointer (some ⟨nb, 0, none⟩), .int .i64 q] (w.setCell ⟨gh, k, none⟩ (.int .i64 1)) fun e w' => ∃ A c, e = .returned (.slice A R.2.length c) ∧ w'.ownsRow w.heap.size 80 2 (.slice A R.2.length c) R.2.length (turnCells R.2) ∧
          NetAt w' B nb n (some ⟨gc, 0, none⟩) Ar Au (some ⟨gh, 0, none⟩) cc cr cu ch { s with hs := R.1 } ∧ Frame (fun k => k = gh) (w.setCell ⟨gh, k, none⟩ (.int .i64 1)) w') := by rw [HQ.out, hR]; have := HI.out; rw [hsz] at this; exact this
        have HRR := Lib.hid hR
        rw [← hR]
        clear HI hR
        go_enter Try.func30, Try.ntmps30
        go_wp2_with (first
          | (go_at_call 30; refine HI2.out.mono ?_; rintro e w2 ⟨A2, c2, rfl, hown2, hnet2, hfr2⟩)
          | (at_builtin; refine wpList_append_seg _ rfl (.tmp 34) (.tmp 37) 41 rfl w.heap.size 80 i0 _ 2 16 Try.underlying41 ei ez0 ez1 ez2 rfl (by decide) _ R.2.length (turnCells R.2) rfl (hown2.alloc _) (w2.heap.size + 1) (some ⟨w2.heap.size, 0, none⟩) 1 1 [.int .i64 k, .bool true] rfl rfl (seg_new w2 80 #[.int .i64 k, .bool true]) ?_ ?_ ?_ ?_ ?_))
        · intro u hu; simp at hu; rcases hu with rfl | rfl <;> rfl
        · unfold maxLen; omega
        · omega
        · have := hfr2.size; simp; omega
        intro v3 w3 hown3 hg3 _
        obtain ⟨A3, c3', rfl⟩ := own_shape hown3
        have hf3 : Frame (fun k => k = gh) w w3 := by
          have hf2 := HFR.out.next hfr2 (fun i _ hi => hi)
          refine (hf2.alloc (.cells #[.int .i64 (k : Int), .bool true] 80)).grown hg3 (fun g hg hlt => ?_)
          have := (hown2.lt g hg).1
          omega
        obtain ⟨g4, e4, _, hr2⟩ := hnet2.row_h hn
        obtain rfl : gh = g4 := by injection e4 with e4; injection e4
        have hghl := (h.row_h hn)
        obtain ⟨g5, e5, _, hr5⟩ := hghl
        obtain rfl : gh = g5 := by injection e5 with e5; injection e5
        have hr3 : RowAt w3 gh 3 (i64s R.1) := (hr2.alloc (.cells #[.int .i64 (k : Int), .bool true] 80)).keep (hg3.block gh (by have := hr2.lt; simp; omega) (fun e => by have := (hown2.lt gh e.symm).1; have := hr5.lt; omega))
        have hnet3 := net_hold h hn hf3 hr3 (by have := hnet2.lenh; simpa using this)
        have ht : turnCells R.2 ++ [.int .i64 (k : Int), .bool true] = turnCells (R.2 ++ [((k : Int), true)]) := by simp [turnCells]
        rw [ht] at hown3
        have H3 := Lib.hid hown3
        have HN3 := Lib.hid hnet3
        have HF3 := Lib.hid hf3
        clear hown3 hnet3 hf3 hr3 hr2 hr5 hnet2 hown2 hg3 hfr2 ht e4 e5
        go_wp2
        go_ret
        refine ⟨A3, c3', ?_, ?_, HN3.out, HF3.out⟩
        · simp
        · simpa using H3.out
      · have e : holdF s.l (f + 1) k s.hs = (s.hs.set k (s.hs.getD k 0 + 1), []) := by rw [holdF_succ, if_neg (by omega), if_neg (by simpa using hz)]; rfl
        rw [e]
        obtain ⟨z, hzz⟩ : ∃ z, z = s.hs.getD k 0 := ⟨_, rfl⟩
        rw [← hzz] at hcl hbk hz hnet hfr
        have HN := Lib.hid hnet
        have HF := Lib.hid hfr
        have HE : Hid (z = s.hs.getD k 0) := Lib.hid hzz
        obtain ⟨z1, z2⟩ := hbk
        have hz1 : ¬ z + 1 = 1 := by omega
        clear hzz hnet hfr hst hb ih hrow hg e e' hlen hlenh ne2
        go_enter Try.func30, Try.ntmps30
        go_wp2_with fail
        go_ret
        exact ⟨none, 0, rfl, World.ownsRow_nil _ _ _ _, by rw [show s.hs[k] = z from by rw [HE.out]; simp [List.getD, hkh]]; exact HN.out, HF.out⟩
end Go.Proofs.Ytbahclnpgdejlaa
