import Derived.Test.YtbahclnpgdejlaaSet
set_option linter.unusedVariables false
namespace Go.Proofs.Ytbahclnpgdejlaa
open Go.RowKit
/-- What drop does to the holds, and the turns that it tells. -/
def dropF (l : List Clk) : Nat → Int → List Int → List Int × List (Int × Bool)
  | 0, _, hs => (hs, [])
  | f + 1, i, hs => if i < 0 then (hs, []) else
    if 0 < hs.getD i.toNat 0 - 1 then (hs.set i.toNat (hs.getD i.toNat 0 - 1), [])
    else ((dropF l f (frmAt l i) (hs.set i.toNat (hs.getD i.toNat 0 - 1))).1, (i, false) :: (dropF l f (frmAt l i) (hs.set i.toNat (hs.getD i.toNat 0 - 1))).2)
theorem dropF_succ (l : List Clk) (f : Nat) (i : Int) (hs : List Int) : dropF l (f + 1) i hs = if i < 0 then (hs, []) else
    if 0 < hs.getD i.toNat 0 - 1 then (hs.set i.toNat (hs.getD i.toNat 0 - 1), [])
    else ((dropF l f (frmAt l i) (hs.set i.toNat (hs.getD i.toNat 0 - 1))).1, (i, false) :: (dropF l f (frmAt l i) (hs.set i.toNat (hs.getD i.toNat 0 - 1))).2) := rfl
theorem dropF_len (l : List Clk) : ∀ f i hs, (dropF l f i hs).1.length = hs.length
  | 0, _, _ => rfl
  | f + 1, i, hs => by
    unfold dropF
    split
    · rfl
    · split
      · simp
      · simp [dropF_len l f]
theorem dropF_turns (l : List Clk) : ∀ f i hs, (dropF l f i hs).2.length ≤ f
  | 0, _, _ => by simp [dropF]
  | f + 1, i, hs => by
    unfold dropF
    split
    · simp
    · split
      · simp
      · have := dropF_turns l f (frmAt l i) (hs.set i.toNat (hs.getD i.toNat 0 - 1)); simp only [List.length_cons]; omega
theorem turn_len (t : List (Int × Bool)) : (turnCells t).length = t.length * 2 := by
  induction t with
  | nil => rfl
  | cons x t ih => simp only [turnCells, List.flatMap_cons, List.length_append] at *; rw [ih]; simp; omega
theorem turn_one (t : List (Int × Bool)) : ∀ u ∈ turnCells t, u.oneCell' = true := by
  intro u hu
  simp only [turnCells, List.mem_flatMap] at hu
  obtain ⟨x, _, hu⟩ := hu
  simp at hu
  rcases hu with rfl | rfl <;> rfl
theorem own_frame {S : Nat → Prop} {w w' : World} {base : Nat} {e : TypeId} {size n : Nat} {v : Value} {xs : List Value} (h : w.ownsRow base e size v n xs) (hf : Frame S w w') (hs : ∀ g, v.ownBlock = some g → ¬ S g) : w'.ownsRow base e size v n xs := by
  refine ⟨h.1, ?_⟩
  rcases h.2 with h2 | ⟨g, cap, cur, a1, a2, a3, a4⟩
  · exact .inl h2
  · exact .inr ⟨g, cap, cur, a1, a2, (hf.heap (lt_of_heap a3) (hs g (by rw [a1]; rfl))).trans a3, a4⟩
set_option maxRecDepth 100000 in
set_option maxHeartbeats 2000000 in
theorem drop_any (B nb n gh : Nat) (Ac Ar Au : Option Addr) (cc cr cu ch : Nat) (hn : 0 < n) (hn5 : n ≤ 512) (f : Nat) : ∀ (i : Int) (w : World) (s : St), NetAt w B nb n Ac Ar Au (some ⟨gh, 0, none⟩) cc cr cu ch s → Good s.l →
    (∀ j : Nat, (j : Int) ≤ i → -1099511627776 ≤ s.hs.getD j 0 ∧ s.hs.getD j 0 ≤ 1099511627776) → i < n → i < f → -1 ≤ i → f ≤ 513 →
    Calls Try.prog 31 #[.pointer (some ⟨nb, 0, none⟩), .int .i64 i] w fun e w' => ∃ A c, e = .returned (.slice A (dropF s.l f i s.hs).2.length c) ∧ w'.ownsRow w.heap.size 80 2 (.slice A (dropF s.l f i s.hs).2.length c) (dropF s.l f i s.hs).2.length (turnCells (dropF s.l f i s.hs).2) ∧
      NetAt w' B nb n Ac Ar Au (some ⟨gh, 0, none⟩) cc cr cu ch { s with hs := (dropF s.l f i s.hs).1 } ∧ Frame (fun k => k = gh) w w' := by
  induction f with
  | zero =>
    intro i w s h hg hb h1 h2 h3 h4
    have hi : i < 0 := by omega
    go_enter Try.func31, Try.ntmps31
    go_wp2_with fail
    go_ret
    exact ⟨none, 0, rfl, World.ownsRow_nil _ _ _ _, h, Frame.refl _ _⟩
  | succ f ih =>
    intro i w s h hg hb h1 h2 h3 h4
    by_cases hi : i < 0
    · have e : dropF s.l (f + 1) i s.hs = (s.hs, []) := by rw [dropF_succ, if_pos hi]
      rw [e]
      go_enter Try.func31, Try.ntmps31
      go_wp2_with fail
      go_ret
      exact ⟨none, 0, rfl, World.ownsRow_nil _ _ _ _, h, Frame.refl _ _⟩
    · obtain ⟨k, rfl⟩ := Int.eq_ofNat_of_zero_le (show 0 ≤ i by omega)
      have hlen := h.len
      have hlenh := h.lenh
      have hkl : k < s.l.length := by omega
      have hkh : k < s.hs.length := by omega
      obtain ⟨g', e', hBg, hrow⟩ := h.row_h hn
      obtain rfl : gh = g' := by injection e' with e'; injection e'
      have c3 := h.c3
      have hcl := hrow.cell (k := k) (by rw [i64s_len]; omega)
      rw [i64s_get _ _ hkh] at hcl
      have hfz := hrow.frozen k
      have hbk := hb k (by omega)
      have hst := hrow.store k (.int .i64 (s.hs.getD k 0 - 1))
      rw [i64s_set] at hst
      have hfr := (Frame.refl (fun k => k = gh) w).setCell (p := ⟨gh, k, none⟩) (fun _ => rfl) (.int .i64 (s.hs.getD k 0 - 1))
      have hnet := net_hold h hn hfr hst (by simp; omega)
      obtain ⟨ne1, ne2⟩ := net_ne h hn
      have ne1' := ne1.symm
      have hki : (k : Int) < (n : Int) := by omega
      obtain ⟨z, hzz⟩ : ∃ z, z = s.hs.getD k 0 := ⟨_, rfl⟩
      have HE : Hid (z = s.hs.getD k 0) := Lib.hid hzz
      by_cases hz : 0 < s.hs.getD k 0 - 1
      · have e : dropF s.l (f + 1) k s.hs = (s.hs.set k (s.hs.getD k 0 - 1), []) := by rw [dropF_succ, if_neg (by omega), if_pos (by simpa using hz)]; rfl
        rw [e]
        rw [← hzz] at hcl hbk hz hnet hfr
        have HN := Lib.hid hnet
        have HF := Lib.hid hfr
        obtain ⟨z1, z2⟩ := hbk
        clear hzz hnet hfr hst hb ih hrow hg e e' hlen hlenh ne2
        go_enter Try.func31, Try.ntmps31
        go_wp2_with fail
        go_ret
        exact ⟨none, 0, rfl, World.ownsRow_nil _ _ _ _, by rw [show s.hs[k] = z from by rw [HE.out]; simp [List.getD, hkh]]; exact HN.out, HF.out⟩
      · have e : dropF s.l (f + 1) k s.hs = ((dropF s.l f (frmAt s.l k) (s.hs.set k (s.hs.getD k 0 - 1))).1, ((k : Int), false) :: (dropF s.l f (frmAt s.l k) (s.hs.set k (s.hs.getD k 0 - 1))).2) := by rw [dropF_succ, if_neg (by omega), if_neg (by simpa using hz)]; rfl
        have hF : frmAt s.l k = s.l[k].frm := by simp [frmAt, hkl]
        rw [e]
        have o := hg.at_ hkl
        obtain ⟨b, off, hA, hbb, g0, _⟩ := h.vc.seg.clk hkl
        obtain ⟨gc, hgc, _, hrc⟩ := h.vc (by intro e; have := congrArg List.length e; rw [clkCells, flat_length _ 7 clk_len] at this; simp only [List.length_nil] at this; omega)
        rw [hgc] at hA
        injection hA with hA
        injection hA with hA hA2
        subst hA hA2
        have ne3 := ne2 gc hgc
        have ne3' := ne3.symm
        subst hgc
        rw [← hzz] at hcl hst hnet hfr hz hbk
        rw [Nat.zero_add] at g0
        have c0 := h.c0
        rw [← hF] at g0 o
        have hih := fun (W : World) (hW : NetAt W B nb n (some ⟨gc, 0, none⟩) Ar Au (some ⟨gh, 0, none⟩) cc cr cu ch { s with hs := s.hs.set k (z - 1) }) => ih (frmAt s.l k) W { s with hs := s.hs.set k (z - 1) } hW hg (fun j hj => by
          have hjk : j < k := by rcases o.src with ⟨h, _, _⟩ | ⟨_, h, _⟩ <;> omega
          have := hb j (by omega)
          simpa [List.getD, List.getElem?_set, show k ≠ j by omega] using this) (by rcases o.src with ⟨h, _, _⟩ | ⟨_, h, _⟩ <;> omega) (by rcases o.src with ⟨h, _, _⟩ | ⟨_, h, _⟩ <;> omega) (by rcases o.src with ⟨h, _, _⟩ | ⟨h, _, _⟩ <;> omega) (by omega)
        have HFR := Lib.hid hfr
        obtain ⟨q, hq⟩ : ∃ q, q = frmAt s.l k := ⟨_, rfl⟩
        have HQ := Lib.hid hq
        rw [← hq] at g0
        obtain ⟨z1, z2⟩ := hbk
        have hghl := hrow.lt
        have hnl := h.lt
        obtain ⟨i0, ei, ez0, ez1, ez2⟩ := info_parts Try.info80
        obtain ⟨R, hR⟩ : ∃ R, R = dropF s.l f (frmAt s.l k) (s.hs.set k (z - 1)) := ⟨_, rfl⟩
        have hRl : R.2.length ≤ f := by rw [hR]; exact dropF_turns _ _ _ _
        have hnet1 : NetAt ((w.setCell ⟨gh, k, none⟩ (.int .i64 (z - 1))).alloc (.cells #[.int .i64 (k : Int), .bool false] 80)) B nb n (some ⟨gc, 0, none⟩) Ar Au (some ⟨gh, 0, none⟩) cc cr cu ch { s with hs := s.hs.set k (z - 1) } := hnet.below ((Below.refl _ _).alloc (Nat.le_refl _) _)
        have hcall := hih _ hnet1
        have HI2 : Hid (Calls Try.prog 31 #[.pointer (some ⟨nb, 0, none⟩), .int .i64 q] ((w.setCell ⟨gh, k, none⟩ (.int .i64 (z - 1))).alloc (.cells #[.int .i64 (k : Int), .bool false] 80)) fun e w' => ∃ A c, e = .returned (.slice A R.2.length c) ∧ w'.ownsRow (w.heap.size + 1) 80 2 (.slice A R.2.length c) R.2.length (turnCells R.2) ∧
          NetAt w' B nb n (some ⟨gc, 0, none⟩) Ar Au (some ⟨gh, 0, none⟩) cc cr cu ch { s with hs := R.1 } ∧ Frame (fun k => k = gh) ((w.setCell ⟨gh, k, none⟩ (.int .i64 (z - 1))).alloc (.cells #[.int .i64 (k : Int), .bool false] 80)) w') := by
            rw [HQ.out, hR]
            have := hcall
            rw [show ((w.setCell ⟨gh, k, none⟩ (.int .i64 (z - 1))).alloc (.cells #[.int .i64 (k : Int), .bool false] 80)).heap.size = w.heap.size + 1 from by simp] at this
            exact this
        have hone := World.ownsRow_lit (e := 80) (size := 2) (base := w.heap.size) (w.setCell ⟨gh, k, none⟩ (.int .i64 (z - 1))) #[.int .i64 (k : Int), .bool false] 1 (by simp) (by unfold maxLen; omega) rfl
        rw [show (w.setCell ⟨gh, k, none⟩ (.int .i64 (z - 1))).heap.size = w.heap.size from by simp] at hone
        have HONE := Lib.hid hone
        have hnb : ∀ g, (Value.slice (some ⟨w.heap.size, 0, none⟩) 1 1).ownBlock = some g → ¬ g = gh := by
          intro g hg
          have : w.heap.size = g := by simpa [Value.ownBlock] using hg
          omega
        have HNB := Lib.hid hnb
        clear hnb
        have HRR := Lib.hid hR
        have HRO := Lib.hid hrow
        rw [← hzz, ← hR]
        clear hih hfr hnet hst hb ih hrow hg e' hlen hlenh ne2 o hF hq hrc hnet1 hcall hone hR hzz e hi
        go_enter Try.func31, Try.ntmps31
        go_wp2_with (first
          | (go_at_call 31
             refine HI2.out.mono ?_
             rintro e w2 ⟨A2, c2, rfl, hown2, hnet2, hfr2⟩
             rename_i hK
             refine hK _ _ ?_
             refine wpList_append_seg _ rfl (.tmp 26) (.tmp 36) 41 rfl w.heap.size 80 i0 _ 2 16 Try.underlying41 ei ez0 ez1 ez2 rfl (by decide) _ 1 [.int .i64 k, .bool false] rfl (own_frame HONE.out hfr2 HNB.out) w2.heap.size A2 R.2.length c2 (turnCells R.2) rfl ?_ (own_seg hown2) ?_ ?_ ?_ ?_ ?_))
        · rw [turn_len]
        · exact turn_one _
        · unfold maxLen; omega
        · omega
        · have := hfr2.size; simp at this; omega
        intro v3 w3 hown3 hg3 _
        obtain ⟨A3, c3', rfl⟩ := own_shape hown3
        have hf2 : Frame (fun k => k = gh) w w2 := (HFR.out.alloc (.cells #[.int .i64 (k : Int), .bool false] 80)).next hfr2 (fun i _ hi => hi)
        have hf3 : Frame (fun k => k = gh) w w3 := hf2.grown hg3 (fun g hg hlt => by simp [Value.ownBlock] at hg; omega)
        obtain ⟨g4, e4, _, hr2⟩ := hnet2.row_h hn
        obtain rfl : gh = g4 := by injection e4 with e4; injection e4
        have hr3 : RowAt w3 gh 3 (i64s R.1) := hr2.keep (hg3.block gh hr2.lt (fun e => by simp [Value.ownBlock] at e; omega))
        have hnet3 := net_hold h hn hf3 hr3 (by have := hnet2.lenh; simpa using this)
        have ht : Value.int .i64 (k : Int) :: Value.bool false :: turnCells R.2 = turnCells (((k : Int), false) :: R.2) := rfl
        rw [ht, show 1 + R.2.length = (((k : Int), false) :: R.2).length from by simp; omega] at hown3
        have H3 := Lib.hid hown3
        have HN3 := Lib.hid hnet3
        have HF3 := Lib.hid hf3
        clear hown3 hnet3 hf3 hf2 hr3 hr2 hnet2 hown2 hg3 hfr2 ht e4
        go_wp2
        go_ret
        refine ⟨A3, c3', ?_, H3.out, HN3.out, HF3.out⟩
        simp; omega
end Go.Proofs.Ytbahclnpgdejlaa
