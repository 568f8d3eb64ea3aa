/- The program's twin: the contract. -/
import Derived.Test.YtmdnbajbfnhecaaGreatDoorRTwin
import Derived.Test.YtmdnbajbfnhecaaGreatDoorCkLaw
set_option linter.unusedVariables false
namespace Go.Proofs.YtmdnbajbfnhecaaGreatDoor
open Go.RowKit
set_option maxRecDepth 100000 in
theorem clone_any (A : Option Addr) (cap n : Nat) (ps : List Pr) (hn : n = ps.length) (hl : n * 32 ≤ 140737488355328) (w : World) (B : Nat) (hB : B ≤ w.heap.size) (hs : Seg w B A (prCells ps)) :
    Calls Tryz.prog 28 #[.slice A n cap] w fun e w' => ∃ A' c', e = .returned (.slice A' n c') ∧ w'.ownsRow w.heap.size 57 2 (.slice A' n c') n (prCells ps) ∧ Below w.heap.size w w' := by
  obtain ⟨j0, gi, gz0, gz1, gz2⟩ := info_parts Tryz.info57
  have HN := Lib.hid hn
  clear hn
  rcases A with _ | ad
  · have h0 : prCells ps = [] := hs.none_nil
    have hn0 : n = 0 := by
      have := prCells_len ps
      rw [h0] at this
      rw [HN.out]
      simp at this
      omega
    subst hn0
    have hnil := fun w => Lib.run_eql_slice_nil (P := Tryz.prog) w 48 57 none 0 cap 0 0 Tryz.underlying48
    clear HN hs
    go_enter Tryz.func28, Tryz.ntmps28
    go_wp2
    go_ret
    exact ⟨none, 0, rfl, by rw [h0]; exact World.ownsRow_nil _ _ _ _, Below.refl _ _⟩
  · have hnil := fun w => Lib.run_eql_slice_nil (P := Tryz.prog) w 48 57 (some ad) n cap 0 0 Tryz.underlying48
    have hs0 := hs.alloc hB (.cells #[] 57)
    have hb0 := (Below.refl w.heap.size w).alloc (Nat.le_refl _) (.cells #[] 57)
    have Hl := Lib.hid (prCells_len ps)
    have HS := Lib.hid hs0
    have HB0 := Lib.hid hb0
    clear hs hs0 hb0
    go_enter Tryz.func28, Tryz.ntmps28
    go_wp2_with (first
      | (at_builtin; refine wpList_append_seg _ rfl (.tmp 5) (.tmp 6) 48 rfl w.heap.size 57 j0 _ 2 32 Tryz.underlying48 gi gz0 gz1 gz2 rfl (by decide) _ 0 [] rfl (own_empty _ _ _ _ _ rfl (Nat.le_refl _)) B (some ad) n cap (prCells ps) rfl ?c1 HS.out (one_pr ps) ?c3 ?c4 ?c5 ?_))
    case c1 => rw [HN.out]; exact Hl.out
    case c3 => unfold maxLen; omega
    case c4 => omega
    case c5 => simp
    intro v1 w1 hown1 hg1 hnil1
    have hb1 : Below w.heap.size w w1 := HB0.out.grown hg1 (by simp) (by simp [Value.ownBlock])
    obtain ⟨A1, c1, rfl⟩ := own_shape hown1
    have HO := Lib.hid hown1
    have HB1 := Lib.hid hb1
    clear hown1 hg1 hnil1 hb1
    go_wp2
    go_ret
    have := HO.out
    first
      | exact ⟨A1, c1, by simp, by simpa using this, HB1.out⟩
      | exact ⟨A1, c1, rfl, by simpa using this, HB1.out⟩
theorem make_nodes (n : Nat) (hl : n * 48 ≤ 140737488355328) (w : World) : (Instr.makeSlice 22 (.int .i64 0) (.int .i64 (n : Int))).run Tryz.prog w =
    .ok (.slice (some ⟨w.heap.size, 0, none⟩) 0 n) (w.alloc (.cells (madeCells (Value.agg #[.int .i64 0, .string ByteArray.empty, .slice none 0 0]).cells (n * 3)) 50)) := by
  obtain ⟨i0, hi, hz0, hz1, hz2⟩ := info_parts Tryz.info50
  have := run_make (P := Tryz.prog) w 22 50 i0 (.agg #[.int .i64 0, .string ByteArray.empty, .slice none 0 0]) Tryz.underlying22 hi hz0 .i64 .i64 0 n (by omega) (by omega) (by rw [hz2]; omega) (by omega)
  simp only [Int.toNat_natCast, hz1] at this
  exact this
theorem own_made3 {wr : World} {base : Nat} {q : Nat} (hb : base ≤ wr.heap.size) (hq : q ≤ maxLen) : (wr.alloc (.cells (madeCells (Value.agg #[.int .i64 0, .string ByteArray.empty, .slice none 0 0]).cells (q * 3)) 50)).ownsRow base 50 3 (.slice (some ⟨wr.heap.size, 0, none⟩) 0 q) 0 [] := by
  refine ⟨rfl, .inr ⟨wr.heap.size, q, _, rfl, hb, heap_alloc_new wr _, Nat.zero_le _, hq, ?_, by simp⟩⟩
  simp [madeCells]
/-- twin's first part: the props are cloned, the copy gets them. -/
theorem ptwin_mem {wr w3 : World} {P : Int} {s : ByteArray} {xA A3 : Option Addr} {m xc c3 : Nat} {ps : List Pr} (h : w3.ownsRow (wr.heap.size + 1) 57 2 (.slice A3 m c3) m (prCells ps))
    (hg : Below (wr.heap.size + 1) (wr.alloc (.cells #[.int .i64 P, .string s, .slice xA m xc] 50)) w3) :
    (w3.cell? ⟨wr.heap.size, 2, none⟩ = some (.slice xA m xc) ∧ w3.frozen? ⟨wr.heap.size, 2, none⟩ = false) ∧
    ((w3.setCell ⟨wr.heap.size, 2, none⟩ (.slice A3 m c3)).cell? ⟨wr.heap.size, 0, none⟩ = some (.int .i64 P) ∧ (w3.setCell ⟨wr.heap.size, 2, none⟩ (.slice A3 m c3)).cell? ⟨wr.heap.size, 1, none⟩ = some (.string s) ∧
      (w3.setCell ⟨wr.heap.size, 2, none⟩ (.slice A3 m c3)).cell? ⟨wr.heap.size, 2, none⟩ = some (.slice A3 m c3)) ∧
    Below wr.heap.size wr (w3.setCell ⟨wr.heap.size, 2, none⟩ (.slice A3 m c3)) ∧ (w3.setCell ⟨wr.heap.size, 2, none⟩ (.slice A3 m c3)).ownsRow (wr.heap.size + 1) 57 2 (.slice A3 m c3) m (prCells ps) := by
  have h0 : RowAt w3 wr.heap.size 50 [.int .i64 P, .string s, .slice xA m xc] := by
    refine RowAt.keep (w := wr.alloc (.cells #[.int .i64 P, .string s, .slice xA m xc] 50)) ⟨_, heap_alloc_new _ _, rfl⟩ (hg.block _ (by omega))
  have h1 := h0.store 2 (.slice A3 m c3)
  refine ⟨⟨h0.cell (k := 2) (by simp), h0.frozen 2⟩, ⟨h1.cell (k := 0) (by simp), h1.cell (k := 1) (by simp), h1.cell (k := 2) (by simp)⟩, ?_, ?_⟩
  · exact (((Below.refl _ wr).alloc (Nat.le_refl _) _).trans (hg.mono (by omega))).setCell (Nat.le_refl _) _
  · exact own_keep h fun g hg hlt => Below.heap_setCell _ _ _ _ (by have := (h.lt g hg).1; show g ≠ wr.heap.size; omega)
set_option maxRecDepth 100000 in
set_option maxHeartbeats 2000000 in
theorem ptwin_any (A : Option Addr) (cap n : Nat) (l : List Nm) (hn : n = l.length) (hsz : Sized l) (w : World) (B : Nat) (hB : B ≤ w.heap.size) (hs : Nodes w B A l) :
    Calls Tryz.prog 43 #[.slice A n cap] w fun e w' => ∃ A' c' l', e = .returned (.slice A' n c') ∧ dat l' = dat l ∧ OwnN w' w.heap.size A' n c' l' ∧ Below w.heap.size w w' := by
  have hnn : n * 48 ≤ 140737488355328 := by have := hsz.n; omega
  have hmk := make_nodes n hnn w
  obtain ⟨i0, fi, fz0, fz1, fz2⟩ := info_parts Tryz.info50
  have HN := Lib.hid hn
  have HS := Lib.hid hs
  have HZ := Lib.hid hsz
  clear hn hs hsz
  go_enter Tryz.func43, Tryz.ntmps43
  go_wp2
  go_loopw [11, 3] (fun iv ov wr => ∃ (k : Nat) (done : List Nm) (Ao : Option Addr) (co : Nat), k ≤ n ∧ iv = .int .i64 k ∧ ov = .slice Ao k co ∧ dat done = (dat l).take k ∧ OwnN wr w.heap.size Ao k co done ∧ Below w.heap.size w wr) (fun iv _ _ => n - (intOf iv).toNat)
  case atStart => exact ⟨0, [], _, _, by omega, rfl, rfl, by simp [dat], ⟨rfl, own_made3 (Nat.le_refl _) (by unfold maxLen; omega), by simp, List.Pairwise.nil⟩, (Below.refl _ _).alloc (Nat.le_refl _) _⟩
  case round =>
    obtain ⟨k, done, Ao, co, hk, rfl, rfl, hd, hown, hb⟩ := hrel
    clear hmk
    have HD := Lib.hid hd
    have HO := Lib.hid hown
    have HB := Lib.hid hb
    by_cases hlt : k < n
    · have hkl : k < l.length := by rw [← HN.out]; exact hlt
      have hki : (k : Int) < (n : Int) := by omega
      obtain ⟨b, off, rfl, hbB, x0, x1, x2, hseg⟩ := (HS.out.below (hb.mono hB)).at_ hkl
      have hpb := HZ.out.props _ (List.getElem_mem hkl)
      obtain ⟨x, hx⟩ : ∃ x, x = l[k] := ⟨_, rfl⟩
      rw [← hx] at x0 x1 x2 hseg hpb
      obtain ⟨⟨P, s, ps⟩, xA, xc⟩ := x
      simp only at x0 x1 x2 hseg hpb
      have HX := Lib.hid hx
      have hcl := clone_any xA xc ps.length ps rfl hpb (wr.alloc (.cells #[.int .i64 P, .string s, .slice xA ps.length xc] 50)) B (by have := hb.size; simp; omega) (hseg.alloc (by have := hb.size; omega) _)
      obtain ⟨m, hm⟩ : ∃ m, m = ps.length := ⟨_, rfl⟩
      rw [← hm] at x2 hpb hcl
      have esz : (wr.alloc (.cells #[.int .i64 P, .string s, .slice xA m xc] 50)).heap.size = wr.heap.size + 1 := by simp
      rw [esz] at hcl
      have HCL := Lib.hid hcl
      have HM := Lib.hid hm
      clear hx hseg hd hown hb hm hcl
      go_wp2_with (first
        | (go_at_call 28; refine HCL.out.mono ?_; rintro e w3 ⟨A3, c3, rfl, hown3, hb3⟩; obtain ⟨⟨q0, q1⟩, ⟨q2, q3, q4⟩, q5, q6⟩ := ptwin_mem hown3 hb3; have H5 := Lib.hid q5; have H6 := Lib.hid q6; clear q5 q6 hown3 hb3
           have h4 : (w3.setCell ⟨wr.heap.size, 2, none⟩ (.slice A3 m c3)).heap.size = w3.heap.size := by simp [World.setCell]
           have hrow4 : (w3.setCell ⟨wr.heap.size, 2, none⟩ (.slice A3 m c3)).ownsRow w.heap.size 50 3 (.slice Ao k co) k (nmCells done) := own_keep HO.out.row fun g _ hlt => H5.out.block g hlt
           have HR4 := Lib.hid hrow4
           clear hrow4)
        | (at_builtin; refine wpList_push rfl (.tmp 19) (.tmp 21) 22 rfl w.heap.size 50 i0 _ 3 48 Tryz.underlying22 fi fz0 fz1 fz2 rfl (by decide) _ k (nmCells done) rfl HR4.out #[.int .i64 P, .string s, .slice A3 m c3] (by rw [h4]; rfl) rfl ?_ ?_ ?_ ?_ ?_))
      · first | exact ⟨rfl, rfl, rfl⟩ | (intro u hu; simp at hu; rcases hu with rfl | rfl | rfl <;> rfl)
      · unfold maxLen; omega
      · omega
      · exact Nat.le_trans HB.out.size H5.out.size
      intro A5 c5 w5 hown5 hp5
      have hm2 := HM.out
      subst hm2
      have ee : nmCells (done ++ [⟨⟨P, s, ps⟩, A3, c3⟩]) = nmCells done ++ [.int .i64 P, .string s, .slice A3 ps.length c3] := by simp [nmCells, Nm.cells]
      have hown5' : w5.ownsRow w.heap.size 50 3 (.slice A5 (k + 1) c5) (k + 1) (nmCells (done ++ [⟨⟨P, s, ps⟩, A3, c3⟩])) := by
        rw [ee]
        simpa using hown5
      have hfin : OwnN w5 w.heap.size A5 (k + 1) c5 (done ++ [⟨⟨P, s, ps⟩, A3, c3⟩]) := HO.out.snoc (B := wr.heap.size + 1) H5.out (by omega) H6.out hown5' hp5 HB.out.size
      have hb5 : Below w.heap.size w w5 := (HB.out.trans (H5.out.mono HB.out.size)).trans hp5.low
      have hd5 : dat (done ++ [⟨⟨P, s, ps⟩, A3, c3⟩]) = (dat l).take (k + 1) := by
        rw [List.take_succ_eq_append_getElem (by rw [dat_len]; exact hkl), ← HD.out, dat_get l hkl, ← HX.out]
        simp [dat]
      have HF := Lib.hid hfin
      have HB5 := Lib.hid hb5
      have HD5 := Lib.hid hd5
      clear hown5 hown5' hp5 hfin hb5 hd5 h4 q0 q1 q2 q3 q4 x0 x1 x2
      go_wp2_with fail
      exact ⟨⟨k + 1, _, A5, c5, by omega, by go_num, rfl, HD5.out, HF.out, HB5.out⟩, by simp [intOf]; omega⟩
    · obtain rfl : k = n := by omega
      go_wp2
      go_ret
      exact ⟨Ao, co, done, rfl, by rw [HD.out, HN.out, List.take_of_length_le (by rw [dat_len]; exact Nat.le_refl _)], HO.out, HB.out⟩
end Go.Proofs.YtmdnbajbfnhecaaGreatDoor
