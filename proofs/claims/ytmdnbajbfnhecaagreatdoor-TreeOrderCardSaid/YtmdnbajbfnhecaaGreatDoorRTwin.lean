/- The document's Twin: the contract. -/
import Derived.Test.YtmdnbajbfnhecaaGreatDoorOwn
set_option linter.unusedVariables false
namespace Go.Proofs.YtmdnbajbfnhecaaGreatDoor
open Go.RowKit
theorem Tryz.info50 : (Tryz.prog.info? 50).map (fun i => (i.zero, i.size, i.bytes)) = some (some (.agg #[.int .i64 0, .string ByteArray.empty, .slice none 0 0]), 3, 48) := by kernel_rfl
theorem Tryz.info57 : (Tryz.prog.info? 57).map (fun i => (i.zero, i.size, i.bytes)) = some (some (.agg #[.string ByteArray.empty, .string ByteArray.empty]), 2, 32) := by kernel_rfl
theorem twin_mem {wr w3 : World} {P : Int} {s : ByteArray} {xA A3 : Option Addr} {m xc c3 : Nat} {ps : List Pr} (h : w3.ownsRow (wr.heap.size + 1) 57 2 (.slice A3 m c3) m (prCells ps))
    (hg : ((wr.alloc (.cells #[.int .i64 P, .string s, .slice xA m xc] 50)).alloc (.cells #[] 57)).grownBy w3 (some (wr.heap.size + 1))) :
    (w3.cell? ⟨wr.heap.size, 2, none⟩ = some (.slice xA m xc) ∧ w3.frozen? ⟨wr.heap.size, 2, none⟩ = false) ∧
    ((w3.setCell ⟨wr.heap.size, 2, none⟩ (.slice A3 m c3)).cell? ⟨wr.heap.size, 0, none⟩ = some (.int .i64 P) ∧ (w3.setCell ⟨wr.heap.size, 2, none⟩ (.slice A3 m c3)).cell? ⟨wr.heap.size, 1, none⟩ = some (.string s) ∧
      (w3.setCell ⟨wr.heap.size, 2, none⟩ (.slice A3 m c3)).cell? ⟨wr.heap.size, 2, none⟩ = some (.slice A3 m c3)) ∧
    Below wr.heap.size wr (w3.setCell ⟨wr.heap.size, 2, none⟩ (.slice A3 m c3)) ∧ (w3.setCell ⟨wr.heap.size, 2, none⟩ (.slice A3 m c3)).ownsRow (wr.heap.size + 1) 57 2 (.slice A3 m c3) m (prCells ps) := by
  have h0 : RowAt w3 wr.heap.size 50 [.int .i64 P, .string s, .slice xA m xc] := by
    refine RowAt.keep (w := (wr.alloc (.cells #[.int .i64 P, .string s, .slice xA m xc] 50)).alloc (.cells #[] 57)) ?_ (hg.block _ (by simp; omega) (by simp))
    refine RowAt.keep (w := wr.alloc (.cells #[.int .i64 P, .string s, .slice xA m xc] 50)) ⟨_, heap_alloc_new _ _, rfl⟩ (Below.heap_alloc _ _ _ (by simp))
  have h1 := h0.store 2 (.slice A3 m c3)
  refine ⟨⟨h0.cell (k := 2) (by simp), h0.frozen 2⟩, ⟨h1.cell (k := 0) (by simp), h1.cell (k := 1) (by simp), h1.cell (k := 2) (by simp)⟩, ?_, ?_⟩
  · exact (((((Below.refl _ wr).alloc (Nat.le_refl _) _).alloc (by simp) _).grown hg (by simp; omega) (fun k hk => by injection hk; omega))).setCell (Nat.le_refl _) _
  · exact own_keep h fun g hg hlt => Below.heap_setCell _ _ _ _ (by have := (h.lt g hg).1; show g ≠ wr.heap.size; omega)
set_option maxRecDepth 100000 in
set_option maxHeartbeats 2000000 in
theorem rtwin_any (A : Option Addr) (cap n : Nat) (l : List Nm) (hn : n = l.length) (hsz : Sized l) (w : World) (B : Nat) (hB : B ≤ w.heap.size) (hs : Nodes w B A l) :
    Calls Tryz.prog 26 #[.slice A n cap] w fun e w' => ∃ A' c' l', e = .returned (.slice A' n c') ∧ dat l' = dat l ∧ OwnN w' w.heap.size A' n c' l' ∧ Below w.heap.size w w' := by
  have hnn : n * 48 ≤ 140737488355328 := by have := hsz.n; omega
  obtain ⟨i0, fi, fz0, fz1, fz2⟩ := info_parts Tryz.info50
  obtain ⟨j0, gi, gz0, gz1, gz2⟩ := info_parts Tryz.info57
  have HN := Lib.hid hn
  have HS := Lib.hid hs
  have HZ := Lib.hid hsz
  clear hn hs hsz
  go_enter Tryz.func26, Tryz.ntmps26
  go_wp2
  go_loopw [4, 3] (fun iv ov wr => ∃ (k : Nat) (done : List Nm) (Ao : Option Addr) (co : Nat), k ≤ n ∧ iv = .int .i64 k ∧ ov = .slice Ao k co ∧ dat done = (dat l).take k ∧ OwnN wr w.heap.size Ao k co done ∧ Below w.heap.size w wr) (fun iv _ _ => n - (intOf iv).toNat)
  case atStart => exact ⟨0, [], none, 0, by omega, rfl, rfl, by simp [dat], own_none _ _, Below.refl _ _⟩
  case round =>
    obtain ⟨k, done, Ao, co, hk, rfl, rfl, hd, hown, hb⟩ := hrel
    have HD := Lib.hid hd
    have HO := Lib.hid hown
    have HB := Lib.hid hb
    by_cases hlt : k < n
    · have hkl : k < l.length := by rw [← HN.out]; exact hlt
      have hki : (k : Int) < (n : Int) := by omega
      obtain ⟨b, off, rfl, hbB, x0, x1, x2, hseg⟩ := (HS.out.below (hb.mono hB)).at_ hkl
      have hpb := HZ.out.props _ (List.getElem_mem hkl)
      obtain ⟨x, hx⟩ : ∃ x, x = l[k] := ⟨_, rfl⟩
      rw [← hx] at x0 x1 x2 hseg hpb
      obtain ⟨⟨P, s, ps⟩, xA, xc⟩ := x
      simp only at x0 x1 x2 hseg hpb
      have HX := Lib.hid hx
      have M1 := Lib.hid (prCells_len ps)
      obtain ⟨m, hm⟩ : ∃ m, m = ps.length := ⟨_, rfl⟩
      rw [← hm] at x2 hpb
      have HM := Lib.hid hm
      have HSG := Lib.hid hseg
      clear hx hseg hd hown hb hm
      go_wp2_with (first
        | (at_builtin; refine wpList_append_seg _ rfl (.tmp 16) (.tmp 18) 48 rfl (wr.heap.size + 1) 57 j0 _ 2 32 Tryz.underlying48 gi gz0 gz1 gz2 rfl (by decide) _ 0 [] rfl (own_empty _ _ _ _ _ (by simp) (by simp)) B xA m xc (prCells ps) rfl ?_ ((HSG.out.alloc (by have := HB.out.size; omega) _).alloc (by have := HB.out.size; simp; omega) _) (one_pr ps) ?_ ?_ ?_ ?_))
      · rw [M1.out, HM.out]
      · unfold maxLen; omega
      · omega
      · simp
      intro v3 w3 hown3 hg3 _
      obtain ⟨A3, c3, rfl⟩ := own_shape hown3
      obtain ⟨⟨q0, q1⟩, ⟨q2, q3, q4⟩, q5, q6⟩ := twin_mem hown3 hg3
      have H5 := Lib.hid q5
      have H6 := Lib.hid q6
      clear q5 q6 hown3 hg3
      have h4 : (w3.setCell ⟨wr.heap.size, 2, none⟩ (.slice A3 m c3)).heap.size = w3.heap.size := by simp [World.setCell]
      have hrow4 : (w3.setCell ⟨wr.heap.size, 2, none⟩ (.slice A3 m c3)).ownsRow w.heap.size 50 3 (.slice Ao k co) k (nmCells done) := own_keep HO.out.row fun g _ hlt => H5.out.block g hlt
      have HR4 := Lib.hid hrow4
      clear hrow4
      go_wp2_with (first
        | (at_builtin; refine wpList_push rfl (.tmp 21) (.tmp 23) 22 rfl w.heap.size 50 i0 _ 3 48 Tryz.underlying22 fi fz0 fz1 fz2 rfl (by decide) _ k (nmCells done) rfl HR4.out #[.int .i64 P, .string s, .slice A3 m c3] (by rw [h4]; rfl) rfl ?_ ?_ ?_ ?_ ?_))
      · first | exact ⟨rfl, rfl, rfl⟩ | (intro u hu; simp at hu; rcases hu with rfl | rfl | rfl <;> rfl)
      · unfold maxLen; omega
      · omega
      · exact Nat.le_trans HB.out.size H5.out.size
      intro A5 c5 w5 hown5 hp5
      have hm2 := HM.out
      subst hm2
      have ee : nmCells (done ++ [⟨⟨P, s, ps⟩, A3, c3⟩]) = nmCells done ++ [.int .i64 P, .string s, .slice A3 ps.length c3] := by simp [nmCells, Nm.cells]
      have hown5' : w5.ownsRow w.heap.size 50 3 (.slice A5 (k + 1) c5) (k + 1) (nmCells (done ++ [⟨⟨P, s, ps⟩, A3, c3⟩])) := by
        rw [ee]
        simpa using hown5
      have hfin : OwnN w5 w.heap.size A5 (k + 1) c5 (done ++ [⟨⟨P, s, ps⟩, A3, c3⟩]) := HO.out.snoc (B := wr.heap.size + 1) H5.out (by omega) H6.out hown5' hp5 HB.out.size
      have hb5 : Below w.heap.size w w5 := (HB.out.trans (H5.out.mono HB.out.size)).trans hp5.low
      have hd5 : dat (done ++ [⟨⟨P, s, ps⟩, A3, c3⟩]) = (dat l).take (k + 1) := by
        rw [List.take_succ_eq_append_getElem (by rw [dat_len]; exact hkl), ← HD.out, dat_get l hkl, ← HX.out]
        simp [dat]
      have HF := Lib.hid hfin
      have HB5 := Lib.hid hb5
      have HD5 := Lib.hid hd5
      clear hown5 hown5' hp5 hfin hb5 hd5 h4 q0 q1 q2 q3 q4 x0 x1 x2
      go_wp2_with fail
      exact ⟨⟨k + 1, _, A5, c5, by omega, by go_num, rfl, HD5.out, HF.out, HB5.out⟩, by simp [intOf]; omega⟩
    · obtain rfl : k = n := by omega
      go_wp2
      go_ret
      exact ⟨Ao, co, done, rfl, by rw [HD.out, HN.out, List.take_of_length_le (by rw [dat_len]; exact Nat.le_refl _)], HO.out, HB.out⟩
end Go.Proofs.YtmdnbajbfnhecaaGreatDoor
