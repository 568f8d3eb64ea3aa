/- A tree the other way round, a handle of one node alone: the contracts. -/
import Derived.Test.YtmdnbajbfnhecaaGreatDoorOrLaw
set_option linter.unusedVariables false
namespace Go.Proofs.YtmdnbajbfnhecaaGreatDoor
open Go.RowKit
set_option maxRecDepth 100000 in
set_option maxHeartbeats 8000000 in
theorem turned_rec (A : Option Addr) (cap n : Nat) (l : List Nm) (hn : n = l.length) (hsz : Sized l) (base : Nat) : ∀ (f i : Nat), n - i ≤ f → i < n → ∀ (par : Int) (w : World) (Ao : Option Addr) (co m : Nat) (acc : List Nm), base ≤ w.heap.size → Nodes w base A l → OwnN w base Ao m co acc →
    m + (turnN (dat l) i par m).length ≤ 1000 →
    Calls Tryz.prog 7 #[.slice A n cap, .int .i64 (i : Int), .int .i64 par, .slice Ao m co] w fun e w' => ∃ (A' : Option Addr) (m' c' : Nat) (acc' : List Nm), e = .returned (.slice A' m' c') ∧ OwnN w' base A' m' c' acc' ∧ dat acc' = dat acc ++ turnN (dat l) i par m ∧ Below base w w' := by
  obtain ⟨i0, fi, fz0, fz1, fz2⟩ := info_parts Tryz.info50
  obtain ⟨j0, gi, gz0, gz1, gz2⟩ := info_parts Tryz.info57
  have hnn : n * 48 ≤ 140737488355328 := by have := hsz.n; omega
  have HN := Lib.hid hn
  have HZ := Lib.hid hsz
  clear hsz
  intro f
  induction f with
  | zero => intro i h1 h2; omega
  | succ f ih =>
    intro i hif hin par w Ao co m acc hbase hs ho hroom
    have IH := Lib.hid ih
    have HS := Lib.hid hs
    have HO := Lib.hid ho
    have HRM := Lib.hid hroom
    have hil : i < l.length := by rw [← hn]; exact hin
    have hii : (i : Int) < (n : Int) := by omega
    obtain ⟨b, off, eA, hbB, x0, x1, x2, hseg⟩ := hs.at_ hil
    have hpb := HZ.out.props _ (List.getElem_mem hil)
    obtain ⟨x, hx⟩ : ∃ x, x = l[i] := ⟨_, rfl⟩
    rw [← hx] at x0 x1 x2 hseg hpb
    obtain ⟨⟨P, s, ps⟩, xA, xc⟩ := x
    simp only at x0 x1 x2 hseg hpb
    have HX := Lib.hid hx
    obtain ⟨N, hNp⟩ : ∃ N, N = ps.length := ⟨_, rfl⟩
    rw [← hNp] at x2 hpb
    have HNP := Lib.hid hNp
    have HSG := Lib.hid hseg
    have hnA : A = some ⟨b, off, none⟩ := eA
    subst hnA
    clear hn ih hs ho hroom hx hseg hNp eA
    have hBw : ∀ W, Below w.heap.size w W → Below base w W := fun W h => h.mono hbase
    have hb1 : Below w.heap.size w (w.alloc (.cells #[.int .i64 par, .string s, .slice none 0 0] 50)) := (Below.refl _ w).alloc (Nat.le_refl _) _
    have r1 : RowAt (w.alloc (.cells #[.int .i64 par, .string s, .slice none 0 0] 50)) w.heap.size 50 [.int .i64 par, .string s, .slice none 0 0] := ⟨_, heap_alloc_new _ _, rfl⟩
    have z1 : (w.alloc (.cells #[.int .i64 par, .string s, .slice none 0 0] 50)).heap.size = w.heap.size + 1 := by simp
    have x2a : (w.alloc (.cells #[.int .i64 par, .string s, .slice none 0 0] 50)).cell? ⟨b, off + i * 3 + 2, none⟩ = some (.slice xA N xc) := (World.cell?_alloc_lt _ _ _ (by show b < w.heap.size; omega)).trans x2
    have HB1 := Lib.hid hb1
    have R1 := Lib.hid r1
    clear hb1 r1
    have hN0 : N ≤ 4398046511104 := by omega
    go_enter Tryz.func7, Tryz.ntmps7
    go_wp2
    go_loopw [10] (fun kv wx => ∃ (u : Nat) (k : Int) (pA : Option Addr) (pc : Nat), u ≤ N ∧ k + 1 + u = N ∧ kv = .int .i64 k ∧ RowAt wx w.heap.size 50 [.int .i64 par, .string s, .slice pA u pc] ∧ wx.ownsRow (w.heap.size + 1) 57 2 (.slice pA u pc) u (prCells (ps.reverse.take u)) ∧ Below w.heap.size w wx) (fun kv _ => (intOf kv + 1).toNat)
    case atStart =>
      refine ⟨0, (N : Int) - 1, none, 0, by omega, by omega, by go_num, R1.out, ?_, HB1.out⟩
      rw [List.take_zero]
      exact World.ownsRow_nil _ _ _ _
    case round =>
      obtain ⟨u, k, pA, pc, hu, hk, rfl, hrow, hown, hb⟩ := hrel
      have HROW := Lib.hid hrow
      have HOW := Lib.hid hown
      have HB := Lib.hid hb
      have hwz := hrow.lt
      have hsz := hb.size
      have c2 := hrow.cell (k := 2) (by simp)
      have f2 := hrow.frozen 2
      have y2 := (hb.cell (p := ⟨b, off + i * 3 + 2, none⟩) (by show b < w.heap.size; omega)).trans x2
      simp only [List.getElem?_cons_succ, List.getElem?_cons_zero] at c2
      by_cases hlt : u < N
      · obtain ⟨j, hj⟩ : ∃ j : Nat, k = (j : Int) := ⟨k.toNat, by omega⟩
        subst hj
        have hjN : j < N := by omega
        have hji : (j : Int) < (N : Int) := by omega
        have hj0 : ¬ (j : Int) < 0 := by omega
        obtain ⟨pb, poff, epA, hpbB, v0, v1⟩ := HSG.out.pr (k := j) (by rw [← HNP.out]; exact hjN)
        have hjp : j < ps.length := by rw [← HNP.out]; exact hjN
        have hq : ps.reverse.take (u + 1) = ps.reverse.take u ++ [ps[j]] := by
          rw [take_snoc (show u < ps.reverse.length by rw [List.length_reverse, ← HNP.out]; exact hlt)]
          congr 2
          rw [List.getElem_reverse]
          congr 1
          have := HNP.out
          omega
        obtain ⟨y, hy⟩ : ∃ y, y = ps[j] := ⟨_, rfl⟩
        rw [← hy] at v0 v1 hq
        obtain ⟨yn, yv⟩ := y
        simp only at v0 v1
        have w0 := (hb.cell (p := ⟨pb, poff + j * 2, none⟩) (by show pb < w.heap.size; omega)).trans v0
        have w1 := (hb.cell (p := ⟨pb, poff + j * 2 + 1, none⟩) (by show pb < w.heap.size; omega)).trans v1
        have HQ := Lib.hid hq
        subst epA
        clear hrow hown hb hq hy v0 v1
        go_upto_region 5 with (fail)
        refine wp_region_noPanic ?_
        refine wp_region_F (S := fun W => W.cell? ⟨w.heap.size, 2, none⟩ = some (.slice pA u pc) ∧ W.cell? ⟨b, off + i * 3 + 2, none⟩ = some (.slice (some ⟨pb, poff, none⟩) N xc) ∧ W.cell? ⟨pb, poff + j * 2, none⟩ = some (.string yn) ∧ W.cell? ⟨pb, poff + j * 2 + 1, none⟩ = some (.string yv)) (f := 13) (by kernel_rfl) ?_
        have hHeld : wr.drew.cell? ⟨w.heap.size, 2, none⟩ = some (.slice pA u pc) ∧ wr.drew.cell? ⟨b, off + i * 3 + 2, none⟩ = some (.slice (some ⟨pb, poff, none⟩) N xc) ∧ wr.drew.cell? ⟨pb, poff + j * 2, none⟩ = some (.string yn) ∧ wr.drew.cell? ⟨pb, poff + j * 2 + 1, none⟩ = some (.string yv) := ⟨c2, y2, w0, w1⟩
        (refine heldF_take (i := 0) rfl rfl (by kernel_rfl) (by kernel_rfl) (by kernel_rfl) (by kernel_rfl) rfl (by kernel_rfl) (fun _ _ _ h => h) (by rfl) (by intro w hSw; obtain ⟨s1, s2, s3, s4⟩ := hSw; go_simp; first | done | with_reducible rfl) (by assumption) ?_; try simp only [Act.put, List.setIfInBounds_toArray, List.set_cons_zero, List.set_cons_succ])
        (refine heldF_take (i := 1) rfl rfl (by kernel_rfl) (by kernel_rfl) (by kernel_rfl) (by kernel_rfl) rfl (by kernel_rfl) (fun _ _ _ h => h) (by rfl) (by intro w hSw; obtain ⟨s1, s2, s3, s4⟩ := hSw; go_simp; first | done | with_reducible rfl) (by assumption) ?_; try simp only [Act.put, List.setIfInBounds_toArray, List.set_cons_zero, List.set_cons_succ])
        (refine heldF_take (i := 2) rfl rfl (by kernel_rfl) (by kernel_rfl) (by kernel_rfl) (by kernel_rfl) rfl (by kernel_rfl) (fun _ _ _ h => h) (by rfl) (by intro w hSw; obtain ⟨s1, s2, s3, s4⟩ := hSw; go_simp; first | done | with_reducible rfl) (by assumption) ?_; try simp only [Act.put, List.setIfInBounds_toArray, List.set_cons_zero, List.set_cons_succ])
        (refine heldF_take (i := 3) rfl rfl (by kernel_rfl) (by kernel_rfl) (by kernel_rfl) (by kernel_rfl) rfl (by kernel_rfl) (fun _ _ _ h => h) (by rfl) (by intro w hSw; obtain ⟨s1, s2, s3, s4⟩ := hSw; go_simp; first | done | with_reducible rfl) (by assumption) ?_; try simp only [Act.put, List.setIfInBounds_toArray, List.set_cons_zero, List.set_cons_succ])
        (refine heldF_take (i := 4) rfl rfl (by kernel_rfl) (by kernel_rfl) (by kernel_rfl) (by kernel_rfl) rfl (by kernel_rfl) (fun _ _ _ h => h) (by rfl) (by intro w hSw; obtain ⟨s1, s2, s3, s4⟩ := hSw; go_simp; first | done | with_reducible rfl) (by assumption) ?_; try simp only [Act.put, List.setIfInBounds_toArray, List.set_cons_zero, List.set_cons_succ])
        (refine heldF_take (i := 5) rfl rfl (by kernel_rfl) (by kernel_rfl) (by kernel_rfl) (by kernel_rfl) rfl (by kernel_rfl) (fun _ _ _ h => h) (by rfl) (by intro w hSw; obtain ⟨s1, s2, s3, s4⟩ := hSw; go_simp; first | done | with_reducible rfl) (by assumption) ?_; try simp only [Act.put, List.setIfInBounds_toArray, List.set_cons_zero, List.set_cons_succ])
        (refine heldF_take (i := 6) rfl rfl (by kernel_rfl) (by kernel_rfl) (by kernel_rfl) (by kernel_rfl) rfl (by kernel_rfl) (fun _ _ _ h => h) (by rfl) (by intro w hSw; obtain ⟨s1, s2, s3, s4⟩ := hSw; go_simp; first | done | with_reducible rfl) (by assumption) ?_; try simp only [Act.put, List.setIfInBounds_toArray, List.set_cons_zero, List.set_cons_succ])
        (refine heldF_take (i := 7) rfl rfl (by kernel_rfl) (by kernel_rfl) (by kernel_rfl) (by kernel_rfl) rfl (by kernel_rfl) (fun _ _ _ h => h) (by rfl) (by intro w hSw; obtain ⟨s1, s2, s3, s4⟩ := hSw; go_simp; first | done | with_reducible rfl) (by assumption) ?_; try simp only [Act.put, List.setIfInBounds_toArray, List.set_cons_zero, List.set_cons_succ])
        (refine heldF_take (i := 8) rfl rfl (by kernel_rfl) (by kernel_rfl) (by kernel_rfl) (by kernel_rfl) rfl (by kernel_rfl) (fun _ _ _ h => h) (by rfl) (by intro w hSw; obtain ⟨s1, s2, s3, s4⟩ := hSw; go_simp; first | done | with_reducible rfl) (by assumption) ?_; try simp only [Act.put, List.setIfInBounds_toArray, List.set_cons_zero, List.set_cons_succ])
        (refine heldF_take (i := 9) rfl rfl (by kernel_rfl) (by kernel_rfl) (by kernel_rfl) (by kernel_rfl) rfl (by kernel_rfl) (fun _ _ _ h => h) (by rfl) (by intro w hSw; obtain ⟨s1, s2, s3, s4⟩ := hSw; go_simp; first | done | with_reducible rfl) (by assumption) ?_; try simp only [Act.put, List.setIfInBounds_toArray, List.set_cons_zero, List.set_cons_succ])
        refine wpAnyF_ready (rs := [10]) (by kernel_rfl) (by simp) ?_
        refine AllReadyF.cons rfl (fun K hK => ?_) AllReadyF.nil
        go_simp
        have hb1 : Below wr.heap.size wr (wr.drew.alloc (.cells #[.string yn, .string yv] 57)) := ((Below.refl _ wr).drew).alloc (Nat.le_refl _) _
        refine hK.out _ _ ⟨(hb1.cell (p := ⟨w.heap.size, 2, none⟩) hwz).trans c2, (hb1.cell (p := ⟨b, off + i * 3 + 2, none⟩) (by show b < wr.heap.size; omega)).trans y2, (hb1.cell (p := ⟨pb, poff + j * 2, none⟩) (by show pb < wr.heap.size; omega)).trans w0, (hb1.cell (p := ⟨pb, poff + j * 2 + 1, none⟩) (by show pb < wr.heap.size; omega)).trans w1⟩ (fun hHeld => ?_)
        clear hK K
        try simp only [Act.put, List.setIfInBounds_toArray, List.set_cons_zero, List.set_cons_succ]
        refine wpAnyF_ready (rs := [11]) (by kernel_rfl) (by simp) ?_
        refine AllReadyF.cons rfl (fun K hK => ?_) AllReadyF.nil
        have hbox : RowAt (wr.drew.alloc (.cells #[.string yn, .string yv] 57)) wr.heap.size 57 [.string yn, .string yv] := ⟨_, heap_alloc_new _ _, rfl⟩
        refine step_push rfl (.tmp 32) (.tmp 41) 48 rfl (w.heap.size + 1) 57 j0 _ 2 32 Tryz.underlying48 gi gz0 gz1 gz2 rfl (by decide) (.slice pA u pc) u (prCells (ps.reverse.take u)) rfl (HOW.out.alloc _) wr.heap.size 1 1 [.string yn, .string yv] rfl rfl hbox (by intro v hv; simp at hv; rcases hv with rfl | rfl <;> rfl) (by unfold maxLen; omega) (by omega) (by simp; omega) ?_
        intro A5 c5 w5 hown5 hg5 hid5
        have hb5 : Below (w.heap.size + 1) wr w5 := (((Below.refl (w.heap.size + 1) wr).drew).alloc (by show w.heap.size + 1 ≤ wr.heap.size; omega) _).grown hg5 (by simp; omega) (fun g hg => (HOW.out.lt g hg).1)
        have c25 := (hb5.cell (p := ⟨w.heap.size, 2, none⟩) (Nat.lt_succ_self _)).trans c2
        have hr5 := HROW.out.keep (hb5.block _ (Nat.lt_succ_self _))
        have f25 := hr5.frozen 2
        refine hK.out _ _ ⟨c25, (hb5.cell (p := ⟨b, off + i * 3 + 2, none⟩) (by show b < w.heap.size + 1; omega)).trans y2, (hb5.cell (p := ⟨pb, poff + j * 2, none⟩) (by show pb < w.heap.size + 1; omega)).trans w0, (hb5.cell (p := ⟨pb, poff + j * 2 + 1, none⟩) (by show pb < w.heap.size + 1; omega)).trans w1⟩ (fun hHeld => ?_)
        clear hK K
        try simp only [Act.put, List.setIfInBounds_toArray]
        (refine heldF_take (i := 12) rfl rfl (by kernel_rfl) (by kernel_rfl) (by kernel_rfl) (by kernel_rfl) rfl (by kernel_rfl) (fun _ _ _ h => h) (by rfl) (by intro w hSw; obtain ⟨s1, s2, s3, s4⟩ := hSw; go_simp; first | done | with_reducible rfl) (by assumption) ?_; try simp only [Act.put])
        clear hHeld
        have hbw5 : Below w.heap.size w w5 := HB.out.trans (hb5.mono (Nat.le_succ _))
        have HB5 := Lib.hid (hbw5.setCell (p := ⟨w.heap.size, 2, none⟩) (Nat.le_refl _) (.slice A5 (u + 1) c5))
        have HR5 := Lib.hid (hr5.store 2 (.slice A5 (u + 1) c5))
        have ho5 : (w5.setCell ⟨w.heap.size, 2, none⟩ (.slice A5 (u + 1) c5)).ownsRow (w.heap.size + 1) 57 2 (.slice A5 (u + 1) c5) (u + 1) (prCells (ps.reverse.take (u + 1))) := by
          have e : prCells (ps.reverse.take (u + 1)) = prCells (ps.reverse.take u) ++ [.string yn, .string yv] := by rw [HQ.out]; simp [prCells, Pr.cells]
          rw [e]
          exact own_keep hown5 fun g hg hlt => Below.heap_setCell _ _ _ _ (by have := (hown5.lt g hg).1; show g ≠ w.heap.size; omega)
        have HO5 := Lib.hid ho5
        clear hown5 hg5 hid5 hbox hb1 hb5 hr5 hbw5 ho5 c2 f2
        refine wpAnyF_ready (rs := [13]) (by kernel_rfl) (by simp) ?_
        refine AllReadyF.last rfl (fun K hK => ?_)
        go_simp
        refine hK.out _ _ ?_
        clear hK K
        try simp only [Act.put, List.setIfInBounds_toArray, List.set_cons_zero, List.set_cons_succ]
        refine wpAnyF_done (by kernel_rfl) ?_ _
        refine NoPanic.normal ?_
        go_wp2_with fail
        refine ⟨⟨u + 1, (j : Int) - 1, A5, c5, by omega, by omega, by go_num, HR5.out, HO5.out, HB5.out⟩, by simp [intOf]⟩
      · obtain rfl : N = u := by omega
        obtain rfl : k = -1 := by omega
        have c0 := hrow.cell (k := 0) (by simp)
        have c1 := hrow.cell (k := 1) (by simp)
        simp only [List.getElem?_cons_succ, List.getElem?_cons_zero] at c0 c1
        have hlr : ps.reverse.length = N := by rw [List.length_reverse, HNP.out]
        have htk : ps.reverse.take N = ps.reverse := List.take_of_length_le (by omega)
        rw [htk] at hown
        have ho1 := HO.out.below hb
        have hpr : wr.ownsRow (w.heap.size + 1) 57 2 (.slice pA ps.reverse.length pc) ps.reverse.length (prCells ps.reverse) := by rw [hlr]; exact hown
        have HPR := Lib.hid hpr
        have HLR := Lib.hid hlr
        have HO1 := Lib.hid ho1.row
        have HAL := Lib.hid ho1.len
        have hm1 : m ≤ 1000 := by have := HRM.out; omega
        clear hrow hown hb htk ho1 hpr hlr
        go_wp2_with (first
          | (at_builtin; refine wpList_push rfl (.tmp 44) (.tmp 46) 22 rfl base 50 i0 _ 3 48 Tryz.underlying22 fi fz0 fz1 fz2 rfl (by decide) _ m (nmCells acc) rfl HO1.out #[.int .i64 par, .string s, .slice pA N pc] rfl rfl ?_ ?_ ?_ ?_ ?_))
        · first | exact ⟨rfl, rfl, rfl⟩ | (intro u hu; simp at hu; rcases hu with rfl | rfl | rfl <;> rfl)
        · unfold maxLen; omega
        · omega
        · omega
        intro A5 c5 w5 hown5 hp5
        have ee : nmCells (acc ++ [⟨⟨par, s, ps.reverse⟩, pA, pc⟩]) = nmCells acc ++ [.int .i64 par, .string s, .slice pA ps.reverse.length pc] := by simp [nmCells, Nm.cells]
        have hown5' : w5.ownsRow base 50 3 (.slice A5 (m + 1) c5) (m + 1) (nmCells (acc ++ [⟨⟨par, s, ps.reverse⟩, pA, pc⟩])) := by
          rw [ee, HLR.out]
          simpa using hown5
        have hfin : OwnN w5 base A5 (m + 1) c5 (acc ++ [⟨⟨par, s, ps.reverse⟩, pA, pc⟩]) := HO.out.snoc (B := w.heap.size + 1) HB.out (Nat.le_succ _) HPR.out hown5' hp5 hbase
        have hb5 : Below base w w5 := (HB.out.mono hbase).trans hp5.low
        have hd5 : dat (acc ++ [⟨⟨par, s, ps.reverse⟩, pA, pc⟩]) = dat acc ++ [⟨par, s, ps.reverse⟩] := by simp [dat]
        have HF := Lib.hid hfin
        have HB5 := Lib.hid hb5
        have HD5 := Lib.hid hd5
        have hmi : (m : Int) ≤ 1000 := by omega
        clear hown5 hown5' hp5 hfin hb5 hd5 c0 c1 c2 f2 y2 x0 x1 x2 x2a HOW HROW HB HPR HO1 ee
        go_wp2_with fail
        have hnD : (dat l).length = n := by rw [dat_len, HN.out]
        have hiD : i < (dat l).length := by rw [hnD]; exact hin
        have hgi : (dat l)[i]? = some ⟨P, s, ps⟩ := by
          rw [List.getElem?_eq_getElem hiD, dat_get l hil, ← HX.out]
        have hstep : turnN (dat l) i par m = ⟨par, s, ps.reverse⟩ :: ordKids (fun k c => turnN (dat l) k (m : Nat) c) (kidsFrom (dat l) i (i + 1)).reverse (m + 1) := by
          rw [turnN_step _ _ _ _ hiD]
          have e1 : bareN (dat l) i = s := by unfold bareN; rw [hgi]
          have e2 : propsN (dat l) i = ps := by unfold propsN; rw [hgi]
          rw [e1, e2]
          rfl
        have HST := Lib.hid hstep
        have HM1 := Lib.hid (show acc.length = m from HAL.out.symm)
        clear hstep hgi
        go_loopw [12, 3] (fun kv ov wx => ∃ (z : Nat) (kI : Int) (Az : Option Addr) (cz mz : Nat) (az : List Nm), i + 1 ≤ z ∧ z ≤ n ∧ kI + 1 = z ∧ kv = .int .i64 kI ∧ ov = .slice Az mz cz ∧ OwnN wx base Az mz cz az ∧ dat az = dat acc ++ (⟨par, s, ps.reverse⟩ :: ordKids (fun k c => turnN (dat l) k (m : Nat) c) (kidsFrom (dat l) i z).reverse (m + 1)) ∧ Below base w wx) (fun kv _ _ => (intOf kv + 1).toNat)
        case atStart =>
          refine ⟨n, (n : Int) - 1, A5, c5, m + 1, _, by omega, Nat.le_refl _, by omega, rfl, rfl, HF.out, ?_, HB5.out⟩
          rw [HD5.out, kidsFrom_end (by omega)]
          rfl
        case round =>
          obtain ⟨z, kI, Az, cz, mz, az, hz1, hz2, hkI, rfl, rfl, hoz, hdz, hbz⟩ := hrel
          have HOZ := Lib.hid hoz
          have HDZ := Lib.hid hdz
          have HBZ := Lib.hid hbz
          have hwz := hbz.size
          obtain ⟨k, hk⟩ : ∃ k : Nat, kI = (k : Int) := ⟨kI.toNat, by omega⟩
          subst hk
          obtain rfl : z = k + 1 := by omega
          have hml : mz = m + 1 + (ordKids (fun k c => turnN (dat l) k (m : Nat) c) (kidsFrom (dat l) i (k + 1)).reverse (m + 1)).length := by
            have := congrArg List.length hdz
            rw [dat_len, ← hoz.len, List.length_append, List.length_cons, dat_len, HM1.out] at this
            omega
          have HML := Lib.hid hml
          by_cases hki : i < k
          · have hkii : (i : Int) < (k : Int) := by omega
            have hkl : k < l.length := by rw [← HN.out]; omega
            have hkn : (k : Int) < (n : Int) := by omega
            obtain ⟨b2, off2, eA2, hb2, g0, _⟩ := (HS.out.below hbz).at_ hkl
            injection eA2 with eA2
            injection eA2 with q1 q2
            subst q1 q2
            have hpar : parAt (dat l) (k : Nat) = l[k].d.p := by
              unfold parAt
              rw [Int.toNat_natCast, List.getElem?_eq_getElem (by rw [dat_len]; exact hkl)]
              simp only [dat_get l hkl]
            obtain ⟨pk, hpk⟩ : ∃ pk, pk = l[k].d.p := ⟨_, rfl⟩
            rw [← hpk] at g0 hpar
            have hkf := kidsFrom_step (l := dat l) (i := i) (z := k) (by omega)
            have HKF := Lib.hid hkf
            have HPAR := Lib.hid hpar
            by_cases hpi : pk = (i : Int)
            · have epi : (pk == (i : Int)) = true := by rw [hpi]; exact beq_self_eq_true _
              have hpre : ∃ pre, kidsFrom (dat l) i (i + 1) = pre ++ kidsFrom (dat l) i k := by
                unfold kidsFrom
                have e := List.take_append_drop (k - (i + 1)) ((List.range (dat l).length).drop (i + 1))
                rw [List.drop_drop, show i + 1 + (k - (i + 1)) = k by omega] at e
                rw [← e, List.filter_append]
                exact ⟨_, rfl⟩
              have hroom2 : mz + (turnN (dat l) k (m : Nat) mz).length ≤ 1000 := by
                obtain ⟨pre, hpre⟩ := hpre
                have h1 := HRM.out
                rw [HST.out, hpre, hkf, if_pos (by rw [hpar, hpi]), List.reverse_append, List.reverse_cons, ordKids_append, ordKids_append, List.length_cons, List.length_append, List.length_append] at h1
                simp only [ordKids, List.append_nil] at h1
                rw [← hml] at h1
                omega
              have hcall := IH.out k (by omega) (by omega) (m : Int) wr Az cz mz az (by omega) (HS.out.below hbz) hoz hroom2
              have HC := Lib.hid hcall
              subst hpi
              clear hcall hroom2 hpre hoz hdz hbz hml hpar hkf hpk
              go_wp2_with (go_at_call 7
                           refine HC.out.mono ?_
                           rintro e w6 ⟨A6, m6, c6, a6, rfl, ho6, hd6, hb6⟩
                           have HO6 := Lib.hid ho6
                           have HD6 := Lib.hid hd6
                           have HB6 := Lib.hid hb6
                           clear ho6 hd6 hb6)
              refine ⟨⟨k, (k : Int) - 1, A6, c6, m6, a6, by omega, by omega, by omega, by go_num, rfl, HO6.out, ?_, HBZ.out.trans HB6.out⟩, by simp [intOf]⟩
              rw [HD6.out, HDZ.out, HKF.out, if_pos HPAR.out, List.reverse_cons, ordKids_append, List.append_assoc, List.cons_append]
              simp only [ordKids, List.append_nil]
              rw [← HML.out]
            · have epi : (pk == (i : Int)) = false := by rw [beq_eq_false_iff_ne]; exact hpi
              clear hoz hdz hbz hml hpar hkf hpk
              go_wp2_with fail
              refine ⟨⟨k, (k : Int) - 1, Az, cz, mz, az, by omega, by omega, by omega, by go_num, rfl, HOZ.out, ?_, HBZ.out⟩, by simp [intOf]⟩
              rw [HDZ.out, HKF.out, if_neg (by rw [HPAR.out]; exact hpi)]
          · obtain rfl : k = i := by omega
            clear hoz hdz hbz hml
            go_wp2_with fail
            go_ret
            exact ⟨Az, mz, cz, az, rfl, HOZ.out, by rw [HDZ.out, HST.out], HBZ.out⟩
theorem turned_any (A : Option Addr) (cap n : Nat) (l : List Nm) (hn : n = l.length) (hsz : Sized l) (h0 : 0 < n) {T : List Nd} (ht : Turned (dat l) T) (h5 : n ≤ 512) (w : World) (hs : Nodes w w.heap.size A l) :
    Calls Tryz.prog 7 #[.slice A n cap, .int .i64 0, .int .i64 (-1), .slice none 0 0] w fun e w' => ∃ (A' : Option Addr) (m' c' : Nat) (acc' : List Nm), e = .returned (.slice A' m' c') ∧ OwnN w' w.heap.size A' m' c' acc' ∧ dat acc' = T ∧ Below w.heap.size w w' := by
  have h := turned_rec A cap n l hn hsz w.heap.size n 0 (by omega) h0 (-1) w none 0 0 [] (Nat.le_refl _) hs (own_none _ _) (by
    rw [ht.data, ht.len, dat_len]; omega)
  rw [ht.data] at h
  exact h
set_option maxRecDepth 100000 in
set_option maxHeartbeats 400000 in
theorem lone_any (A : Option Addr) (cap n : Nat) (l : List Nm) (hn : n = l.length) (hsz : Sized l) (hI : Is (dat l)) (h5 : n ≤ 512) (x : Nat) (hx0 : x ≠ 0) (w : World) (B : Nat) (hB : B ≤ w.heap.size) (hs : Nodes w B A l) :
    Calls Tryz.prog 17 #[.slice A n cap, .int .u32 (x : Int)] w fun e w' => e = .returned (.bool ((dat l).countP (hasH x) == 1)) ∧ Below w.heap.size w w' := by
  have hcall : ∀ (i : Nat), i < n → ∀ W, Below w.heap.size w W → Calls Tryz.prog 13 #[.slice A n cap, .int .i64 (i : Int)] W fun e w' => e = .returned (.tuple #[.int .u32 ((handofV (dat l) i).1 : Nat), .int .i64 (handofV (dat l) i).2]) ∧ Below W.heap.size W w' := fun i hi W hW =>
    phandof_any A cap n l hn hsz (i : Int) W B (Nat.le_trans hB hW.size) (hs.below (hW.mono hB))
  have HC := Lib.hid hcall
  have HN := Lib.hid hn
  clear hcall hs hn
  have hnD : (dat l).length = n := by rw [dat_len, HN.out]
  go_enter Tryz.func17, Tryz.ntmps17
  go_wp2
  go_loopw [6, 5] (fun iv cv wr => ∃ (i c : Nat), i ≤ n ∧ iv = .int .i64 i ∧ cv = .int .i64 c ∧ c = ((dat l).take i).countP (hasH x) ∧ Below w.heap.size w wr) (fun iv _ _ => n - (intOf iv).toNat)
  case atStart => exact ⟨0, 0, by omega, rfl, rfl, by simp, Below.refl _ _⟩
  case round =>
    obtain ⟨i, c, hi, rfl, rfl, hc, hb⟩ := hrel
    have HCC := Lib.hid hc
    have HB := Lib.hid hb
    have hc5 : c ≤ 512 := by
      have := List.countP_le_length (p := hasH x) (l := (dat l).take i)
      rw [List.length_take] at this
      omega
    by_cases hin : i < n
    · have hii : (i : Int) < (n : Int) := by omega
      have hcl := HC.out i hin wr hb
      have hiD : i < (dat l).length := by rw [hnD]; exact hin
      have hw := hI.wrong hiD
      have hat : holdF.propsAt (dat l) i = (dat l)[i].ps := by
        unfold holdF.propsAt
        rw [List.getElem?_eq_getElem hiD]
      have htk : ((dat l).take (i + 1)).countP (hasH x) = c + if hasH x (dat l)[i] = true then 1 else 0 := by
        rw [take_snoc hiD, List.countP_append, List.countP_cons, List.countP_nil, hc]
        omega
      obtain ⟨hF, hhF⟩ : ∃ hF, hF = handF (holdF.propsAt (dat l) i) := ⟨_, rfl⟩
      have hh : hasH x (dat l)[i] = (hF == x) := by unfold hasH; rw [hhF, hat]
      have hv : handofV (dat l) (i : Int) = if hF = 0 then (0, 6) else (hF, 0) := by
        unfold handofV
        rw [if_pos hw, Int.toNat_natCast, hhF]
      rw [hh] at htk
      rw [hv] at hcl
      clear hh hv hat hhF hw hc hb
      by_cases hF0 : hF = 0
      · rw [if_pos hF0] at hcl
        replace hcl : Calls Tryz.prog 13 #[.slice A n cap, .int .i64 (i : Int)] wr fun e w' => e = .returned (.tuple #[.int .u32 0, .int .i64 6]) ∧ Below wr.heap.size wr w' := hcl
        have e1 : (hF == x) = false := by rw [beq_eq_false_iff_ne]; omega
        rw [e1] at htk
        have HTK := Lib.hid htk
        have HCL := Lib.hid hcl
        clear htk hcl e1 hF0
        go_wp2_with (go_at_call 13
                     refine HCL.out.mono ?_
                     rintro e w1 ⟨rfl, hb1⟩
                     have HB1 := Lib.hid hb1
                     clear hb1)
        refine ⟨⟨i + 1, c, by omega, by go_num, rfl, by rw [HTK.out]; simp, HB.out.trans (HB1.out.mono HB.out.size)⟩, by simp [intOf]; omega⟩
      · rw [if_neg hF0] at hcl
        replace hcl : Calls Tryz.prog 13 #[.slice A n cap, .int .i64 (i : Int)] wr fun e w' => e = .returned (.tuple #[.int .u32 (hF : Int), .int .i64 0]) ∧ Below wr.heap.size wr w' := hcl
        by_cases hFx : hF = x
        · have e1 : (hF == x) = true := by rw [hFx]; exact beq_self_eq_true _
          rw [e1] at htk
          have HTK := Lib.hid htk
          have HCL := Lib.hid hcl
          have e2 : ((hF : Int) == (x : Int)) = true := by rw [hFx]; exact beq_self_eq_true _
          clear htk hcl e1 hF0
          subst hFx
          go_wp2_with (go_at_call 13
                       refine HCL.out.mono ?_
                       rintro e w1 ⟨rfl, hb1⟩
                       have HB1 := Lib.hid hb1
                       clear hb1)
          refine ⟨⟨i + 1, c + 1, by omega, by go_num, by go_num, by rw [HTK.out]; simp, HB.out.trans (HB1.out.mono HB.out.size)⟩, by simp [intOf]; omega⟩
        · have e1 : (hF == x) = false := by rw [beq_eq_false_iff_ne]; exact hFx
          rw [e1] at htk
          have HTK := Lib.hid htk
          have HCL := Lib.hid hcl
          have e2 : ((hF : Int) == (x : Int)) = false := by rw [beq_eq_false_iff_ne]; omega
          clear htk hcl e1 hF0
          go_wp2_with (go_at_call 13
                       refine HCL.out.mono ?_
                       rintro e w1 ⟨rfl, hb1⟩
                       have HB1 := Lib.hid hb1
                       clear hb1)
          refine ⟨⟨i + 1, c, by omega, by go_num, rfl, by rw [HTK.out]; simp, HB.out.trans (HB1.out.mono HB.out.size)⟩, by simp [intOf]; omega⟩
    · obtain rfl : i = n := by omega
      rw [List.take_of_length_le (by omega)] at hc
      by_cases hc1 : c = 1
      · have e3 : ((c : Int) == 1) = true := by rw [hc1]; rfl
        have e4 : ((dat l).countP (hasH x) == 1) = true := by rw [← hc, hc1]; rfl
        have E4 := Lib.hid e4
        clear hc e4
        subst hc1
        go_wp2_with fail
        go_ret
        exact ⟨by rw [E4.out]; rfl, HB.out⟩
      · have e3 : ((c : Int) == 1) = false := by rw [beq_eq_false_iff_ne]; omega
        have e4 : ((dat l).countP (hasH x) == 1) = false := by rw [← hc, beq_eq_false_iff_ne]; exact hc1
        have E4 := Lib.hid e4
        clear hc e4
        go_wp2_with fail
        go_ret
        exact ⟨by rw [E4.out]; rfl, HB.out⟩
end Go.Proofs.YtmdnbajbfnhecaaGreatDoor
