/- The document's Graft: the contract. -/
import Derived.Test.YtmdnbajbfnhecaaGrMem
set_option linter.unusedVariables false
namespace Go.Proofs.Ytmdnbajbfnhecaa
open Go.RowKit
theorem own_cap3 {w : World} {base : Nat} {e : TypeId} {size n c : Nat} {A : Option Addr} {xs : List Value} (h : w.ownsRow base e size (.slice A n c) n xs) : n ≤ c := by
  rcases h.2 with ⟨h0, h1⟩ | ⟨g', cap', cur, hv, hbg, hg, hnc, _⟩
  · injection h0 with _ h2 h3; omega
  · injection hv with _ _ h3; omega
theorem Picked.low2 {w w1 : World} {base n c : Nat} {A : Option Addr} {l l0 : List Nm} (h : Picked w base A n c l l0) {lo B1 : Nat} (hp : ∀ y ∈ l0, Seg w1 B1 y.A (prCells y.d.ps) ∧ Low lo y.A) (hb : Below B1 w1 w) (hB1 : B1 ≤ w1.heap.size) (hlo : lo ≤ base) : NodesL w lo A n l := by
  have hsz := hb.size
  refine ⟨h.len, ⟨own_seg h.row, fun x hx => ?_⟩, fun _ a ha => Nat.le_trans hlo (low_own h.row a ha), fun x hx he => ?_⟩
  · obtain ⟨y, hy, e1, e2⟩ := h.from_ x hx
    rw [e1, e2]
    exact ((hp y hy).1.below hb).more (by omega)
  · obtain ⟨y, hy, e1, e2⟩ := h.from_ x hx
    rw [e1]
    exact (hp y hy).2
set_option maxRecDepth 100000 in
set_option maxHeartbeats 8000000 in
theorem rgraft_no (A : Option Addr) (cap n : Nat) (l : List Nm) (hn : n = l.length) (hsz : Sized l) (i : Int) (A' : Option Addr) (cap' n' : Nat) (p : List Nm) (hn' : n' = p.length) (hsz' : Sized p) (w : World) (B : Nat) (hB : B ≤ w.heap.size) (hs : Nodes w B A l) (hs' : Nodes w B A' p)
    (hno : wrongF (dat l) i ≠ 0 ∨ pieceB (dat p) = false) :
    Calls Try.prog 15 #[.slice A n cap, .int .i64 i, .slice A' n' cap'] w fun e w' => RGraftRet (dat l) i (dat p) w' w.heap.size e ∧ Below w.heap.size w w' := by
  have hpl := wrong_any A cap n l hn hsz i w B hB hs
  by_cases hw0 : wrongF (dat l) i = 0
  case neg =>
    have hfin := fun w' => rgraftret_no (w' := w') (base := w.heap.size) hw0 (graftE_wrong (p := dat p) hw0)
    generalize wrongF (dat l) i = e0 at *
    have e1 : (e0 != 0) = true := by simpa using hw0
    have HP := Lib.hid hpl
    have HF := Lib.hid hfin
    clear hpl hfin hn hsz hs hw0 hn' hsz' hs' hno
    go_enter Try.func15, Try.ntmps15
    go_wp2_with (first
      | (go_at_call 26; refine HP.out.mono ?_; rintro e w1 ⟨rfl, hb1⟩; have HB1 := Lib.hid hb1; clear hb1))
    go_ret2
    exact ⟨HF.out _, HB1.out⟩
  have hpb : pieceB (dat p) = false := hno.resolve_left (by simp [hw0])
  have hfin := fun w' => rgraftret_no (w' := w') (base := w.heap.size) (show (40 : Int) ≠ 0 by omega) (graftE_piece hw0 hpb)
  rw [hw0] at hpl
  have hpc := fun w1 (hb : Below w.heap.size w w1) => piece_any A' cap' n' p hn' hsz' w1 B (Nat.le_trans hB hb.size) (hs'.below (hb.mono hB))
  rw [hpb] at hpc
  have HP := Lib.hid hpl
  have HF := Lib.hid hfin
  have HPC := Lib.hid hpc
  clear hpl hfin hpc hn hsz hs hw0 hn' hsz' hs' hno hpb
  go_enter Try.func15, Try.ntmps15
  go_wp2_with (first
    | (go_at_call 26; refine HP.out.mono ?_; rintro e w1 ⟨rfl, hb1⟩; have HB1 := Lib.hid hb1; clear hb1)
    | (go_at_call 30; refine (HPC.out _ HB1.out).mono ?_; rintro e w2 ⟨rfl, hb2⟩; have HB2 := Lib.hid (HB1.out.trans (hb2.mono HB1.out.size)); clear hb2))
  go_ret2
  exact ⟨HF.out _, HB2.out⟩
set_option maxRecDepth 100000 in
set_option maxHeartbeats 8000000 in
theorem rgraft_ok (A : Option Addr) (cap n : Nat) (l : List Nm) (hn : n = l.length) (hsz : Sized l) (i : Int) (A' : Option Addr) (cap' n' : Nat) (p : List Nm) (hn' : n' = p.length) (hsz' : Sized p) (w : World) (B : Nat) (hB : B ≤ w.heap.size) (hs : Nodes w B A l) (hs' : Nodes w B A' p)
    (hw0 : wrongF (dat l) i = 0) (hpb : pieceB (dat p) = true) :
    Calls Try.prog 15 #[.slice A n cap, .int .i64 i, .slice A' n' cap'] w fun e w' => RGraftRet (dat l) i (dat p) w' w.heap.size e ∧ Below w.heap.size w w' := by
  have hpl := wrong_any A cap n l hn hsz i w B hB hs
  obtain ⟨hf, h512, k, rfl, hk⟩ := wrong_zero hw0
  rw [hw0] at hpl
  have hl0 : 0 < p.length := by
    rcases Nat.eq_zero_or_pos p.length with h | h
    · rw [pieceB_no (by rw [dat_len]; exact h)] at hpb; cases hpb
    · exact h
  have hps := pieceB_some (l := dat p) (by rw [dat_len]; exact hl0)
  rw [hpb, dat_get p hl0] at hps
  have hps2 := hps.symm
  rw [Bool.and_eq_true, beq_iff_eq] at hps2
  obtain ⟨hnb, hc0⟩ := hps2
  obtain ⟨_, hp512, hpbd⟩ := piece_fine hc0
  have hge := graftE_ok hw0 hpb
  rw [Int.toNat_natCast] at hge
  have hend := endN_at hk
  have hgr : graftR (dat l) k (dat p) = if graftE (dat l) k (dat p) = 0 then graftF (dat l) k (dat p) (endN (dat l) k) else [] := rfl
  generalize endN (dat l) k = z at *
  rw [dat_len, ← hn] at h512 hk
  rw [dat_len, ← hn'] at hp512
  have hz1 := hend.lt
  have hz2 := hend.le
  rw [dat_len, ← hn] at hz2
  have hec := fun w1 (hb : Below w.heap.size w w1) => rend_any A cap n l hn h512 hf k z hend w1 B (Nat.le_trans hB hb.size) (hs.below (hb.mono hB))
  have htw := fun w1 (hb : Below w.heap.size w w1) => rtwin_any A cap n l hn hsz w1 B (Nat.le_trans hB hb.size) (hs.below (hb.mono hB))
  have htp := fun w1 (hb : Below w.heap.size w w1) => rtwin_any A' cap' n' p hn' hsz' w1 B (Nat.le_trans hB hb.size) (hs'.below (hb.mono hB))
  have hpc := fun w1 (hb : Below w.heap.size w w1) => piece_any A' cap' n' p hn' hsz' w1 B (Nat.le_trans hB hb.size) (hs'.below (hb.mono hB))
  rw [hpb] at hpc
  have hsd : ∀ lo : List Nm, dat lo = graftF (dat l) k (dat p) z → Sized lo := fun lo hd => by
    refine SizedD.mem ?_
    rw [hd]
    refine graft_sized hsz hsz' (by omega) (by omega) (by omega) (by omega) (fun x hx => ?_) (fun x hx => ?_)
    · obtain ⟨j, hj, rfl⟩ := List.mem_iff_getElem.1 hx
      have := fine_bd hf (by rw [dat_len]; omega) (j := j) (by rw [dat_len]; exact hj)
      rw [dat_get l hj] at this
      exact this
    · obtain ⟨j, hj, rfl⟩ := List.mem_iff_getElem.1 hx
      have := hpbd j (by rw [dat_len]; exact hj)
      rw [dat_get p hj] at this
      exact this
  have hlbd : ∀ j (h : j < (dat l).length), -1 ≤ (dat l)[j].p ∧ (dat l)[j].p ≤ 512 := fun j hj => fine_bd hf (by rw [dat_len]; omega) hj
  have hko : ∀ (A1 : Option Addr) (c1 : Nat) (lo : List Nm) (w1 : World) (N : Nat), N = lo.length → dat lo = graftF (dat l) k (dat p) z → Nodes w1 w1.heap.size A1 lo → Calls Try.prog 31 #[.slice A1 N c1] w1 fun e w' => e = .returned (.bool (graftE (dat l) k (dat p) == 0)) ∧ Below w1.heap.size w1 w' := fun A1 c1 lo w1 N h1 h2 h3 => by
    have := may_any A1 c1 N lo h1 (hsd lo h2) w1 w1.heap.size (Nat.le_refl _) h3
    rw [h2, ← hge] at this
    exact this
  have htwo : graftE (dat l) k (dat p) = 0 ∨ graftE (dat l) k (dat p) = 40 := by rw [hge]; exact check_two _
  have hgF : graftF (dat l) k (dat p) z = (dat l).take z ++ putF (dat p) k z ++ ((dat l).drop z).map (liftOne z n') := by unfold graftF; rw [dat_len, ← hn']
  have hdl : n = (dat l).length := by rw [dat_len]; exact hn
  have hdp : n' = (dat p).length := by rw [dat_len]; exact hn'
  have HPL := Lib.hid hpl
  have HEC := Lib.hid hec
  have HTW := Lib.hid htw
  have HTP := Lib.hid htp
  have HPC := Lib.hid hpc
  have HKO := Lib.hid hko
  have HTWO := Lib.hid htwo
  have HGF := Lib.hid hgF
  have HGR := Lib.hid hgr
  have HPB := Lib.hid hpbd
  have HLB := Lib.hid hlbd
  have HDL := Lib.hid hdl
  have HDP := Lib.hid hdp
  have hn0' : 0 < n' := by omega
  have hzn : (z : Int) ≤ (n : Int) := by omega
  have hz0i : (0 : Int) ≤ (z : Int) := by omega
  obtain ⟨i0, fi, fz0, fz1, fz2⟩ := info_parts Try.info30
  clear hpl hec htw htp hpc hko htwo hgF hgr hpbd hlbd hdl hdp hge hsd hn hsz hn' hsz' hs hs' hw0 hpb hps hnb hc0 hend hf hl0
  go_enter Try.func15, Try.ntmps15
  go_wp2_with (first
    | (at_builtin; refine wpList_append_seg _ rfl (.tmp 33) (.tmp 36) 22 rfl w5.heap.size 30 i0 _ 3 48 Try.underlying22 fi fz0 fz1 fz2 rfl (by decide) _ 0 [] rfl (World.ownsRow_nil _ _ _ _) w5.heap.size A4 z c4 (nmCells (l4.take z)) rfl ?_ (HO4.out.nodes.take z).seg (one_nm _) ?_ ?_ (Nat.le_refl _) ?_)
    | (go_at_call 6; refine (HTP.out _ HB4.out).mono ?_; rintro e w5 ⟨A5, c5, l5, rfl, hd5, ho5, hb5⟩
       have HO4 := Lib.hid (HO3.out.below hb5)
       have HO5 := Lib.hid (ho5.base_ HB4.out.size)
       have HD5 := Lib.hid hd5
       have HB5 := Lib.hid (HB4.out.trans (hb5.mono HB4.out.size))
       have hc4 := own_cap3 HO3.out.row
       have hzc4 : (z : Int) ≤ (c4 : Int) := by omega
       have hzc4' : z ≤ c4 := by omega
       clear hd5 ho5 hb5)
    | (go_at_call 6; refine (HTW.out _ HB3.out).mono ?_; rintro e w4 ⟨A4, c4, l4, rfl, hd4, ho4, hb4⟩
       have HO3 := Lib.hid (ho4.base_ HB3.out.size)
       have HD4 := Lib.hid hd4
       have HB4 := Lib.hid (HB3.out.trans (hb4.mono HB3.out.size))
       clear hd4 ho4 hb4)
    | (go_at_call 27; refine (HEC.out _ HB2.out).mono ?_; rintro e w3 ⟨rfl, hb3⟩; have HB3 := Lib.hid (HB2.out.trans (hb3.mono HB2.out.size)); clear hb3)
    | (go_at_call 30; refine (HPC.out _ HB1.out).mono ?_; rintro e w2 ⟨rfl, hb2⟩; have HB2 := Lib.hid (HB1.out.trans (hb2.mono HB1.out.size)); clear hb2)
    | (go_at_call 26; refine HPL.out.mono ?_; rintro e w1 ⟨rfl, hb1⟩; have HB1 := Lib.hid hb1; clear hb1))
  · rw [nmCells_len, List.length_take, ← HO4.out.len]; rw [Nat.min_eq_left (by omega)]
  · unfold maxLen; omega
  · omega
  intro v6 w6 hown6 hg6
  obtain ⟨A6, c6, rfl⟩ := own_shape hown6
  have hp6 : Picked w6 w5.heap.size A6 z c6 (l4.take z) (l4 ++ l5) := by
    refine ⟨by have := HO4.out.len; simp; omega, by simpa using hown6, fun x hx => ⟨x, List.mem_append_left _ (List.mem_of_mem_take hx), rfl, rfl⟩⟩
  have hd6 : dat (l4.take z) = (dat l).take z := by have := HD4.out; unfold dat at this ⊢; rw [List.map_take, this]
  have hb6 : Below w5.heap.size w5 w6 := (Below.refl _ _).grown hg6 (Nat.le_refl _) (fun g hg => by simp [Value.ownBlock] at hg)
  generalize l4.take z = l6 at hp6 hd6
  have HP6 := Lib.hid hp6
  have HD6 := Lib.hid hd6
  have HB6 := Lib.hid hb6
  clear hp6 hd6 hb6 hown6 hg6 HPL HEC HTW HTP HPC HO3 HB1 HB2 HB3 HB4
  go_wp2_with fail
  go_loopw [13, 10] (fun jv ov wr => ∃ (j : Nat) (Ao : Option Addr) (co : Nat) (lo : List Nm), j ≤ n' ∧ jv = .int .i64 j ∧ ov = .slice Ao (z + j) co ∧ Picked wr w5.heap.size Ao (z + j) co lo (l4 ++ l5) ∧ dat lo = (dat l).take z ++ putF ((dat p).take j) k z ∧ Below w5.heap.size w5 wr) (fun jv _ _ => n' - (intOf jv).toNat)
  case atStart => exact ⟨0, A6, c6, l6, by omega, rfl, rfl, HP6.out, by rw [HD6.out]; simp [putF], HB6.out⟩
  case round =>
    obtain ⟨j, Ao, co, lo, hj, rfl, rfl, hpk, hdo, hb⟩ := hrel
    have HPK := Lib.hid hpk
    have HDO := Lib.hid hdo
    have HB := Lib.hid hb
    clear HP6 HD6 HB6 hpk hdo hb
    by_cases hjn : j < n'
    · have hjl : j < l5.length := by rw [← HO5.out.len]; exact hjn
      have hji : (j : Int) < (n' : Int) := by omega
      have hjd : j < (dat p).length := by rw [← HDP.out]; exact hjn
      obtain ⟨b, off, rfl, _, x0, x1, x2, _⟩ := (HO5.out.nodes.below HB.out).at_ hjl
      have hxd : l5[j].d = (dat p)[j] := by
        have e1 := dat_at hjl
        rw [HD5.out, List.getElem?_eq_getElem hjd] at e1
        exact (Option.some.inj e1).symm
      have hmem : l5[j] ∈ l4 ++ l5 := List.mem_append_right _ (List.getElem_mem hjl)
      have hbd := HPB.out j hjd
      have hpt := put_take (p := dat p) (at_ := (k : Int)) (z := z) hjd
      rw [← hxd] at hbd hpt
      generalize l5[j] = x at *
      obtain ⟨⟨P, s, ps⟩, xA, xc⟩ := x
      simp only at x0 x1 x2 hbd
      obtain ⟨hP1, hP2⟩ := hbd
      have hsP : ∀ (q : Nd), q.ps = ps → q.n = s → ∀ (lq : List Nm) (Aq Aq' : Option Addr) (nq cq cq' : Nat) (wq wq' : World), Picked wq w5.heap.size Aq nq cq lq (l4 ++ l5) → wq'.ownsRow w5.heap.size 30 3 (.slice Aq' (nq + 1) cq') (nq + 1) (nmCells lq ++ [.int .i64 q.p, .string s, .slice xA ps.length xc]) →
          Picked wq' w5.heap.size Aq' (nq + 1) cq' (lq ++ [⟨q, xA, xc⟩]) (l4 ++ l5) := fun q e1 e2 lq Aq Aq' nq cq cq' wq wq' h1 h2 =>
        h1.snoc (x := ⟨q, xA, xc⟩) hmem rfl e1 (by unfold Nm.cells; simp only [e1, e2]; exact h2)
      obtain ⟨m, hm⟩ : ∃ m, m = ps.length := ⟨_, rfl⟩
      simp only [← hm] at x2 hsP
      have HSP := Lib.hid hsP
      clear hsP hm hmem
      have HPT := Lib.hid hpt
      clear hpt hxd
      by_cases hj0 : j = 0
      · have e1 : ((j : Int) == 0) = true := by rw [beq_iff_eq]; omega
        have hone : Nd.par ⟨P, s, ps⟩ (if j = 0 then (k : Int) else P + z) = ⟨(k : Int), s, ps⟩ := by rw [if_pos hj0]; rfl
        clear hj0
        have q5 : Below wr.heap.size wr (wr.alloc (.cells #[.int .i64 (k : Int), .string s, .slice xA m xc] 30)) := (Below.refl _ wr).alloc (Nat.le_refl _) _
        have q6 : (wr.alloc (.cells #[.int .i64 (k : Int), .string s, .slice xA m xc] 30)).heap.size = wr.heap.size + 1 := by simp
        have hk1 := HPK.out.keep (w' := (wr.alloc (.cells #[.int .i64 (k : Int), .string s, .slice xA m xc] 30))) (fun g _ hlt => q5.block g hlt)
        have H1 := Lib.hid hk1
        have H5 := Lib.hid q5
        clear hk1 q5
        go_wp2_with (first
          | (at_builtin; refine wpList_push rfl (.tmp 57) (.tmp 59) 22 rfl w5.heap.size 30 i0 _ 3 48 Try.underlying22 fi fz0 fz1 fz2 rfl (by decide) _ (z + j) (nmCells lo) rfl H1.out.row #[.int .i64 (k : Int), .string s, .slice xA m xc] (by rw [q6]; rfl) rfl ?_ ?_ ?_ ?_ ?_))
        · first | exact ⟨rfl, rfl, rfl⟩ | (intro u hu; simp at hu; rcases hu with rfl | rfl | rfl <;> rfl)
        · unfold maxLen; omega
        · omega
        · have := HB.out.size; first | omega | (simp; omega)
        intro A9 c9 w9 hown9 hp9
        have hnew := HSP.out ⟨(k : Int), s, ps⟩ rfl rfl lo Ao A9 (z + j) co c9 _ w9 H1.out (by simpa using hown9)
        have hb9 : Below w5.heap.size w5 w9 := (HB.out.trans (H5.out.mono HB.out.size)).trans hp9.low
        have hd9 : dat (lo ++ [⟨⟨(k : Int), s, ps⟩, xA, xc⟩]) = (dat l).take z ++ putF ((dat p).take (j + 1)) k z := by
          rw [HPT.out, hone, ← List.append_assoc, ← HDO.out]
          simp [dat]
        have HN9 := Lib.hid hnew
        have HB9 := Lib.hid hb9
        have HD9 := Lib.hid hd9
        clear hnew hb9 hd9 hown9 hp9
        go_wp2_with fail
        exact ⟨⟨j + 1, A9, c9, _, by omega, by go_num, rfl, HN9.out, HD9.out, HB9.out⟩, by simp [intOf]; omega⟩
      · have e1 : ((j : Int) == 0) = false := by rw [beq_eq_false_iff_ne]; omega
        have hone : Nd.par ⟨P, s, ps⟩ (if j = 0 then (k : Int) else P + z) = ⟨P + z, s, ps⟩ := by rw [if_neg hj0]; rfl
        have q5 : Below wr.heap.size wr (wr.alloc (.cells #[.int .i64 (P + z), .string s, .slice xA m xc] 30)) := (Below.refl _ wr).alloc (Nat.le_refl _) _
        have q6 : (wr.alloc (.cells #[.int .i64 (P + z), .string s, .slice xA m xc] 30)).heap.size = wr.heap.size + 1 := by simp
        have hk1 := HPK.out.keep (w' := (wr.alloc (.cells #[.int .i64 (P + z), .string s, .slice xA m xc] 30))) (fun g _ hlt => q5.block g hlt)
        have H1 := Lib.hid hk1
        have H5 := Lib.hid q5
        clear hk1 q5
        go_wp2_with (first
          | (at_builtin; refine wpList_push rfl (.tmp 57) (.tmp 59) 22 rfl w5.heap.size 30 i0 _ 3 48 Try.underlying22 fi fz0 fz1 fz2 rfl (by decide) _ (z + j) (nmCells lo) rfl H1.out.row #[.int .i64 (P + z), .string s, .slice xA m xc] (by rw [q6]; rfl) rfl ?_ ?_ ?_ ?_ ?_))
        · first | exact ⟨rfl, rfl, rfl⟩ | (intro u hu; simp at hu; rcases hu with rfl | rfl | rfl <;> rfl)
        · unfold maxLen; omega
        · omega
        · have := HB.out.size; first | omega | (simp; omega)
        intro A9 c9 w9 hown9 hp9
        have hnew := HSP.out ⟨(P + z), s, ps⟩ rfl rfl lo Ao A9 (z + j) co c9 _ w9 H1.out (by simpa using hown9)
        have hb9 : Below w5.heap.size w5 w9 := (HB.out.trans (H5.out.mono HB.out.size)).trans hp9.low
        have hd9 : dat (lo ++ [⟨⟨P + z, s, ps⟩, xA, xc⟩]) = (dat l).take z ++ putF ((dat p).take (j + 1)) k z := by
          rw [HPT.out, hone, ← List.append_assoc, ← HDO.out]
          simp [dat]
        have HN9 := Lib.hid hnew
        have HB9 := Lib.hid hb9
        have HD9 := Lib.hid hd9
        clear hnew hb9 hd9 hown9 hp9
        go_wp2_with fail
        exact ⟨⟨j + 1, A9, c9, _, by omega, by go_num, rfl, HN9.out, HD9.out, HB9.out⟩, by simp [intOf]; omega⟩
    obtain rfl : j = n' := by omega
    have hdq : dat lo = (dat l).take z ++ putF (dat p) k z := by
      rw [HDO.out, List.take_of_length_le (l := dat p) (by rw [← HDP.out]; exact Nat.le_refl _)]
    have HDQ := Lib.hid hdq
    obtain ⟨q, hq⟩ : ∃ q, q = z + j := ⟨_, rfl⟩
    have hq5 : q ≤ 1024 := by omega
    rw [← hq] at HPK ⊢
    have HPK0 := HPK
    have HBQ := HB
    obtain ⟨wm, hwm⟩ : ∃ wm, wm = wr := ⟨_, rfl⟩
    subst hwm
    clear hdq HDO hq HPK HB
    go_wp2_with fail
    go_loopw [15, 10] (fun jv ov wr => ∃ (t u : Nat) (Ao : Option Addr) (co : Nat) (lo : List Nm), z ≤ t ∧ t ≤ n ∧ u + z = q + t ∧ jv = .int .i64 t ∧ ov = .slice Ao u co ∧ Picked wr w5.heap.size Ao u co lo (l4 ++ l5) ∧ dat lo = (dat l).take z ++ putF (dat p) k z ++ (((dat l).drop z).take (t - z)).map (liftOne z j) ∧ Below w5.heap.size w5 wr) (fun jv _ _ => n - (intOf jv).toNat)
    case atStart => exact ⟨z, q, Ao, co, lo, Nat.le_refl _, by omega, rfl, rfl, rfl, HPK0.out, by rw [HDQ.out]; simp, HBQ.out⟩
    case round =>
      obtain ⟨t, u, Ai, ci, li, hzt, htn, hu, rfl, rfl, hpk, hdo, hb⟩ := hrel
      have HPK := Lib.hid hpk
      have HDO := Lib.hid hdo
      have HB := Lib.hid hb
      have HU := Lib.hid hu
      have hu5 : u ≤ 2048 := by omega
      clear HPK0 HDQ HBQ hpk hdo hb hu
      by_cases hin : t < n
      · have hjl : t < l4.length := by rw [← HO4.out.len]; exact hin
        have hji : (t : Int) < (n : Int) := by omega
        have hjd : t < (dat l).length := by rw [← HDL.out]; exact hin
        have hid : t - z < ((dat l).drop z).length := by simp; omega
        obtain ⟨b, off, rfl, _, x0, x1, x2, _⟩ := (HO4.out.nodes.below HB.out).at_ hjl
        have hxd : l4[t].d = (dat l)[t] := by
          have e1 := dat_at hjl
          rw [HD4.out, List.getElem?_eq_getElem hjd] at e1
          exact (Option.some.inj e1).symm
        have hmem : l4[t] ∈ l4 ++ l5 := List.mem_append_left _ (List.getElem_mem hjl)
        have hbd := HLB.out t hjd
        have hpt : (((dat l).drop z).take (t + 1 - z)).map (liftOne z j) = (((dat l).drop z).take (t - z)).map (liftOne z j) ++ [liftOne z j (dat l)[t]] := by
          rw [show t + 1 - z = (t - z) + 1 by omega, take_snoc hid, List.map_append]
          simp only [List.map_cons, List.map_nil, List.getElem_drop]
          congr 3
          simp only [show z + (t - z) = t by omega]
        rw [← hxd] at hbd hpt
        generalize l4[t] = x at *
        obtain ⟨⟨P, s, ps⟩, xA, xc⟩ := x
        simp only at x0 x1 x2 hbd
        obtain ⟨hP1, hP2⟩ := hbd
        have hsP : ∀ (q : Nd), q.ps = ps → q.n = s → ∀ (lq : List Nm) (Aq Aq' : Option Addr) (nq cq cq' : Nat) (wq wq' : World), Picked wq w5.heap.size Aq nq cq lq (l4 ++ l5) → wq'.ownsRow w5.heap.size 30 3 (.slice Aq' (nq + 1) cq') (nq + 1) (nmCells lq ++ [.int .i64 q.p, .string s, .slice xA ps.length xc]) →
            Picked wq' w5.heap.size Aq' (nq + 1) cq' (lq ++ [⟨q, xA, xc⟩]) (l4 ++ l5) := fun q e1 e2 lq Aq Aq' nq cq cq' wq wq' h1 h2 =>
          h1.snoc (x := ⟨q, xA, xc⟩) hmem rfl e1 (by unfold Nm.cells; simp only [e1, e2]; exact h2)
        obtain ⟨m, hm⟩ : ∃ m, m = ps.length := ⟨_, rfl⟩
        simp only [← hm] at x2 hsP
        have HSP := Lib.hid hsP
        clear hsP hm hmem
        have HPT := Lib.hid hpt
        clear hpt hxd
        by_cases hzP : (z : Int) ≤ P
        · have e1 : decide ((z : Int) ≤ P) = true := by simpa using hzP
          have hone : liftOne z j ⟨P, s, ps⟩ = ⟨P + j, s, ps⟩ := by unfold liftOne; rw [if_pos hzP]; rfl
          have q5 : Below wr.heap.size wr (wr.alloc (.cells #[.int .i64 (P + j), .string s, .slice xA m xc] 30)) := (Below.refl _ wr).alloc (Nat.le_refl _) _
          have q6 : (wr.alloc (.cells #[.int .i64 (P + j), .string s, .slice xA m xc] 30)).heap.size = wr.heap.size + 1 := by simp
          have hk1 := HPK.out.keep (w' := (wr.alloc (.cells #[.int .i64 (P + j), .string s, .slice xA m xc] 30))) (fun g _ hlt => q5.block g hlt)
          have H1 := Lib.hid hk1
          have H5 := Lib.hid q5
          clear hk1 q5
          go_wp2_with (first
            | (at_builtin; refine wpList_push rfl (.tmp 82) (.tmp 84) 22 rfl w5.heap.size 30 i0 _ 3 48 Try.underlying22 fi fz0 fz1 fz2 rfl (by decide) _ u (nmCells li) rfl H1.out.row #[.int .i64 (P + j), .string s, .slice xA m xc] (by rw [q6]; rfl) rfl ?_ ?_ ?_ ?_ ?_))
          · first | exact ⟨rfl, rfl, rfl⟩ | (intro u hu; simp at hu; rcases hu with rfl | rfl | rfl <;> rfl)
          · unfold maxLen; omega
          · omega
          · have := HB.out.size; first | omega | (simp; omega)
          intro A9 c9 w9 hown9 hp9
          have hnew := HSP.out ⟨(P + j), s, ps⟩ rfl rfl li Ai A9 u ci c9 _ w9 H1.out (by simpa using hown9)
          have hb9 : Below w5.heap.size w5 w9 := (HB.out.trans (H5.out.mono HB.out.size)).trans hp9.low
          have hd9 : dat (li ++ [⟨⟨P + j, s, ps⟩, xA, xc⟩]) = (dat l).take z ++ putF (dat p) k z ++ (((dat l).drop z).take (t + 1 - z)).map (liftOne z j) := by
            rw [HPT.out, hone, ← List.append_assoc, ← HDO.out]
            simp [dat]
          have HN9 := Lib.hid hnew
          have HB9 := Lib.hid hb9
          have HD9 := Lib.hid hd9
          clear hnew hb9 hd9 hown9 hp9
          go_wp2_with fail
          exact ⟨⟨t + 1, u + 1, A9, c9, _, by omega, by omega, by have := HU.out; omega, by go_num, rfl, HN9.out, HD9.out, HB9.out⟩, by simp [intOf]; omega⟩
        · have e1 : decide ((z : Int) ≤ P) = false := by simpa using hzP
          have hone : liftOne z j ⟨P, s, ps⟩ = ⟨P, s, ps⟩ := by unfold liftOne; rw [if_neg hzP]
          have q5 : Below wr.heap.size wr (wr.alloc (.cells #[.int .i64 P, .string s, .slice xA m xc] 30)) := (Below.refl _ wr).alloc (Nat.le_refl _) _
          have q6 : (wr.alloc (.cells #[.int .i64 P, .string s, .slice xA m xc] 30)).heap.size = wr.heap.size + 1 := by simp
          have hk1 := HPK.out.keep (w' := (wr.alloc (.cells #[.int .i64 P, .string s, .slice xA m xc] 30))) (fun g _ hlt => q5.block g hlt)
          have H1 := Lib.hid hk1
          have H5 := Lib.hid q5
          clear hk1 q5
          go_wp2_with (first
            | (at_builtin; refine wpList_push rfl (.tmp 82) (.tmp 84) 22 rfl w5.heap.size 30 i0 _ 3 48 Try.underlying22 fi fz0 fz1 fz2 rfl (by decide) _ u (nmCells li) rfl H1.out.row #[.int .i64 P, .string s, .slice xA m xc] (by rw [q6]; rfl) rfl ?_ ?_ ?_ ?_ ?_))
          · first | exact ⟨rfl, rfl, rfl⟩ | (intro u hu; simp at hu; rcases hu with rfl | rfl | rfl <;> rfl)
          · unfold maxLen; omega
          · omega
          · have := HB.out.size; first | omega | (simp; omega)
          intro A9 c9 w9 hown9 hp9
          have hnew := HSP.out ⟨P, s, ps⟩ rfl rfl li Ai A9 u ci c9 _ w9 H1.out (by simpa using hown9)
          have hb9 : Below w5.heap.size w5 w9 := (HB.out.trans (H5.out.mono HB.out.size)).trans hp9.low
          have hd9 : dat (li ++ [⟨⟨P, s, ps⟩, xA, xc⟩]) = (dat l).take z ++ putF (dat p) k z ++ (((dat l).drop z).take (t + 1 - z)).map (liftOne z j) := by
            rw [HPT.out, hone, ← List.append_assoc, ← HDO.out]
            simp [dat]
          have HN9 := Lib.hid hnew
          have HB9 := Lib.hid hb9
          have HD9 := Lib.hid hd9
          clear hnew hb9 hd9 hown9 hp9
          go_wp2_with fail
          exact ⟨⟨t + 1, u + 1, A9, c9, _, by omega, by omega, by have := HU.out; omega, by go_num, rfl, HN9.out, HD9.out, HB9.out⟩, by simp [intOf]; omega⟩
      obtain rfl : t = n := by omega
      have hdF : dat li = graftF (dat l) k (dat p) z := by
        rw [HDO.out, HGF.out, List.take_of_length_le (l := (dat l).drop z) (by simp; have := HDL.out; omega)]
      have hlo : NodesL wr w.heap.size Ai u li := HPK.out.low2 (w1 := w5) (B1 := w5.heap.size) (fun y hy => by
        rcases List.mem_append.1 hy with hy | hy
        · exact ⟨own_seg (HO4.out.props y hy), low_own (HO4.out.props y hy)⟩
        · exact ⟨own_seg (HO5.out.props y hy), low_own (HO5.out.props y hy)⟩) HB.out (Nat.le_refl _) HB5.out.size
      have HLO := Lib.hid hlo
      have HDF := Lib.hid hdF
      clear hdF hlo
      rcases HTWO.out with hE | hE
      · have hko2 := HKO.out
        rw [hE] at hko2
        have HK2 := Lib.hid hko2
        have HE := Lib.hid hE
        clear hko2 hE HKO
        go_wp2_with (first
          | (go_at_call 31; refine (HK2.out _ _ li _ _ HLO.out.len HDF.out HLO.out.nodes).mono ?_; rintro e w11 ⟨rfl, hb11⟩; have HO11 := Lib.hid (HLO.out.below hb11); have HB11 := Lib.hid (HB5.out.trans ((HB.out.trans (hb11.mono HB.out.size)).mono HB5.out.size)); clear hb11))
        go_ret2
        refine ⟨⟨Ai, u, ci, li, by rw [HE.out]; rfl, HO11.out, ?_⟩, HB11.out⟩
        rw [HGR.out, if_pos HE.out]
        exact HDF.out
      · have hko2 := HKO.out
        rw [hE] at hko2
        have HK2 := Lib.hid hko2
        have hfin := fun w' => rgraftret_no (w' := w') (base := w.heap.size) (show (40 : Int) ≠ 0 by omega) hE.symm
        have HF := Lib.hid hfin
        clear hko2 hE HKO hfin
        go_wp2_with (first
          | (go_at_call 31; refine (HK2.out _ _ li _ _ HLO.out.len HDF.out HLO.out.nodes).mono ?_; rintro e w11 ⟨rfl, hb11⟩; have HB11 := Lib.hid (HB5.out.trans ((HB.out.trans (hb11.mono HB.out.size)).mono HB5.out.size)); clear hb11))
        go_ret2
        exact ⟨HF.out _, HB11.out⟩
end Go.Proofs.Ytmdnbajbfnhecaa
