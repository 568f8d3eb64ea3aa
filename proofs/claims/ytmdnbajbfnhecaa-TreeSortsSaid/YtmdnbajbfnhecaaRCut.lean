/- The document's Cut: the contract. -/
import Derived.Test.YtmdnbajbfnhecaaLow
import Derived.Test.YtmdnbajbfnhecaaPlace
set_option linter.unusedVariables false
namespace Go.Proofs.Ytmdnbajbfnhecaa
open Go.RowKit
set_option maxRecDepth 100000 in
set_option maxHeartbeats 8000000 in
theorem rcut_any (A : Option Addr) (cap n : Nat) (l : List Nm) (hn : n = l.length) (hsz : Sized l) (i : Int) (w : World) (B : Nat) (hB : B ≤ w.heap.size) (hs : Nodes w B A l) :
    Calls Try.prog 12 #[.slice A n cap, .int .i64 i] w fun e w' => RCutRet (dat l) i w' w.heap.size e ∧ Below w.heap.size w w' := by
  have hpl := wrong_any A cap n l hn hsz i w B hB hs
  by_cases h0 : cutE (dat l) i = 0
  case neg =>
    by_cases hw0 : wrongF (dat l) i = 0
    · have hi0 : i = 0 := by
        unfold cutE at h0
        by_cases hi : i = 0
        · exact hi
        · rw [if_neg (by simp [hi])] at h0
          exact absurd hw0 h0
      subst hi0
      have he : (1 : Int) = cutE (dat l) 0 := by unfold cutE; rw [if_pos ⟨hw0, rfl⟩]
      have hfin := fun w' => rcutret_no (w' := w') (base := w.heap.size) h0 he
      rw [hw0] at hpl
      have HP := Lib.hid hpl
      have HF := Lib.hid hfin
      clear hpl hfin hn hsz hs he hw0 h0
      go_enter Try.func12, Try.ntmps12
      go_wp2_with (first
        | (go_at_call 26; refine HP.out.mono ?_; rintro e w1 ⟨rfl, hb1⟩; have HB1 := Lib.hid hb1; clear hb1))
      go_ret3
      exact ⟨HF.out _, HB1.out⟩
    · have he : wrongF (dat l) i = cutE (dat l) i := by unfold cutE; rw [if_neg (by simp [hw0])]
      have hfin := fun w' => rcutret_no (w' := w') (base := w.heap.size) h0 he
      generalize wrongF (dat l) i = e0 at *
      have e1 : (e0 != 0) = true := by simpa using hw0
      have e2 : (e0 == 0) = false := by simpa using hw0
      have HP := Lib.hid hpl
      have HF := Lib.hid hfin
      clear hpl hfin hn hsz hs he hw0 h0
      go_enter Try.func12, Try.ntmps12
      go_wp2_with (first
        | (go_at_call 26; refine HP.out.mono ?_; rintro e w1 ⟨rfl, hb1⟩; have HB1 := Lib.hid hb1; clear hb1))
      go_ret3
      exact ⟨HF.out _, HB1.out⟩
  have hw0 : wrongF (dat l) i = 0 := by
    unfold cutE at h0
    split at h0
    · cases h0
    · exact h0
  obtain ⟨hf, h512, k, rfl, hk⟩ := wrong_zero hw0
  have hk0 : k ≠ 0 := by
    rintro rfl
    unfold cutE at h0
    rw [if_pos ⟨hw0, rfl⟩] at h0
    cases h0
  rw [hw0] at hpl
  have hend := endN_at hk
  have hR : cutR (dat l) k = restF (dat l) k (endN (dat l) k) := by unfold cutR; rw [if_pos h0]; rfl
  have hP : cutP (dat l) k = pieceF (dat l) k (endN (dat l) k) := by unfold cutP; rw [if_pos h0]; rfl
  generalize endN (dat l) k = z at *
  rw [dat_len, ← hn] at h512 hk
  have hz1 := hend.lt
  have hz2 := hend.le
  rw [dat_len, ← hn] at hz2
  have hec := fun w1 (hb : Below w.heap.size w w1) => rend_any A cap n l hn h512 hf k z hend w1 B (Nat.le_trans hB hb.size) (hs.below (hb.mono hB))
  have htw := fun w1 (hb : Below w.heap.size w w1) => rtwin_any A cap n l hn hsz w1 B (Nat.le_trans hB hb.size) (hs.below (hb.mono hB))
  have HPL := Lib.hid hpl
  have HEC := Lib.hid hec
  have HTW := Lib.hid htw
  have HN := Lib.hid hn
  have HF := Lib.hid hf
  have HR := Lib.hid hR
  have HP := Lib.hid hP
  have HE0 := Lib.hid h0
  have HEND := Lib.hid hend
  have hki : (k : Int) < (n : Int) := by omega
  have e0 : ((k : Int) == 0) = false := by rw [beq_eq_false_iff_ne]; omega
  clear hpl hec htw hn hs hsz hf hR hP h0 hend hw0
  obtain ⟨i0, fi, fz0, fz1, fz2⟩ := info_parts Try.info30
  go_enter Try.func12, Try.ntmps12
  go_wp2_with (first
    | (go_at_call 26; refine HPL.out.mono ?_; rintro e w1 ⟨rfl, hb1⟩; have HB1 := Lib.hid hb1; clear hb1)
    | (go_at_call 27; refine (HEC.out _ HB1.out).mono ?_; rintro e w2 ⟨rfl, hb2⟩; have HB2 := Lib.hid (HB1.out.trans (hb2.mono HB1.out.size)); clear hb2)
    | (go_at_call 6; refine (HTW.out _ HB2.out).mono ?_; rintro e w3 ⟨A3, c3, l3, rfl, hd3, ho3, hb3⟩; have HB3 := Lib.hid (HB2.out.trans (hb3.mono HB2.out.size)); have HO3 := Lib.hid (ho3.base_ HB2.out.size); have HD3 := Lib.hid hd3; clear hb3 hd3 ho3))
  clear HPL HEC HTW
  go_loopw [12, 10, 11] (fun jv rv pv wr => ∃ (j : Nat) (Ar Ap : Option Addr) (r cr p cp : Nat) (lr lp : List Nm), j ≤ n ∧ jv = .int .i64 j ∧ rv = .slice Ar r cr ∧ pv = .slice Ap p cp ∧ r + p = j ∧
    Picked wr w3.heap.size Ar r cr lr l3 ∧ Picked wr w3.heap.size Ap p cp lp l3 ∧ (∀ g, (Value.slice Ar r cr).ownBlock = some g → (Value.slice Ap p cp).ownBlock ≠ some g) ∧
    dat lr = restF ((dat l).take j) k z ∧ dat lp = pieceF ((dat l).take j) k z ∧ Below w3.heap.size w3 wr) (fun jv _ _ _ => n - (intOf jv).toNat)
  case atStart =>
    refine ⟨0, none, none, 0, 0, 0, 0, [], [], by omega, rfl, rfl, rfl, rfl, ⟨rfl, World.ownsRow_nil _ _ _ _, by simp⟩, ⟨rfl, World.ownsRow_nil _ _ _ _, by simp⟩, by simp [Value.ownBlock], by simp [restF, dat], by simp [pieceF, dat], Below.refl _ _⟩
  case round =>
    obtain ⟨j, Ar, Ap, r, cr, p, cp, lr, lp, hj, rfl, rfl, rfl, hrp, hr, hp, hap, hdr, hdp, hb⟩ := hrel
    have HRK := Lib.hid hr
    have HPK := Lib.hid hp
    have HAP := Lib.hid hap
    have HDR := Lib.hid hdr
    have HDP := Lib.hid hdp
    have HB := Lib.hid hb
    clear hr hp hap hdr hdp hb
    by_cases hjn : j < n
    case neg =>
      obtain rfl : j = n := by omega
      have hret : RCutRet (dat l) k wr w.heap.size (.returned (.tuple #[.slice Ar r cr, .slice Ap p cp, .int .i64 0])) := by
        have e1 : (dat l).take j = dat l := List.take_of_length_le (by rw [dat_len, ← HN.out]; exact Nat.le_refl _)
        refine ⟨Ar, r, cr, lr, Ap, p, cp, lp, by rw [HE0.out], HRK.out.lowN HO3.out.lowN HB.out HB3.out.size, HPK.out.lowN HO3.out.lowN HB.out HB3.out.size, ?_, ?_⟩
        · rw [HDR.out, HR.out, e1]
        · rw [HDP.out, HP.out, e1]
      have HRET := Lib.hid hret
      clear hret
      go_wp2
      go_ret3
      exact ⟨HRET.out, HB3.out.trans (HB.out.mono HB3.out.size)⟩
    have hjl : j < l3.length := by rw [← HO3.out.len]; exact hjn
    have hji : (j : Int) < (n : Int) := by omega
    have hjd : j < (dat l).length := by rw [dat_len, ← HN.out]; exact hjn
    obtain ⟨b, off, rfl, _, x0, x1, x2, _⟩ := (HO3.out.nodes.below HB.out).at_ hjl
    have hxd : l3[j].d = (dat l)[j] := by
      have e1 : (dat l3)[j]? = some l3[j].d := by unfold dat; rw [List.getElem?_map, List.getElem?_eq_getElem hjl]; rfl
      rw [HD3.out, List.getElem?_eq_getElem hjd] at e1
      exact (Option.some.inj e1).symm
    have hmem := List.getElem_mem hjl
    have hbd := fine_par HF.out hjd hjd
    have hund : k < j → j < z → (k : Int) ≤ l3[j].d.p := fun h1 h2 => by
      have := HEND.out.under j h1 h2
      unfold parAt at this
      rw [Int.toNat_natCast, List.getElem?_eq_getElem hjd] at this
      rw [hxd]; exact this
    unfold parAt at hbd
    rw [Int.toNat_natCast, List.getElem?_eq_getElem hjd] at hbd
    simp only [← hxd] at hbd
    have hro := restF_out (l := dat l) (i := k) (z := z) hjd hz1
    have hri := restF_in (l := dat l) (i := k) (z := z) hjd hz1
    have hpo := pieceF_out (l := dat l) (i := k) (z := z) hjd hz1
    have hpi := pieceF_in (l := dat l) (i := k) (z := z) hjd hz1
    rw [← hxd] at hro hpi
    generalize l3[j] = x at *
    obtain ⟨⟨P, s, ps⟩, xA, xc⟩ := x
    simp only at x0 x1 x2 hbd hund
    obtain ⟨hP1, hP2, _⟩ := hbd
    have hP5 : P ≤ 512 := by omega
    have hsP : ∀ (q : Nd), q.ps = ps → q.n = s → ∀ (lq : List Nm) (Aq Aq' : Option Addr) (nq cq cq' : Nat) (wq wq' : World), Picked wq w3.heap.size Aq nq cq lq l3 → wq'.ownsRow w3.heap.size 30 3 (.slice Aq' (nq + 1) cq') (nq + 1) (nmCells lq ++ [.int .i64 q.p, .string s, .slice xA ps.length xc]) →
        Picked wq' w3.heap.size Aq' (nq + 1) cq' (lq ++ [⟨q, xA, xc⟩]) l3 := fun q e1 e2 lq Aq Aq' nq cq cq' wq wq' h1 h2 =>
      h1.snoc (x := ⟨q, xA, xc⟩) hmem rfl e1 (by unfold Nm.cells; simp only [e1, e2]; exact h2)
    obtain ⟨m, hm⟩ : ∃ m, m = ps.length := ⟨_, rfl⟩
    simp only [← hm] at x2 hsP
    have HSP := Lib.hid hsP
    have HRO := Lib.hid hro
    have HRI := Lib.hid hri
    have HPO := Lib.hid hpo
    have HPI := Lib.hid hpi
    have HUND := Lib.hid hund
    clear hsP hro hri hpo hpi hund hm hxd hmem
    by_cases hjk : j = k
    · have e1 : ((j : Int) == (k : Int)) = true := by rw [beq_iff_eq]; omega
      have hcase : k ≤ j ∧ j < z := ⟨by omega, by omega⟩
      have hone : (⟨-1, s, ps⟩ : Nd) = Nd.par ⟨P, s, ps⟩ (if j = k then -1 else P - k) := by rw [if_pos hjk]; rfl
      clear hjk
      have q5 : Below wr.heap.size wr (wr.alloc (.cells #[.int .i64 (-1), .string s, .slice xA m xc] 30)) := (Below.refl _ wr).alloc (Nat.le_refl _) _
      have q6 : (wr.alloc (.cells #[.int .i64 (-1), .string s, .slice xA m xc] 30)).heap.size = wr.heap.size + 1 := by simp
      have hk1 := HRK.out.keep (w' := (wr.alloc (.cells #[.int .i64 (-1), .string s, .slice xA m xc] 30))) (fun g _ hlt => q5.block g hlt)
      have hk2 := HPK.out.keep (w' := (wr.alloc (.cells #[.int .i64 (-1), .string s, .slice xA m xc] 30))) (fun g _ hlt => q5.block g hlt)
      have H1 := Lib.hid hk1
      have H2 := Lib.hid hk2
      have H5 := Lib.hid q5
      have HLT1 := Lib.hid (fun g hg => (HRK.out.row.lt g hg).2)
      have HLT2 := Lib.hid (fun g hg => (HPK.out.row.lt g hg).2)
      clear hk1 hk2 q5
      go_wp2_with (first
        | (at_builtin; refine wpList_push2 rfl (.tmp 61) (.tmp 63) 22 rfl w3.heap.size 30 i0 _ 3 48 Try.underlying22 fi fz0 fz1 fz2 rfl (by decide) _ p (nmCells lp) rfl H2.out.row #[.int .i64 (-1), .string s, .slice xA m xc] (by rw [q6]; rfl) rfl ?_ ?_ ?_ ?_ ?_))
      · first | exact ⟨rfl, rfl, rfl⟩ | (intro u hu; simp at hu; rcases hu with rfl | rfl | rfl <;> rfl)
      · unfold maxLen; omega
      · omega
      · have := HB.out.size; first | omega | (simp; omega)
      intro A9 c9 w9 hown9 hp9 hid9
      have hnew := HSP.out ⟨(-1), s, ps⟩ rfl rfl lp Ap A9 p cp c9 _ w9 H2.out (by simpa using hown9)
      have hold := H1.out.keep (w' := w9) (fun g hg hlt => hp9.row g hlt (HAP.out g hg))
      have hap9 : ∀ g, (Value.slice Ar r cr).ownBlock = some g → (Value.slice A9 (p + 1) c9).ownBlock ≠ some g := fun g hg e => by
        rcases hid9 g e with h | h
        · exact HAP.out g hg h
        · have := HLT1.out g hg; first | omega | (rw [q6] at h; omega) | (simp at h; omega)
      have hb9 : Below w3.heap.size w3 w9 := (HB.out.trans (H5.out.mono HB.out.size)).trans hp9.low
      have hd1 : dat (lp ++ [⟨⟨(-1), s, ps⟩, xA, xc⟩]) = pieceF ((dat l).take (j + 1)) k z := by
        rw [HPI.out hcase.1 hcase.2, ← HDP.out, ← hone]
        simp [dat]
      have hd2 : dat lr = restF ((dat l).take (j + 1)) k z := by rw [HRI.out hcase.1 hcase.2]; exact HDR.out
      have HN9 := Lib.hid hnew
      have HO9 := Lib.hid hold
      have HA9 := Lib.hid hap9
      have HD1 := Lib.hid hd1
      have HD2 := Lib.hid hd2
      have HB9 := Lib.hid hb9
      clear hnew hold hap9 hd1 hd2 hb9 hown9 hp9 hid9
      go_wp2_with fail
      exact ⟨⟨j + 1, Ar, A9, r, cr, p + 1, c9, lr, _, by omega, by go_num, rfl, rfl, by omega, HO9.out, HN9.out, HA9.out, HD2.out, HD1.out, HB9.out⟩, by simp [intOf]; omega⟩
    have e1 : ((j : Int) == (k : Int)) = false := by rw [beq_eq_false_iff_ne]; omega
    by_cases hin : k < j ∧ j < z
    · have e2 : decide ((k : Int) < (j : Int)) = true := by simp; omega
      have e3 : decide ((j : Int) < (z : Int)) = true := by simp; omega
      have hu := HUND.out hin.1 hin.2
      have hcase : k ≤ j ∧ j < z := ⟨by omega, hin.2⟩
      have hone : (⟨P - k, s, ps⟩ : Nd) = Nd.par ⟨P, s, ps⟩ (if j = k then -1 else P - k) := by rw [if_neg hjk]; rfl
      have q5 : Below wr.heap.size wr (wr.alloc (.cells #[.int .i64 (P - k), .string s, .slice xA m xc] 30)) := (Below.refl _ wr).alloc (Nat.le_refl _) _
      have q6 : (wr.alloc (.cells #[.int .i64 (P - k), .string s, .slice xA m xc] 30)).heap.size = wr.heap.size + 1 := by simp
      have hk1 := HRK.out.keep (w' := (wr.alloc (.cells #[.int .i64 (P - k), .string s, .slice xA m xc] 30))) (fun g _ hlt => q5.block g hlt)
      have hk2 := HPK.out.keep (w' := (wr.alloc (.cells #[.int .i64 (P - k), .string s, .slice xA m xc] 30))) (fun g _ hlt => q5.block g hlt)
      have H1 := Lib.hid hk1
      have H2 := Lib.hid hk2
      have H5 := Lib.hid q5
      have HLT1 := Lib.hid (fun g hg => (HRK.out.row.lt g hg).2)
      have HLT2 := Lib.hid (fun g hg => (HPK.out.row.lt g hg).2)
      clear hk1 hk2 q5
      go_wp2_with (first
        | (at_builtin; refine wpList_push2 rfl (.tmp 79) (.tmp 81) 22 rfl w3.heap.size 30 i0 _ 3 48 Try.underlying22 fi fz0 fz1 fz2 rfl (by decide) _ p (nmCells lp) rfl H2.out.row #[.int .i64 (P - k), .string s, .slice xA m xc] (by rw [q6]; rfl) rfl ?_ ?_ ?_ ?_ ?_))
      · first | exact ⟨rfl, rfl, rfl⟩ | (intro u hu; simp at hu; rcases hu with rfl | rfl | rfl <;> rfl)
      · unfold maxLen; omega
      · omega
      · have := HB.out.size; first | omega | (simp; omega)
      intro A9 c9 w9 hown9 hp9 hid9
      have hnew := HSP.out ⟨(P - k), s, ps⟩ rfl rfl lp Ap A9 p cp c9 _ w9 H2.out (by simpa using hown9)
      have hold := H1.out.keep (w' := w9) (fun g hg hlt => hp9.row g hlt (HAP.out g hg))
      have hap9 : ∀ g, (Value.slice Ar r cr).ownBlock = some g → (Value.slice A9 (p + 1) c9).ownBlock ≠ some g := fun g hg e => by
        rcases hid9 g e with h | h
        · exact HAP.out g hg h
        · have := HLT1.out g hg; first | omega | (rw [q6] at h; omega) | (simp at h; omega)
      have hb9 : Below w3.heap.size w3 w9 := (HB.out.trans (H5.out.mono HB.out.size)).trans hp9.low
      have hd1 : dat (lp ++ [⟨⟨(P - k), s, ps⟩, xA, xc⟩]) = pieceF ((dat l).take (j + 1)) k z := by
        rw [HPI.out hcase.1 hcase.2, ← HDP.out, ← hone]
        simp [dat]
      have hd2 : dat lr = restF ((dat l).take (j + 1)) k z := by rw [HRI.out hcase.1 hcase.2]; exact HDR.out
      have HN9 := Lib.hid hnew
      have HO9 := Lib.hid hold
      have HA9 := Lib.hid hap9
      have HD1 := Lib.hid hd1
      have HD2 := Lib.hid hd2
      have HB9 := Lib.hid hb9
      clear hnew hold hap9 hd1 hd2 hb9 hown9 hp9 hid9
      go_wp2_with fail
      exact ⟨⟨j + 1, Ar, A9, r, cr, p + 1, c9, lr, _, by omega, by go_num, rfl, rfl, by omega, HO9.out, HN9.out, HA9.out, HD2.out, HD1.out, HB9.out⟩, by simp [intOf]; omega⟩
    have hcase : j < k ∨ z ≤ j := by omega
    have HIN : (decide ((k : Int) < (j : Int)) && decide ((j : Int) < (z : Int))) = false := by simp; omega
    by_cases hzP : (z : Int) ≤ P
    · have e4 : decide ((z : Int) ≤ P) = true := by simpa using hzP
      have hone : (⟨P - ((z : Int) - k), s, ps⟩ : Nd) = restOne k z ⟨P, s, ps⟩ := by unfold restOne; rw [if_pos hzP]; rfl
      by_cases hjk2 : j < k
      · exact absurd hzP (by omega)
      · have e2 : decide ((k : Int) < (j : Int)) = true := by simp; omega
        have e3 : decide ((j : Int) < (z : Int)) = false := by simp; omega
        have q5 : Below wr.heap.size wr (wr.alloc (.cells #[.int .i64 (P - ((z : Int) - k)), .string s, .slice xA m xc] 30)) := (Below.refl _ wr).alloc (Nat.le_refl _) _
        have q6 : (wr.alloc (.cells #[.int .i64 (P - ((z : Int) - k)), .string s, .slice xA m xc] 30)).heap.size = wr.heap.size + 1 := by simp
        have hk1 := HRK.out.keep (w' := (wr.alloc (.cells #[.int .i64 (P - ((z : Int) - k)), .string s, .slice xA m xc] 30))) (fun g _ hlt => q5.block g hlt)
        have hk2 := HPK.out.keep (w' := (wr.alloc (.cells #[.int .i64 (P - ((z : Int) - k)), .string s, .slice xA m xc] 30))) (fun g _ hlt => q5.block g hlt)
        have H1 := Lib.hid hk1
        have H2 := Lib.hid hk2
        have H5 := Lib.hid q5
        have HLT1 := Lib.hid (fun g hg => (HRK.out.row.lt g hg).2)
        have HLT2 := Lib.hid (fun g hg => (HPK.out.row.lt g hg).2)
        clear hk1 hk2 q5
        go_wp2_with (first
          | (at_builtin; refine wpList_push2 rfl (.tmp 52) (.tmp 54) 22 rfl w3.heap.size 30 i0 _ 3 48 Try.underlying22 fi fz0 fz1 fz2 rfl (by decide) _ r (nmCells lr) rfl H1.out.row #[.int .i64 (P - ((z : Int) - k)), .string s, .slice xA m xc] (by rw [q6]; rfl) rfl ?_ ?_ ?_ ?_ ?_))
        · first | exact ⟨rfl, rfl, rfl⟩ | (intro u hu; simp at hu; rcases hu with rfl | rfl | rfl <;> rfl)
        · unfold maxLen; omega
        · omega
        · have := HB.out.size; first | omega | (simp; omega)
        intro A9 c9 w9 hown9 hp9 hid9
        have hnew := HSP.out ⟨(P - ((z : Int) - k)), s, ps⟩ rfl rfl lr Ar A9 r cr c9 _ w9 H1.out (by simpa using hown9)
        have hold := H2.out.keep (w' := w9) (fun g hg hlt => hp9.row g hlt (fun e => HAP.out g e hg))
        have hap9 : ∀ g, (Value.slice A9 (r + 1) c9).ownBlock = some g → (Value.slice Ap p cp).ownBlock ≠ some g := fun g hg e => by
          rcases hid9 g hg with h | h
          · exact HAP.out g h e
          · have := HLT2.out g e; first | omega | (rw [q6] at h; omega) | (simp at h; omega)
        have hb9 : Below w3.heap.size w3 w9 := (HB.out.trans (H5.out.mono HB.out.size)).trans hp9.low
        have hd1 : dat (lr ++ [⟨⟨(P - ((z : Int) - k)), s, ps⟩, xA, xc⟩]) = restF ((dat l).take (j + 1)) k z := by
          rw [HRO.out hcase, ← HDR.out, ← hone]
          simp [dat]
        have hd2 : dat lp = pieceF ((dat l).take (j + 1)) k z := by rw [HPO.out hcase]; exact HDP.out
        have HN9 := Lib.hid hnew
        have HO9 := Lib.hid hold
        have HA9 := Lib.hid hap9
        have HD1 := Lib.hid hd1
        have HD2 := Lib.hid hd2
        have HB9 := Lib.hid hb9
        clear hnew hold hap9 hd1 hd2 hb9 hown9 hp9 hid9
        go_wp2_with fail
        exact ⟨⟨j + 1, A9, Ap, r + 1, c9, p, cp, _, lp, by omega, by go_num, rfl, rfl, by omega, HN9.out, HO9.out, HA9.out, HD1.out, HD2.out, HB9.out⟩, by simp [intOf]; omega⟩
    · have e4 : decide ((z : Int) ≤ P) = false := by simpa using hzP
      have hone : (⟨P, s, ps⟩ : Nd) = restOne k z ⟨P, s, ps⟩ := by unfold restOne; rw [if_neg hzP]
      by_cases hjk2 : j < k
      · have e2 : decide ((k : Int) < (j : Int)) = false := by simp; omega
        have q5 : Below wr.heap.size wr (wr.alloc (.cells #[.int .i64 P, .string s, .slice xA m xc] 30)) := (Below.refl _ wr).alloc (Nat.le_refl _) _
        have q6 : (wr.alloc (.cells #[.int .i64 P, .string s, .slice xA m xc] 30)).heap.size = wr.heap.size + 1 := by simp
        have hk1 := HRK.out.keep (w' := (wr.alloc (.cells #[.int .i64 P, .string s, .slice xA m xc] 30))) (fun g _ hlt => q5.block g hlt)
        have hk2 := HPK.out.keep (w' := (wr.alloc (.cells #[.int .i64 P, .string s, .slice xA m xc] 30))) (fun g _ hlt => q5.block g hlt)
        have H1 := Lib.hid hk1
        have H2 := Lib.hid hk2
        have H5 := Lib.hid q5
        have HLT1 := Lib.hid (fun g hg => (HRK.out.row.lt g hg).2)
        have HLT2 := Lib.hid (fun g hg => (HPK.out.row.lt g hg).2)
        clear hk1 hk2 q5
        go_wp2_with (first
          | (at_builtin; refine wpList_push2 rfl (.tmp 52) (.tmp 54) 22 rfl w3.heap.size 30 i0 _ 3 48 Try.underlying22 fi fz0 fz1 fz2 rfl (by decide) _ r (nmCells lr) rfl H1.out.row #[.int .i64 P, .string s, .slice xA m xc] (by rw [q6]; rfl) rfl ?_ ?_ ?_ ?_ ?_))
        · first | exact ⟨rfl, rfl, rfl⟩ | (intro u hu; simp at hu; rcases hu with rfl | rfl | rfl <;> rfl)
        · unfold maxLen; omega
        · omega
        · have := HB.out.size; first | omega | (simp; omega)
        intro A9 c9 w9 hown9 hp9 hid9
        have hnew := HSP.out ⟨P, s, ps⟩ rfl rfl lr Ar A9 r cr c9 _ w9 H1.out (by simpa using hown9)
        have hold := H2.out.keep (w' := w9) (fun g hg hlt => hp9.row g hlt (fun e => HAP.out g e hg))
        have hap9 : ∀ g, (Value.slice A9 (r + 1) c9).ownBlock = some g → (Value.slice Ap p cp).ownBlock ≠ some g := fun g hg e => by
          rcases hid9 g hg with h | h
          · exact HAP.out g h e
          · have := HLT2.out g e; first | omega | (rw [q6] at h; omega) | (simp at h; omega)
        have hb9 : Below w3.heap.size w3 w9 := (HB.out.trans (H5.out.mono HB.out.size)).trans hp9.low
        have hd1 : dat (lr ++ [⟨⟨P, s, ps⟩, xA, xc⟩]) = restF ((dat l).take (j + 1)) k z := by
          rw [HRO.out hcase, ← HDR.out, ← hone]
          simp [dat]
        have hd2 : dat lp = pieceF ((dat l).take (j + 1)) k z := by rw [HPO.out hcase]; exact HDP.out
        have HN9 := Lib.hid hnew
        have HO9 := Lib.hid hold
        have HA9 := Lib.hid hap9
        have HD1 := Lib.hid hd1
        have HD2 := Lib.hid hd2
        have HB9 := Lib.hid hb9
        clear hnew hold hap9 hd1 hd2 hb9 hown9 hp9 hid9
        go_wp2_with fail
        exact ⟨⟨j + 1, A9, Ap, r + 1, c9, p, cp, _, lp, by omega, by go_num, rfl, rfl, by omega, HN9.out, HO9.out, HA9.out, HD1.out, HD2.out, HB9.out⟩, by simp [intOf]; omega⟩
      · have e2 : decide ((k : Int) < (j : Int)) = true := by simp; omega
        have e3 : decide ((j : Int) < (z : Int)) = false := by simp; omega
        have q5 : Below wr.heap.size wr (wr.alloc (.cells #[.int .i64 P, .string s, .slice xA m xc] 30)) := (Below.refl _ wr).alloc (Nat.le_refl _) _
        have q6 : (wr.alloc (.cells #[.int .i64 P, .string s, .slice xA m xc] 30)).heap.size = wr.heap.size + 1 := by simp
        have hk1 := HRK.out.keep (w' := (wr.alloc (.cells #[.int .i64 P, .string s, .slice xA m xc] 30))) (fun g _ hlt => q5.block g hlt)
        have hk2 := HPK.out.keep (w' := (wr.alloc (.cells #[.int .i64 P, .string s, .slice xA m xc] 30))) (fun g _ hlt => q5.block g hlt)
        have H1 := Lib.hid hk1
        have H2 := Lib.hid hk2
        have H5 := Lib.hid q5
        have HLT1 := Lib.hid (fun g hg => (HRK.out.row.lt g hg).2)
        have HLT2 := Lib.hid (fun g hg => (HPK.out.row.lt g hg).2)
        clear hk1 hk2 q5
        go_wp2_with (first
          | (at_builtin; refine wpList_push2 rfl (.tmp 52) (.tmp 54) 22 rfl w3.heap.size 30 i0 _ 3 48 Try.underlying22 fi fz0 fz1 fz2 rfl (by decide) _ r (nmCells lr) rfl H1.out.row #[.int .i64 P, .string s, .slice xA m xc] (by rw [q6]; rfl) rfl ?_ ?_ ?_ ?_ ?_))
        · first | exact ⟨rfl, rfl, rfl⟩ | (intro u hu; simp at hu; rcases hu with rfl | rfl | rfl <;> rfl)
        · unfold maxLen; omega
        · omega
        · have := HB.out.size; first | omega | (simp; omega)
        intro A9 c9 w9 hown9 hp9 hid9
        have hnew := HSP.out ⟨P, s, ps⟩ rfl rfl lr Ar A9 r cr c9 _ w9 H1.out (by simpa using hown9)
        have hold := H2.out.keep (w' := w9) (fun g hg hlt => hp9.row g hlt (fun e => HAP.out g e hg))
        have hap9 : ∀ g, (Value.slice A9 (r + 1) c9).ownBlock = some g → (Value.slice Ap p cp).ownBlock ≠ some g := fun g hg e => by
          rcases hid9 g hg with h | h
          · exact HAP.out g h e
          · have := HLT2.out g e; first | omega | (rw [q6] at h; omega) | (simp at h; omega)
        have hb9 : Below w3.heap.size w3 w9 := (HB.out.trans (H5.out.mono HB.out.size)).trans hp9.low
        have hd1 : dat (lr ++ [⟨⟨P, s, ps⟩, xA, xc⟩]) = restF ((dat l).take (j + 1)) k z := by
          rw [HRO.out hcase, ← HDR.out, ← hone]
          simp [dat]
        have hd2 : dat lp = pieceF ((dat l).take (j + 1)) k z := by rw [HPO.out hcase]; exact HDP.out
        have HN9 := Lib.hid hnew
        have HO9 := Lib.hid hold
        have HA9 := Lib.hid hap9
        have HD1 := Lib.hid hd1
        have HD2 := Lib.hid hd2
        have HB9 := Lib.hid hb9
        clear hnew hold hap9 hd1 hd2 hb9 hown9 hp9 hid9
        go_wp2_with fail
        exact ⟨⟨j + 1, A9, Ap, r + 1, c9, p, cp, _, lp, by omega, by go_num, rfl, rfl, by omega, HN9.out, HO9.out, HA9.out, HD1.out, HD2.out, HB9.out⟩, by simp [intOf]; omega⟩
end Go.Proofs.Ytmdnbajbfnhecaa
