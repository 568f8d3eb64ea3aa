/- put, the program's way through a tree in order: the contract. -/
import Derived.Test.YtmdnbajbfnhecaaGreatDoorSLen
import Derived.Test.YtmdnbajbfnhecaaGreatDoorFindLaw
import Derived.Test.YtmdnbajbfnhecaaGreatDoorPTwin
set_option linter.unusedVariables false
namespace Go.Proofs.YtmdnbajbfnhecaaGreatDoor
open Go.RowKit
theorem nameN_at (l : List Nd) (i : Nat) : nameN l i = nameAt l i := rfl
theorem apart_perm {α : Type} {k : α → List UInt8} {a b : List α} (h : Apart k a) (hp : b.Perm a) : Apart k b := by
  unfold Apart at *
  exact (hp.symm.pairwise_iff fun h => h.symm).mp h
theorem PutW.facts {w : World} {base bl bo bk bp K n cap co : Nat} {A Ao : Option Addr} {l acc : List Nm} {R : List Rk} (h : PutW w base bl bo bk bp K A n cap l R Ao co acc) : w.cell? ⟨bl, 0, none⟩ = some (.slice A n cap) ∧ w.cell? ⟨bo, 0, none⟩ = some (.slice Ao acc.length co) ∧ w.frozen? ⟨bo, 0, none⟩ = false ∧
    w.cell? ⟨bk, 0, none⟩ = some (.slice (some ⟨K, 0, none⟩) n n) ∧ w.cell? ⟨bp, 0, none⟩ = some (.func (.func 27) #[] #[.pointer (some ⟨bl, 0, none⟩), .pointer (some ⟨bo, 0, none⟩), .pointer (some ⟨bk, 0, none⟩), .pointer (some ⟨bp, 0, none⟩)]) ∧
    ∀ (i : Nat) (hi : i < R.length), w.cell? ⟨K, i, none⟩ = some R[i].val := by
  refine ⟨?_, ?_, h.xo.frozen 0, ?_, ?_, fun i hi => ?_⟩
  · have := h.xl.cell (k := 0) (by simp); simpa using this
  · have := h.xo.cell (k := 0) (by simp); simpa using this
  · have := h.xk.cell (k := 0) (by simp); simpa using this
  · have := h.xp.cell (k := 0) (by simp); simpa using this
  · have := h.kids.tab.cell (k := i) (by simpa using hi)
    rw [this, List.getElem?_map, List.getElem?_eq_getElem hi]
    rfl
theorem row_at {w : World} {base m c : Nat} {A : Option Addr} {ks : List Nat} (h : w.ownsRow base 3 1 (.slice A m c) m (natsV ks)) {t : Nat} (ht : t < ks.length) : ∃ g, A = some ⟨g, 0, none⟩ ∧ w.cell? ⟨g, t, none⟩ = some (.int .i64 ((ks[t] : Nat) : Int)) := by
  have hm : ks.length = m := by have := h.1; rw [natsV_len] at this; omega
  obtain ⟨g, hA, _, _, hr⟩ := RowAt.of_own h (by omega)
  refine ⟨g, hA, ?_⟩
  rw [hr.cell (by rw [natsV_len]; exact ht)]
  unfold natsV
  simp [ht]
/-- What put hands back. -/
def PutRet (w : World) (base bl bo bk bp K : Nat) (A : Option Addr) (n cap : Nat) (l : List Nm) (i : Nat) (par : Int) (R : List Rk) (acc : List Nm) (e : Ending) (w' : World) : Prop :=
  e = .returned (.tuple #[]) ∧ ∃ (R' : List Rk) (Ao : Option Addr) (co : Nat) (acc' : List Nm), PutW w' base bl bo bk bp K A n cap l R' Ao co acc' ∧ dat acc' = dat acc ++ ordN (dat l) i par acc.length ∧
    (∀ (p : Nat) (hp : p < R'.length), (R'[p].row).Perm (kidsN (dat l) p)) ∧ (∀ p, p < i → R'[p]? = R[p]?) ∧ Below base w w'
set_option maxRecDepth 100000 in
set_option maxHeartbeats 4000000 in
theorem put_any (A : Option Addr) (n cap : Nat) (l : List Nm) (hn : n = l.length) (hsz : Sized l) (htr : Tr (dat l)) (hpb : ∀ x ∈ l, propsB x.d.ps = true) (base bl bo bk bp K : Nat) : ∀ (f i : Nat) (par : Int), n - i ≤ f → i < n → -1 ≤ par → par ≤ 512 → ∀ (w : World) (R : List Rk) (Ao : Option Addr) (co : Nat) (acc : List Nm),
    PutW w base bl bo bk bp K A n cap l R Ao co acc → (∀ (p : Nat) (hp : p < R.length), (R[p].row).Perm (kidsN (dat l) p)) → acc.length + (ordN (dat l) i par acc.length).length ≤ 512 →
    Calls Tryz.prog 27 #[.int .i64 i, .int .i64 par, .pointer (some ⟨bl, 0, none⟩), .pointer (some ⟨bo, 0, none⟩), .pointer (some ⟨bk, 0, none⟩), .pointer (some ⟨bp, 0, none⟩)] w fun e w' => PutRet w base bl bo bk bp K A n cap l i par R acc e w' := by
  intro f
  induction f with
  | zero => intro i par h1 h2; omega
  | succ f ih =>
    intro i par hf hi hp1 hp2 w R Ao co acc hP hR hlen
    have hil : i < l.length := by omega
    obtain ⟨i0, fi, fz0, fz1, fz2⟩ := info_parts Tryz.info50
    have c1 := hP.xl.cell (k := 0) (by simp)
    have c2 := hP.xo.cell (k := 0) (by simp)
    have c3 := hP.xk.cell (k := 0) (by simp)
    have c4 := hP.xp.cell (k := 0) (by simp)
    simp only [List.getElem?_cons_zero] at c1 c2 c3 c4
    obtain ⟨b, off, rfl, hbB, x0, x1, x2, hseg⟩ := hP.nodes.at_ hil
    have hpr := hpb l[i] (List.getElem_mem hil)
    have hpz := hsz.props l[i] (List.getElem_mem hil)
    obtain ⟨x, hx⟩ : ∃ x, x = l[i] := ⟨_, rfl⟩
    rw [← hx] at x0 x1 x2 hseg hpr hpz
    obtain ⟨⟨P, s, ps⟩, xA, xc⟩ := x
    simp only at x0 x1 x2 hseg hpr hpz
    have hcl := clone_any xA xc ps.length ps rfl hpz
    obtain ⟨m, hm⟩ : ∃ m, m = ps.length := ⟨_, rfl⟩
    rw [← hm] at x2 hpz hcl
    have hii : (i : Int) < (n : Int) := by omega
    have HP := Lib.hid hP
    have HR := Lib.hid hR
    have HX := Lib.hid hx
    have HM := Lib.hid hm
    have HCL := Lib.hid hcl
    have HSG := Lib.hid hseg
    have HAP := Lib.hid (props_apart hpr)
    have HN := Lib.hid hn
    have HLEN := Lib.hid hlen
    have HIH := Lib.hid ih
    clear hP hR hx hm hcl hseg ih hn hlen
    have hkR : i < R.length := by rw [HP.out.klen]; exact hi
    obtain ⟨ks, hks⟩ : ∃ ks, ks = sortN (nameN (dat l)) (kidsN (dat l) i) := ⟨_, rfl⟩
    have HKS := Lib.hid hks
    clear hks
    go_enter Tryz.func27, Tryz.ntmps27
    go_wp2_with (first
      | (go_at_call 28
         refine (HCL.out (w.alloc (.cells #[.int .i64 par, .string s, .slice xA m xc] 50)) base (by have := HP.out.sizeB; simp; omega) (HSG.out.alloc HP.out.sizeB _)).mono ?_
         rintro e w3 ⟨A3, c3, rfl, hown3, hb3⟩
         have esz : (w.alloc (.cells #[.int .i64 par, .string s, .slice xA m xc] 50)).heap.size = w.heap.size + 1 := by simp
         rw [esz] at hown3 hb3
         obtain ⟨⟨q0, q1⟩, ⟨q2, q3, q4⟩, q5, q6⟩ := ptwin_mem hown3 hb3
         have H5 := Lib.hid q5
         have H6 := Lib.hid q6
         clear q5 q6 hown3 hb3)
      | (go_at_call 29
         refine (psort_any A3 m c3 ps (w3.setCell ⟨w.heap.size, 2, none⟩ (.slice A3 m c3)) _ H6.out HAP.out hpz).mono ?_
         rintro e w4 ⟨rfl, ho4, hf4⟩
         have hlow : ∀ k, k < w.heap.size + 1 → ¬ Own1 A3 k := fun k hk hs => by have := (H6.out.lt k (own1_val.2 hs)).1; omega
         have hb34 : Below (w.heap.size + 1) (w3.setCell ⟨w.heap.size, 2, none⟩ (.slice A3 m c3)) w4 := hf4.toBelow (by have := World.block_lt_of_cell? _ _ q2; exact this) hlow
         have r0 := (hb34.cell (p := ⟨w.heap.size, 0, none⟩) (by show w.heap.size < w.heap.size + 1; omega)).trans q2
         have r1 := (hb34.cell (p := ⟨w.heap.size, 1, none⟩) (by show w.heap.size < w.heap.size + 1; omega)).trans q3
         have r2 := (hb34.cell (p := ⟨w.heap.size, 2, none⟩) (by show w.heap.size < w.heap.size + 1; omega)).trans q4
         have hb4 : Below w.heap.size w w4 := H5.out.trans (hb34.mono (by omega))
         have d2 := (HP.out.below hb4).facts.2.1
         have HO4 := Lib.hid ho4
         have HB4 := Lib.hid hb4
         have HR4 := Lib.hid (HP.out.below hb4).out.row
         clear ho4 hf4 hlow hb34 hb4 q2 q3 q4)
      | (at_builtin; refine wpList_push rfl (.tmp 27) (.tmp 29) 22 rfl base 50 i0 _ 3 48 Tryz.underlying22 fi fz0 fz1 fz2 rfl (by decide) _ acc.length (nmCells acc) rfl HR4.out #[.int .i64 par, .string s, .slice A3 m c3] rfl rfl ?_ ?_ ?_ ?_ ?_))
    · first | exact ⟨rfl, rfl, rfl⟩ | (intro u hu; simp at hu; rcases hu with rfl | rfl | rfl <;> rfl)
    · have := HLEN.out; unfold maxLen; omega
    · have := HLEN.out; omega
    · exact Nat.le_trans HP.out.sizeB HB4.out.size
    intro A5 c5 w5 hown5 hp5
    obtain ⟨X, hX⟩ : ∃ X : Nm, X = ⟨⟨par, s, sortN prKey ps⟩, A3, c3⟩ := ⟨_, rfl⟩
    have hxl : (sortN prKey ps).length = m := by rw [sort_len, HM.out]
    have hxv : X.val = .slice A3 m c3 := by rw [hX]; unfold Nm.val; simp only [hxl]
    have hxc : X.cells = [.int .i64 par, .string s, .slice A3 m c3] := by rw [hX]; unfold Nm.cells; simp only [hxl]
    have hown6 : w5.ownsRow base 50 3 (.slice A5 (acc.length + 1) c5) (acc.length + 1) (nmCells (acc ++ [X])) := by
      have : nmCells (acc ++ [X]) = nmCells acc ++ [.int .i64 par, .string s, .slice A3 m c3] := by simp [nmCells, hxc]
      rw [this]
      simpa using hown5
    have hP6 := HP.out.pushed HB4.out (B := w.heap.size + 1) (by omega) (x := X) (by rw [hxv, hX]; show w4.ownsRow _ 57 2 _ (sortN prKey ps).length (prCells (sortN prKey ps)); rw [hxl]; exact HO4.out) hown6 hp5
    have e5 := hp5.low
    have u0 : w5.cell? ⟨bo, 0, none⟩ = some (.slice Ao acc.length co) ∧ w5.frozen? ⟨bo, 0, none⟩ = false := by
      have h4 := (HP.out.below HB4.out)
      have h5 := h4.xo.keep (hp5.row bo h4.xo.lt fun hg => own_ne h4.out.row h4.xo (by decide) hg rfl)
      have := h5.cell (k := 0) (by simp)
      exact ⟨by simpa using this, h5.frozen 0⟩
    obtain ⟨u0, u1⟩ := u0
    obtain ⟨_, _, _, v3, v4, v5⟩ := hP6.facts
    have v6 := v5 i hkR
    have hkr := hP6.kids.rows R[i] (List.getElem_mem hkR)
    have hperm := HR.out i hkR
    obtain ⟨kr, hkr0⟩ : ∃ kr, kr = R[i] := ⟨_, rfl⟩
    have hbd6 : Below base w (w5.setCell ⟨bo, 0, none⟩ (.slice A5 (acc.length + 1) c5)) := ((HB4.out.mono HP.out.sizeB).trans hp5.low).setCell HP.out.ho _
    rw [← hkr0] at v6 hkr hperm
    obtain ⟨kA, kc, krow⟩ := kr
    simp only [Rk.val] at v6 hkr hperm
    have HP6 := Lib.hid hP6
    have HKR := Lib.hid hkr
    have HPM := Lib.hid hperm
    have HK0 := Lib.hid hkr0
    have HB6 := Lib.hid hbd6
    have HXX := Lib.hid hX
    clear hP6 hkr hperm hkr0 hbd6 hown5 hown6 hp5 hxv hxc hX v5 e5
    obtain ⟨kn, hkn⟩ : ∃ kn, kn = krow.length := ⟨_, rfl⟩
    rw [← hkn] at v6
    have HKN := Lib.hid hkn
    clear hkn
    have hkz : ∀ k ∈ krow, k < n := fun k hk => by
      have := (kidsN_mem (HPM.out.subset hk)).2.1
      rw [dat_len] at this
      rw [HN.out]; exact this
    have hka : Apart (nameN (dat l)) krow := apart_perm (kids_apart htr.twin i) HPM.out
    have hkm : kn ≤ n := by
      rw [HKN.out, HPM.out.length_eq]
      unfold kidsN
      refine Nat.le_trans (List.length_filter_le ..) ?_
      rw [List.length_drop, List.length_range, dat_len, ← HN.out]
      omega
    have hnz : n * 48 ≤ 140737488355328 := by rw [HN.out]; exact hsz.n
    have hsk : sortN (nameN (dat l)) krow = ks := by
      rw [HKS.out]
      exact sort_is _ (kids_apart htr.twin i) ((sort_perm _ _).trans HPM.out) (sort_ok _ _ hka).2
    have hkl : ks.length = kn := by rw [← hsk, sort_len, HKN.out]
    have HKZ := Lib.hid hkz
    have HKA := Lib.hid hka
    have HSK := Lib.hid hsk
    have HKL := Lib.hid hkl
    clear hkz hka hsk hkl
    go_wp2_with (first
      | (go_at_call 32
         refine (isort_any kA kn kc krow _ base (by have := HKR.out; rw [← HKN.out] at this; exact this) _ cap n l HN.out bl HP6.out.xl base (Nat.le_refl _) HP6.out.nodes HKZ.out HKA.out (by omega)).mono ?_
         rintro e w7 ⟨rfl, ho7, hf7⟩
         rw [HSK.out] at ho7
         have hP7 := HP6.out.sorted hkR (ys := ks) (w' := w7) (by rw [HKL.out, HKN.out, ← HK0.out]) (by rw [← HK0.out]; exact hf7) (by rw [← HK0.out]; show w7.ownsRow base 3 1 (.slice kA krow.length kc) krow.length (natsV ks); rw [← HKN.out]; exact ho7)
         rw [← HK0.out] at hP7
         simp only at hP7
         obtain ⟨_, _, _, z3, z4, z5⟩ := hP7.facts
         have z6 : w7.cell? ⟨K, i, none⟩ = some (.slice kA kn kc) := by rw [z5 i (by rw [List.length_set]; exact hkR), List.getElem_set_self]; unfold Rk.val; simp only [HKL.out]
         have hb7 : Below base w w7 := HB6.out.trans (hf7.toBelow (by have := HP6.out.sizeB; exact this) fun k hk hs => by have := (HKR.out.lt k (own1_val.2 hs)).1; omega)
         have HP7 := Lib.hid hP7
         have HB7 := Lib.hid hb7
         clear hP7 hb7 ho7 hf7 z5))
    obtain ⟨rec, hrec⟩ : ∃ rec : Nat → Nat → List Nd, rec = fun k c => ordN (dat l) k acc.length c := ⟨_, rfl⟩
    have hstep : ordN (dat l) i par acc.length = X.d :: ordKids rec ks (acc.length + 1) := by
      rw [ordN_step (dat l) i par acc.length (by rw [dat_len]; exact hil), ← HKS.out, hrec, HXX.out]
      congr 1
      unfold bareN propsN
      rw [List.getElem?_eq_getElem (by rw [dat_len]; exact hil)]
      simp only [dat_get l hil, ← HX.out]
      rfl
    have HREC := Lib.hid hrec
    have HST := Lib.hid hstep
    clear hrec hstep
    go_loopw [42] (fun iv wx => ∃ (t : Nat) (Rt : List Rk) (At : Option Addr) (ct : Nat) (acct : List Nm), t ≤ kn ∧ iv = .int .i64 t ∧ PutW wx base bl bo bk bp K (some ⟨b, off, none⟩) n cap l Rt At ct acct ∧
      dat acct ++ ordKids rec (ks.drop t) acct.length = dat acc ++ ordN (dat l) i par acc.length ∧ (∀ (p : Nat) (hp : p < Rt.length), (Rt[p].row).Perm (kidsN (dat l) p)) ∧ (∀ p, p < i → Rt[p]? = R[p]?) ∧ Rt[i]? = some ⟨kA, kc, ks⟩ ∧ Below base w wx) (fun iv _ => kn - (intOf iv).toNat)
    case atStart =>
      refine ⟨0, _, _, _, _, by omega, rfl, HP7.out, ?_, ?_, ?_, ?_, HB7.out⟩
      · rw [HST.out, List.drop_zero]
        simp [dat]
      · intro p hp
        rw [List.length_set] at hp
        by_cases e : i = p
        · subst e
          rw [List.getElem_set_self]
          rw [HKS.out]
          exact sort_perm _ _
        · rw [List.getElem_set_ne e]
          exact HR.out p hp
      · intro p hp
        rw [List.getElem?_set_ne (by omega)]
      · rw [List.getElem?_set_self hkR]
    case round =>
      obtain ⟨t, Rt, At, ct, acct, ht, rfl, hPt, hdt, hpt, hlt, hit, hbt⟩ := hrel
      clear r0 r1 r2 d2 u0 u1 v3 v4 v6 z3 z4 z6 q0 q1
      have hRl := hPt.klen
      by_cases htk : t < kn
      · have htl : t < ks.length := by rw [HKL.out]; exact htk
        have htki : (t : Int) < (kn : Int) := by omega
        have hiR : i < Rt.length := by rw [hRl]; exact hi
        have hgi : Rt[i] = ⟨kA, kc, ks⟩ := by
          rw [List.getElem?_eq_getElem hiR] at hit
          injection hit
        have hrow := hPt.kids.rows Rt[i] (List.getElem_mem hiR)
        rw [hgi] at hrow
        obtain ⟨g, hg, y0⟩ := row_at (A := kA) (c := kc) (m := ks.length) hrow htl
        subst hg
        have hkm2 : ks[t] ∈ kidsN (dat l) i := by
          have : ks[t] ∈ sortN (nameN (dat l)) (kidsN (dat l) i) := by rw [← HKS.out]; exact List.getElem_mem htl
          exact sort_mem _ _ _ this
        obtain ⟨hik, hkn, _⟩ := kidsN_mem hkm2
        rw [dat_len, ← HN.out] at hkn
        have hdr : ks.drop t = ks[t] :: ks.drop (t + 1) := List.drop_eq_getElem_cons htl
        rw [hdr] at hdt
        obtain ⟨k, hk⟩ : ∃ k, k = ks[t] := ⟨_, rfl⟩
        rw [← hk] at y0 hik hkn hdt
        rw [ordKids] at hdt
        have hln := congrArg List.length hdt
        simp only [List.length_append, dat_len] at hln
        have hreck : rec k acct.length = ordN (dat l) k acc.length acct.length := by rw [HREC.out]
        have hih := HIH.out k acc.length (by omega) hkn (by omega) (by have := HLEN.out; omega) wr Rt At ct acct hPt hpt (by rw [← hreck]; have := HLEN.out; omega)
        have HIHK := Lib.hid hih
        have HDT := Lib.hid hdt
        have HLT := Lib.hid hlt
        have HIT := Lib.hid hit
        have HBT := Lib.hid hbt
        have HRK := Lib.hid hreck
        obtain ⟨_, _, _, _, v4, _⟩ := hPt.facts
        clear hih hdt hlt hit hbt hreck hPt hpt hrow hln hdr hk hgi hkm2
        go_wp2_with (first
          | (go_at_call 27
             refine HIHK.out.mono ?_
             rintro e w8 ⟨rfl, R8, A8, c8, acc8, hP8, hd8, hp8, hl8, hb8⟩
             have HP8 := Lib.hid hP8
             have HD8 := Lib.hid hd8
             have HQ8 := Lib.hid hp8
             have HL8 := Lib.hid hl8
             have HB8 := Lib.hid hb8
             clear hP8 hd8 hp8 hl8 hb8))
        refine ⟨⟨t + 1, R8, A8, c8, acc8, by omega, by go_num, HP8.out, ?_, HQ8.out, ?_, ?_, HBT.out.trans HB8.out⟩, by simp [intOf]; omega⟩
        · have hl := congrArg List.length HD8.out
          simp only [List.length_append, dat_len] at hl
          rw [hl, HD8.out, List.append_assoc, ← HRK.out]
          exact HDT.out
        · intro p hp
          rw [HL8.out p (by omega)]
          exact HLT.out p hp
        · rw [HL8.out i (by omega)]
          exact HIT.out
      · obtain rfl : t = kn := by omega
        have hf0 : ¬ (t : Int) < (t : Int) := by omega
        rw [List.drop_of_length_le (by rw [HKL.out]; exact Nat.le_refl _), ordKids, List.append_nil] at hdt
        have HPt := Lib.hid hPt
        clear hPt
        go_wp2_with fail
        go_end0
        exact ⟨rfl, Rt, At, ct, acct, HPt.out, hdt, hpt, hlt, hbt⟩
end Go.Proofs.YtmdnbajbfnhecaaGreatDoor
