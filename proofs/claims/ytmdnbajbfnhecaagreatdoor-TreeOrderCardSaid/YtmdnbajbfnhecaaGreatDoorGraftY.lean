/- The program's Graft: what is put together. -/
import Derived.Test.YtmdnbajbfnhecaaGreatDoorGrMem
set_option linter.unusedVariables false
namespace Go.Proofs.YtmdnbajbfnhecaaGreatDoor
open Go.RowKit
set_option maxRecDepth 100000 in
set_option maxHeartbeats 8000000 in
theorem pgraft_ok (A : Option Addr) (cap n : Nat) (l : List Nm) (hn : n = l.length) (hcap : n ≤ cap) (hsz : Sized l) (i : Int) (A' : Option Addr) (cap' n' : Nat) (p : List Nm) (hn' : n' = p.length) (hsz' : Sized p) (w : World) (B : Nat) (hB : B ≤ w.heap.size) (hs : Nodes w B A l) (hs' : Nodes w B A' p)
    (hw0 : wrongF (dat l) i = 0) (hpb : pieceB (dat p) = true) :
    Calls Tryz.prog 22 #[.slice A n cap, .int .i64 i, .slice A' n' cap'] w fun e w' => GraftRet (dat l) i (dat p) w' w.heap.size e ∧ Below w.heap.size w w' := by
  have hpl := place_any A cap n l hn hsz i w B hB hs
  obtain ⟨hf, h512, k, rfl, hk⟩ := wrong_zero hw0
  rw [hw0] at hpl
  have hl0 : 0 < p.length := by
    rcases Nat.eq_zero_or_pos p.length with h | h
    · rw [pieceB_no (by rw [dat_len]; exact h)] at hpb; cases hpb
    · exact h
  have hps := pieceB_some (l := dat p) (by rw [dat_len]; exact hl0)
  rw [hpb, dat_get p hl0] at hps
  have hps2 := hps.symm
  rw [Bool.and_eq_true, beq_iff_eq] at hps2
  obtain ⟨hnb, hc0⟩ := hps2
  obtain ⟨_, hp512, hpbd⟩ := piece_fine hc0
  have hge := graftE_ok hw0 hpb
  rw [Int.toNat_natCast] at hge
  have hend := endN_at hk
  have hgr : graftR (dat l) k (dat p) = if graftE (dat l) k (dat p) = 0 then graftF (dat l) k (dat p) (endN (dat l) k) else [] := rfl
  generalize endN (dat l) k = z at *
  rw [dat_len, ← hn] at h512 hk
  rw [dat_len, ← hn'] at hp512
  have hz1 := hend.lt
  have hz2 := hend.le
  rw [dat_len, ← hn] at hz2
  have hn0' : 0 < n' := by omega
  have hnm : ∀ w1, Calls Tryz.prog 44 #[.string p[0].d.n] w1 fun e w' => e = .returned (.int .i64 0) ∧ Below w1.heap.size w1 w' := fun w1 => by
    have := pname_any p[0].d.n w1 (by have := (hsz'.small p[0].d (by unfold dat; exact List.mem_map_of_mem (List.getElem_mem hl0))).1; unfold maxLen; omega)
    rw [nameE_yes hnb] at this
    exact this
  have hec := fun w1 (hb : Below w.heap.size w w1) => end_any A cap n l hn h512 k z hend w1 B (Nat.le_trans hB hb.size) (hs.below (hb.mono hB))
  have htw := fun w1 (hb : Below w.heap.size w w1) => ptwin_any A' cap' n' p hn' hsz' w1 B (Nat.le_trans hB hb.size) (hs'.below (hb.mono hB))
  have hfirst : ∀ l1 : List Nm, dat l1 = dat p → ∀ h : 0 < l1.length, l1[0].d = p[0].d := fun l1 hd h => by
    have h1 := dat_at h
    rw [hd, dat_at hl0] at h1
    exact (Option.some.inj h1).symm
  have hset : ∀ l1 : List Nm, dat l1 = dat p → ∀ h : 0 < l1.length, dat (l1.set 0 ⟨⟨l1[0].d.p, ByteArray.empty, l1[0].d.ps⟩, l1[0].A, l1[0].c⟩) = headless (dat p) := fun l1 hd h => by
    have e : (dat p)[0]'(by rw [dat_len]; exact hl0) = l1[0].d := by
      have h1 := dat_at h
      rw [hd, List.getElem?_eq_getElem (by rw [dat_len]; exact hl0)] at h1
      exact Option.some.inj h1
    rw [dat_set, headless_set (by rw [dat_len]; exact hl0), hd, e]
  have hback : ∀ l2 : List Nm, dat l2 = headless (dat p) → ∀ h : 0 < l2.length, dat (l2.set 0 ⟨⟨l2[0].d.p, p[0].d.n, l2[0].d.ps⟩, l2[0].A, l2[0].c⟩) = dat p := fun l2 hd h => by
    have h1 := dat_at h
    have e2 : (dat p)[0]'(by rw [dat_len]; exact hl0) = p[0].d := dat_get p hl0
    rw [hd, headless_set (by rw [dat_len]; exact hl0), List.getElem?_set, if_pos rfl, if_pos (by rw [dat_len]; exact hl0), e2] at h1
    have h2 := Option.some.inj h1
    rw [dat_set, hd, headless_set (by rw [dat_len]; exact hl0), List.set_set, ← h2]
    have e3 : (⟨p[0].d.p, p[0].d.n, p[0].d.ps⟩ : Nd) = p[0].d := rfl
    simp only [e3]
    rw [← e2, List.set_getElem_self]
  have hck : ∀ (A1 : Option Addr) (c1 : Nat) (l1 : List Nm) (w1 : World), n' = l1.length → dat l1 = headless (dat p) → Nodes w1 w1.heap.size A1 l1 → Calls Tryz.prog 23 #[.slice A1 n' c1] w1 fun e w' => e = .returned (.tuple #[.int .i64 (checkF (headless (dat p))).1, .int .i64 0]) ∧ Below w1.heap.size w1 w' := fun A1 c1 l1 w1 h1 h2 h3 => by
    have := pCheck_any A1 c1 n' l1 h1 (sized_head hsz' h2) w1 w1.heap.size (Nat.le_refl _) h3
    rw [h2, hc0] at this
    exact this
  have hk2 : k < l.length := by omega
  obtain ⟨b0, o0, rfl, hbB, _⟩ := hs.at_ hk2
  have hT2 : ∀ w1, Below w.heap.size w w1 → Calls Tryz.prog 43 #[.slice (some ⟨b0, o0, none⟩) z cap] w1 fun e w' => ∃ A5 c5 l5, e = .returned (.slice A5 z c5) ∧ dat l5 = (dat l).take z ∧ OwnN w' w1.heap.size A5 z c5 l5 ∧ Below w1.heap.size w1 w' := fun w1 hb => by
    refine (ptwin_any (some ⟨b0, o0, none⟩) cap z (l.take z) (by simp; omega) (hsz.sub (fun x hx => List.mem_of_mem_take hx) (by simp; omega)) w1 B (Nat.le_trans hB hb.size) ((hs.below (hb.mono hB)).take z)).mono ?_
    rintro e w' ⟨A', c1, l1, rfl, hd, ho, hb1⟩
    exact ⟨A', c1, l1, rfl, by rw [hd]; simp [dat, List.map_take], ho, hb1⟩
  have hT3 : ∀ w1 A' c', (A' = some ⟨b0, o0 + z * 3, none⟩ ∨ z = n) → Below w.heap.size w w1 → Calls Tryz.prog 43 #[.slice A' (n - z) c'] w1 fun e w' => ∃ A5 c5 l5, e = .returned (.slice A5 (n - z) c5) ∧ dat l5 = (dat l).drop z ∧ OwnN w' w1.heap.size A5 (n - z) c5 l5 ∧ Below w1.heap.size w1 w' := fun w1 A' c' hA hb => by
    have hn3 : Nodes w1 B A' (l.drop z) := by
      rcases hA with rfl | hA
      · exact (hs.below (hb.mono hB)).drop z
      · rw [List.drop_of_length_le (by omega)]; exact Nodes.nil_ _ _ _
    refine (ptwin_any A' c' (n - z) (l.drop z) (by simp; omega) (hsz.sub (fun x hx => List.mem_of_mem_drop hx) (by simp)) w1 B (Nat.le_trans hB hb.size) hn3).mono ?_
    rintro e w' ⟨A', c1, l1, rfl, hd, ho, hb1⟩
    exact ⟨A', c1, l1, rfl, by rw [hd]; simp [dat, List.map_drop], ho, hb1⟩
  have hdl : n = (dat l).length := by rw [dat_len]; exact hn
  have hdp : n' = (dat p).length := by rw [dat_len]; exact hn'
  have hsd : ∀ lo : List Nm, dat lo = graftF (dat l) k (dat p) z → Sized lo := fun lo hd => by
    refine SizedD.mem ?_
    rw [hd]
    refine graft_sized hsz hsz' (by omega) (by omega) (by omega) (by omega) (fun x hx => ?_) (fun x hx => ?_)
    · obtain ⟨j, hj, rfl⟩ := List.mem_iff_getElem.1 hx
      have := fine_bd hf (by rw [dat_len]; omega) (j := j) (by rw [dat_len]; exact hj)
      rw [dat_get l hj] at this
      exact this
    · obtain ⟨j, hj, rfl⟩ := List.mem_iff_getElem.1 hx
      have := hpbd j (by rw [dat_len]; exact hj)
      rw [dat_get p hj] at this
      exact this
  have hlbd : ∀ j (h : j < (dat l).length), -1 ≤ (dat l)[j].p ∧ (dat l)[j].p ≤ 512 := fun j hj => fine_bd hf (by rw [dat_len]; omega) hj
  have hko : ∀ (A1 : Option Addr) (c1 : Nat) (lo : List Nm) (w1 : World) (N : Nat), N = lo.length → dat lo = graftF (dat l) k (dat p) z → Nodes w1 w1.heap.size A1 lo → Calls Tryz.prog 23 #[.slice A1 N c1] w1 fun e w' => e = .returned (.tuple #[.int .i64 (checkF (graftF (dat l) k (dat p) z)).1, .int .i64 (graftE (dat l) k (dat p))]) ∧ Below w1.heap.size w1 w' := fun A1 c1 lo w1 N h1 h2 h3 => by
    have := pCheck_any A1 c1 N lo h1 (hsd lo h2) w1 w1.heap.size (Nat.le_refl _) h3
    rw [h2, ← hge] at this
    exact this
  have htwo : graftE (dat l) k (dat p) = 0 ∨ graftE (dat l) k (dat p) = 40 := by rw [hge]; exact check_two _
  have hgF : graftF (dat l) k (dat p) z = (dat l).take z ++ putF (dat p) k z ++ ((dat l).drop z).map (liftOne z n') := by unfold graftF; rw [← hdp]
  obtain ⟨s, hss⟩ : ∃ s, s = p[0].d.n := ⟨_, rfl⟩
  simp only [← hss] at hnm hback
  have HPL := Lib.hid hpl
  have HEC := Lib.hid hec
  have HTW := Lib.hid htw
  have HSET := Lib.hid hset
  have HBACK := Lib.hid hback
  have HCK := Lib.hid hck
  have HNM := Lib.hid hnm
  have HT2 := Lib.hid hT2
  have HT3 := Lib.hid hT3
  have HKO := Lib.hid hko
  have HTWO := Lib.hid htwo
  have HGF := Lib.hid hgF
  have HGR := Lib.hid hgr
  have HPB := Lib.hid hpbd
  have HLB := Lib.hid hlbd
  have HDL := Lib.hid hdl
  have HDP := Lib.hid hdp
  have HL0 := Lib.hid hl0
  have hki : (k : Int) < (n : Int) := by omega
  have e0 : ((n' : Int) == 0) = false := by rw [beq_eq_false_iff_ne]; omega
  have hn0 : (0 : Int) < (n' : Int) := by omega
  have hzn : (z : Int) ≤ (n : Int) := by omega
  have hzc : z ≤ cap := by omega
  have hzci : (z : Int) ≤ (cap : Int) := by omega
  have hz0i : (0 : Int) ≤ (z : Int) := by omega
  have hfn : ∀ l1 : List Nm, dat l1 = dat p → ∀ h : 0 < l1.length, l1[0].d.n = s := fun l1 h1 h2 => by rw [hss, hfirst l1 h1 h2]
  have HFN := Lib.hid hfn
  clear hpl hec htw hfirst hset hback hck hnm hT2 hT3 hko htwo hgF hgr hpbd hlbd hdl hdp hl0 hfn hss hge hsd hn hsz hn' hsz' hs hs' hw0 hpb hps hnb hc0 hend hf
  go_enter Tryz.func22, Tryz.ntmps22
  go_wp2_with (first
    | (go_at_call 34; refine HPL.out.mono ?_; rintro e w1 ⟨rfl, hb1⟩; have HB1 := Lib.hid hb1; clear hb1)
    | (go_at_call 43; refine (HTW.out _ HB1.out).mono ?_; rintro e w2 ⟨A1, c1, l1, rfl, hd1, ho1, hb2⟩
       have hl1 : 0 < l1.length := by have := ho1.len; omega
       obtain ⟨g, rfl, hgb, y1, y1f, hst⟩ := ho1.name_ hl1
       rw [HFN.out l1 hd1 hl1] at y1
       simp only [Nat.zero_mul, Nat.zero_add] at y1 y1f hst
       have hgw : w.heap.size ≤ g := Nat.le_trans HB1.out.size hgb
       have HB2 := Lib.hid (HB1.out.trans (hb2.mono HB1.out.size))
       have HD1 := Lib.hid hd1
       have HO1 := Lib.hid (ho1.base_ HB1.out.size)
       clear hd1 hb2 hst ho1)
    | (go_at_call 44; refine (HNM.out _).mono ?_; rintro e w3 ⟨rfl, hb3⟩
       have HB3 := Lib.hid (HB2.out.trans (hb3.mono HB2.out.size))
       have ho3 := HO1.out.below hb3
       obtain ⟨g', hg', hgb', z1, z1f, hst⟩ := ho3.name_ hl1
       injection hg' with hg'
       injection hg' with hg'
       subst hg'
       rw [HFN.out l1 HD1.out hl1] at z1
       have ho4 := hst ByteArray.empty
       have hd4 := HSET.out l1 HD1.out hl1
       have hl2 : 0 < (l1.set 0 ⟨⟨l1[0].d.p, ByteArray.empty, l1[0].d.ps⟩, l1[0].A, l1[0].c⟩).length := by simpa using hl1
       generalize l1.set 0 ⟨⟨l1[0].d.p, ByteArray.empty, l1[0].d.ps⟩, l1[0].A, l1[0].c⟩ = l2 at ho4 hd4 hl2
       simp only [Nat.zero_mul, Nat.zero_add] at z1 z1f ho4
       have HO4 := Lib.hid ho4
       have HD4 := Lib.hid hd4
       have HB4 := Lib.hid (HB3.out.setCell (p := ⟨g, 1, none⟩) hgw (.string ByteArray.empty))
       clear hb3 ho3 hst ho4 hd4)
    | (go_at_call 23; refine (HCK.out _ _ _ _ HO4.out.len HD4.out HO4.out.nodes).mono ?_; rintro e w5 ⟨rfl, hb5⟩
       have HB5 := Lib.hid (HB4.out.trans (hb5.mono HB4.out.size))
       have ho5 := HO4.out.below hb5
       obtain ⟨g', hg', hgb', u1, u1f, hst⟩ := ho5.name_ hl2
       injection hg' with hg'
       injection hg' with hg'
       subst hg'
       generalize l2[0].d.n = t2 at u1
       have ho6 := hst s
       have hd6 := HBACK.out l2 HD4.out hl2
       have hl3 : 0 < (l2.set 0 ⟨⟨l2[0].d.p, s, l2[0].d.ps⟩, l2[0].A, l2[0].c⟩).length := by simpa using hl2
       generalize l2.set 0 ⟨⟨l2[0].d.p, s, l2[0].d.ps⟩, l2[0].A, l2[0].c⟩ = l3 at ho6 hd6 hl3
       simp only [Nat.zero_mul, Nat.zero_add] at u1 u1f ho6
       have HO6 := Lib.hid ho6
       have HD6 := Lib.hid hd6
       have HB6 := Lib.hid (HB5.out.setCell (p := ⟨g, 1, none⟩) hgw (.string s))
       clear hb5 ho5 hst ho6 hd6)
    | (go_at_call 42; refine (HEC.out _ HB6.out).mono ?_; rintro e w7 ⟨rfl, hb7⟩
       have HB7 := Lib.hid (HB6.out.trans (hb7.mono HB6.out.size))
       have ho7 := HO6.out.below hb7
       obtain ⟨g', hg', hgb', hgl, v0, v0f, _, hst⟩ := ho7.at_ hl3
       injection hg' with hg'
       injection hg' with hg'
       subst hg'
       generalize l3[0].d.p = P3 at v0
       have ho8 := hst k
       have hd8 : dat (l3.set 0 (l3[0].setP k)) = (putF (dat p) k z).take 1 ++ (dat p).drop 1 := by
         have hp0 : 0 < (dat p).length := by rw [dat_len]; exact HL0.out
         rw [dat_set, HD6.out, ← mix_step (put_len (dat p) k z) (k := 0) (by rw [put_len]; exact hp0), mix_start]
         congr 1
         rw [put_zero hp0]
         have h1 := dat_at hl3
         rw [HD6.out, List.getElem?_eq_getElem hp0] at h1
         rw [Option.some.inj h1]
         rfl
       generalize l3.set 0 (l3[0].setP k) = l4 at ho8 hd8
       simp only [Nat.zero_mul] at v0 v0f ho8
       have HO8 := Lib.hid ho8
       have HD8 := Lib.hid hd8
       have HB8 := Lib.hid (HB7.out.setCell (p := ⟨g, 0, none⟩) hgw (.int .i64 k))
       clear hb7 ho7 hst ho8 hd8))
  clear HPL HEC HTW HSET HBACK HCK HNM HFN y1 y1f z1 z1f u1 u1f v0 v0f HO1 HD1 HO4 HD4 HO6 HD6 HB1 HB2 HB3 HB4 HB5 HB6 HB7
  go_loopw [14] (fun jv wr => ∃ (j : Nat) (l' : List Nm), 1 ≤ j ∧ j ≤ n' ∧ jv = .int .i64 j ∧ OwnN wr w.heap.size (some ⟨g, 0, none⟩) n' c1 l' ∧ dat l' = (putF (dat p) k z).take j ++ (dat p).drop j ∧ Below w.heap.size w wr) (fun jv _ => n' - (intOf jv).toNat)
  case atStart => exact ⟨1, l4, by omega, by omega, rfl, HO8.out, HD8.out, HB8.out⟩
  case round =>
    obtain ⟨j, l', hj1, hj, rfl, hown, hd, hb⟩ := hrel
    have HB := Lib.hid hb
    have HO := Lib.hid hown
    have HD := Lib.hid hd
    clear HO8 HD8 HB8 hd hb
    by_cases hjm : j < n'
    · have hl' : j < l'.length := by rw [← HO.out.len]; exact hjm
      have hji : (j : Int) < (n' : Int) := by omega
      have hjp : j < (dat p).length := by rw [← HDP.out]; exact hjm
      obtain ⟨g', hg', _, _, x0, x0f, _, hset⟩ := hown.at_ hl'
      injection hg' with hg'
      injection hg' with hg'
      subst hg'
      have hPj : l'[j].d = (dat p)[j] := by
        have e1 := dat_at hl'
        rw [HD.out, mix_at (put_len (dat p) k z) (by rw [put_len]; exact hjp)] at e1
        exact (Option.some.inj e1).symm
      have hbd := HPB.out j hjp
      rw [← hPj] at hbd
      have hnext : dat (l'.set j (l'[j].setP (l'[j].d.p + z))) = (putF (dat p) k z).take (j + 1) ++ (dat p).drop (j + 1) := by
        rw [dat_set, HD.out, ← mix_step (put_len (dat p) k z) (k := j) (by rw [put_len]; exact hjp)]
        congr 1
        rw [put_get hjp, if_neg (by omega), ← hPj]
        rfl
      have hset2 := hset (l'[j].d.p + z)
      obtain ⟨P, hP⟩ : ∃ P, P = l'[j].d.p := ⟨_, rfl⟩
      rw [← hP] at x0 hbd hnext hset2
      generalize l'.set j (l'[j].setP (P + z)) = l5 at hnext hset2
      obtain ⟨hPa, hPb⟩ := hbd
      have HN4 := Lib.hid hnext
      have HS4 := Lib.hid hset2
      have hb4 : Below w.heap.size w (wr.setCell ⟨g, j * 3, none⟩ (.int .i64 (P + z))) := HB.out.setCell hgw _
      have HB4 := Lib.hid hb4
      clear hnext hset2 hset hP hPj hown hb4
      go_wp2
      exact ⟨⟨j + 1, l5, by omega, by omega, by go_num, HS4.out, HN4.out, HB4.out⟩, by simp [intOf]; omega⟩
    obtain rfl : j = n' := by omega
    have hdX : dat l' = putF (dat p) k z := by
      have e := HD.out
      rw [show j = (putF (dat p) k z).length by rw [put_len]; exact HDP.out, mix_end (put_len (dat p) k z)] at e
      exact e
    have HDX := Lib.hid hdX
    clear hdX hown HD
    obtain ⟨wm, hwm⟩ : ∃ wm, wm = wr := ⟨_, rfl⟩
    subst hwm
    obtain ⟨q, hq⟩ : ∃ q, q = n - z := ⟨_, rfl⟩
    have hq5 : q ≤ 512 := by omega
    have HQ := Lib.hid hq
    clear hq
    by_cases hzcap : z = cap
    · obtain rfl : cap = z := hzcap.symm
      obtain rfl : n = cap := by omega
      have hT4 : ∀ w1, Below w.heap.size w w1 → Calls Tryz.prog 43 #[.slice (some ⟨b0, o0, none⟩) 0 0] w1 fun e w' => ∃ A5 c5 l5, e = .returned (.slice A5 q c5) ∧ dat l5 = (dat l).drop n ∧ OwnN w' w1.heap.size A5 q c5 l5 ∧ Below w1.heap.size w1 w' := fun w1 hb => by
        have := HT3.out w1 (some ⟨b0, o0, none⟩) 0 (.inr rfl) hb
        rw [Nat.sub_self] at this
        have hq0 : q = 0 := by rw [HQ.out]; exact Nat.sub_self _
        exact this.mono fun e w' ⟨A5, c5, l5, h1, h2, h3, h4⟩ => ⟨A5, c5, l5, by rw [h1, hq0], h2, by rw [hq0]; exact h3, h4⟩
      have HT4 := Lib.hid hT4
      clear hT4 hzcap
      go_wp2_with (first
        | (go_at_call 43; refine (HT4.out _ HB.out).mono ?_; rintro e w8 ⟨A5, c5, l5, rfl, hd5, ho5, hb5⟩;  have HO5 := Lib.hid ho5; have HD5 := Lib.hid hd5; have HB5 := Lib.hid hb5; clear ho5 hd5 hb5))
      clear HT3
      have hX2l : (((dat l).drop n).map (liftOne n j)).length = ((dat l).drop n).length := by simp
      have hD2l : ((dat l).drop n).length = q := by rw [← HD5.out, dat_len]; exact HO5.out.len.symm
      have HX2 := Lib.hid hX2l
      have HD2 := Lib.hid hD2l
      clear hX2l hD2l
      go_loopw [86] (fun iv wx => ∃ (i : Nat) (l6 : List Nm), i ≤ q ∧ iv = .int .i64 i ∧ OwnN wx wm.heap.size A5 q c5 l6 ∧ dat l6 = (((dat l).drop n).map (liftOne n j)).take i ++ ((dat l).drop n).drop i ∧ Below wm.heap.size wm wx) (fun iv _ => q - (intOf iv).toNat)
      case atStart => exact ⟨0, l5, by omega, rfl, HO5.out, by rw [HD5.out, mix_start], HB5.out⟩
      case round =>
        obtain ⟨i, l6, hiq, rfl, hown6, hd6, hbx⟩ := hrel
        have HO6 := Lib.hid hown6
        have HD6 := Lib.hid hd6
        have HBX := Lib.hid hbx
        clear HO5 HD5 HB5 hd6 hbx
        by_cases hil : i < q
        · have hl6 : i < l6.length := by rw [← HO6.out.len]; exact hil
          have hii : (i : Int) < (q : Int) := by omega
          obtain ⟨g6, rfl, hg6, _, x0, x0f, _, hset⟩ := hown6.at_ hl6
          have hid : i < ((dat l).drop n).length := by rw [HD2.out]; exact hil
          have hix : i < (((dat l).drop n).map (liftOne n j)).length := by rw [HX2.out]; exact hid
          have hPj : l6[i].d = ((dat l).drop n)[i] := by
            have e1 := dat_at hl6
            rw [HD6.out, mix_at HX2.out hix] at e1
            exact (Option.some.inj e1).symm
          have hXj : (((dat l).drop n).map (liftOne n j))[i] = liftOne n j l6[i].d := by rw [hPj]; exact List.getElem_map _
          have hzj : n + i < (dat l).length := by simp at hid; omega
          have hbd := HLB.out (n + i) hzj
          have e1 : l6[i].d = (dat l)[n + i] := by rw [hPj]; simp
          rw [← e1] at hbd
          have hsame : liftOne n j l6[i].d = l6[i].d → dat l6 = (((dat l).drop n).map (liftOne n j)).take (i + 1) ++ ((dat l).drop n).drop (i + 1) := fun e => by
            rw [mix_same HX2.out hix (by rw [hXj, e, hPj])]
            exact HD6.out
          have hdiff : ∀ p, liftOne n j l6[i].d = l6[i].d.par p → dat (l6.set i (l6[i].setP p)) = (((dat l).drop n).map (liftOne n j)).take (i + 1) ++ ((dat l).drop n).drop (i + 1) := fun p e => by
            rw [dat_set, HD6.out, ← mix_step HX2.out hix, hXj, e]
            rfl
          have hro : liftOne n j l6[i].d = if (n : Int) ≤ l6[i].d.p then l6[i].d.par (l6[i].d.p + j) else l6[i].d := rfl
          obtain ⟨P, hP⟩ : ∃ P, P = l6[i].d.p := ⟨_, rfl⟩
          rw [← hP] at x0 hbd hro
          obtain ⟨hPa, hPb⟩ := hbd
          have HSA := Lib.hid hsame
          have HDI := Lib.hid hdiff
          have HRO := Lib.hid hro
          have HST := Lib.hid hset
          clear hsame hdiff hro hset hP hPj hXj hown6 e1
          by_cases hzP : (n : Int) ≤ P
          · have e1 : decide ((n : Int) ≤ P) = true := by simpa using hzP
            have hnx := HDI.out (P + j) (by rw [HRO.out, if_pos hzP])
            have hs8 := HST.out (P + j)
            have hb9 : Below wm.heap.size wm (wr.setCell ⟨g6, i * 3, none⟩ (.int .i64 (P + j))) := HBX.out.setCell hg6 _
            generalize l6.set i (l6[i].setP (P + j)) = l9 at hnx hs8
            have HNX := Lib.hid hnx
            have HS8 := Lib.hid hs8
            have HB9 := Lib.hid hb9
            clear hnx hs8 hb9
            go_wp2
            exact ⟨⟨i + 1, l9, by omega, by go_num, HS8.out, HNX.out, HB9.out⟩, by simp [intOf]; omega⟩
          · have e1 : decide ((n : Int) ≤ P) = false := by simpa using hzP
            have hnx := HSA.out (by rw [HRO.out, if_neg hzP])
            have HNX := Lib.hid hnx
            clear hnx
            go_wp2
            exact ⟨⟨i + 1, l6, by omega, by go_num, HO6.out, HNX.out, HBX.out⟩, by simp [intOf]; omega⟩
        obtain rfl : i = q := by omega
        have hdX2 : dat l6 = ((dat l).drop n).map (liftOne n j) := by
          have e := HD6.out
          rw [show i = (((dat l).drop n).map (liftOne n j)).length by rw [HX2.out, HD2.out], mix_end HX2.out] at e
          exact e
        have HDX2 := Lib.hid hdX2
        clear hdX2 hown6 HD6 HX2 HD2
        have hbw := HB.out.trans (HBX.out.mono HB.out.size)
        have HBW := Lib.hid hbw
        clear hbw
        obtain ⟨wq, hwq⟩ : ∃ wq, wq = wr := ⟨_, rfl⟩
        subst hwq
        have hcc : ∀ (w9 : World) (A7 : Option Addr) (c7 : Nat) (l7 : List Nm), dat l7 = (dat l).take n → OwnN w9 wq.heap.size A7 n c7 l7 → Below wq.heap.size wq w9 →
            Calls Tryz.prog 45 #[.slice (some ⟨w9.heap.size, 0, none⟩) 3 3] (w9.alloc (.cells #[.slice A7 n c7, .slice (some ⟨g, 0, none⟩) j c1, .slice A5 i c5] 22)) fun e w' => ∃ N A8 c8 l8, e = .returned (.slice A8 N c8) ∧ OwnN w' w.heap.size A8 N c8 l8 ∧ dat l8 = graftF (dat l) k (dat p) n ∧ Below w.heap.size w w' := fun w9 A7 c7 l7 hd7 ho7 hb9 => by
          have hb79 : Below w9.heap.size w9 (w9.alloc (.cells #[.slice A7 n c7, .slice (some ⟨g, 0, none⟩) j c1, .slice A5 i c5] 22)) := (Below.refl _ _).alloc (Nat.le_refl _) _
          have kp := HO.out.below (HBX.out.trans (hb9.mono HBX.out.size))
          have kr := HO6.out.below hb9
          have e1 := ho7.len
          have e2 := HO.out.len
          have e3 := HO6.out.len
          refine (concat_any (some ⟨w9.heap.size, 0, none⟩) 3 3 [⟨A7, c7, l7⟩, ⟨some ⟨g, 0, none⟩, c1, l'⟩, ⟨A5, c5, l6⟩] rfl (by omega) (n + j + i) (by simp [cat]; omega) (by omega) _ (w9.heap.size + 1) (by simp) ?_ ?_).mono ?_
          · have := seg_new w9 22 #[.slice A7 n c7, .slice (some ⟨g, 0, none⟩) j c1, .slice A5 i c5]
            simpa [Part.val, ← e1, ← e2, ← e3] using this
          · intro x hx
            simp at hx
            rcases hx with rfl | rfl | rfl
            · exact ((own_seg ho7.row).below hb79).more (by omega)
            · exact ((own_seg kp.row).below hb79).more (by omega)
            · exact ((own_seg kr.row).below hb79).more (by omega)
          rintro e w' ⟨A8, c8, rfl, hr8, hb8⟩
          have hsz9 : (w9.alloc (.cells #[.slice A7 n c7, .slice (some ⟨g, 0, none⟩) j c1, .slice A5 i c5] 22)).heap.size = w9.heap.size + 1 := by simp
          have hb98 : Below w9.heap.size w9 w' := hb79.trans (hb8.mono (by omega))
          have hq8 : Below wq.heap.size wq w' := hb9.trans (hb98.mono hb9.size)
          have hm8 : Below wm.heap.size wm w' := HBX.out.trans (hq8.mono HBX.out.size)
          have hc : cat [⟨A7, c7, l7⟩, ⟨some ⟨g, 0, none⟩, c1, l'⟩, ⟨A5, c5, l6⟩] = l7 ++ l' ++ l6 := by simp [cat]
          rw [hc] at hr8
          refine ⟨n + j + i, A8, c8, l7 ++ l' ++ l6, rfl, cat3 HO.out HO6.out ho7 (Nat.le_refl _) (Nat.le_refl _) hm8 hq8 hb98 (Nat.le_refl _) ?_ HB.out.size HBX.out.size hr8 rfl, ?_, HBW.out.trans (hq8.mono HBW.out.size)⟩
          · have h1 := HBW.out.size
            have h2 := hb9.size
            rw [hsz9]
            omega
          · rw [HGF.out]
            unfold dat at hd7 ⊢
            have h1 := HDX.out
            have h2 := HDX2.out
            unfold dat at h1 h2
            rw [List.map_append, List.map_append, hd7, h1, h2]
        have HCC := Lib.hid hcc
        clear hcc
        rcases HTWO.out with hE | hE
        · have hko2 := HKO.out
          rw [hE] at hko2
          have HK2 := Lib.hid hko2
          have HE := Lib.hid hE
          clear hko2 hE HKO
          go_wp2_with (first
            | (go_at_call 23; refine (HK2.out _ _ l8 _ _ HO8.out.len HD8.out HO8.out.nodes).mono ?_; rintro e w11 ⟨rfl, hb11⟩; have HO11 := Lib.hid (HO8.out.below hb11); have HB11 := Lib.hid (HB8.out.trans (hb11.mono HB8.out.size)); clear hb11)
            | (go_at_call 45; refine (HCC.out _ _ _ l7 HD7.out HO7.out HB7.out).mono ?_; rintro e w10 ⟨N, A8, c8, l8, rfl, ho8, hd8, hb8⟩; have HO8 := Lib.hid ho8; have HD8 := Lib.hid hd8; have HB8 := Lib.hid hb8; clear ho8 hd8 hb8)
            | (go_at_call 43; refine (HT2.out _ HBW.out).mono ?_; rintro e w9 ⟨A7, c7, l7, rfl, hd7, ho7, hb7⟩; have HO7 := Lib.hid ho7; have HD7 := Lib.hid hd7; have HB7 := Lib.hid hb7; clear ho7 hd7 hb7))
          go_ret2
          refine ⟨⟨A8, N, c8, l8, by rw [HE.out]; rfl, HO11.out, ?_⟩, HB11.out⟩
          rw [HGR.out, if_pos HE.out]
          exact HD8.out
        · have hko2 := HKO.out
          rw [hE] at hko2
          have HK2 := Lib.hid hko2
          have hfin := fun w' => graftret_no (w' := w') (base := w.heap.size) (show (40 : Int) ≠ 0 by omega) hE.symm
          have HF := Lib.hid hfin
          clear hko2 hE HKO hfin
          go_wp2_with (first
            | (go_at_call 23; refine (HK2.out _ _ l8 _ _ HO8.out.len HD8.out HO8.out.nodes).mono ?_; rintro e w11 ⟨rfl, hb11⟩; have HB11 := Lib.hid (HB8.out.trans (hb11.mono HB8.out.size)); clear hb11)
            | (go_at_call 45; refine (HCC.out _ _ _ l7 HD7.out HO7.out HB7.out).mono ?_; rintro e w10 ⟨N, A8, c8, l8, rfl, ho8, hd8, hb8⟩; have HO8 := Lib.hid ho8; have HD8 := Lib.hid hd8; have HB8 := Lib.hid hb8; clear ho8 hd8 hb8)
            | (go_at_call 43; refine (HT2.out _ HBW.out).mono ?_; rintro e w9 ⟨A7, c7, l7, rfl, hd7, ho7, hb7⟩; have HO7 := Lib.hid ho7; have HD7 := Lib.hid hd7; have HB7 := Lib.hid hb7; clear ho7 hd7 hb7))
          go_ret2
          exact ⟨HF.out _, HB11.out⟩
    have hzcl : (z : Int) < (cap : Int) := by omega
    have hzcl2 : z < cap := by omega
    go_wp2_with (first
      | (go_at_call 43; refine (HT3.out _ _ _ (.inl rfl) HB.out).mono ?_; rintro e w8 ⟨A5, c5, l5, rfl, hd5, ho5, hb5⟩; rw [show (n - z) = q by have := HQ.out; omega] at ho5 ⊢; have HO5 := Lib.hid ho5; have HD5 := Lib.hid hd5; have HB5 := Lib.hid hb5; clear ho5 hd5 hb5))
    clear HT3
    have hX2l : (((dat l).drop z).map (liftOne z j)).length = ((dat l).drop z).length := by simp
    have hD2l : ((dat l).drop z).length = q := by rw [← HD5.out, dat_len]; exact HO5.out.len.symm
    have HX2 := Lib.hid hX2l
    have HD2 := Lib.hid hD2l
    clear hX2l hD2l
    go_loopw [86] (fun iv wx => ∃ (i : Nat) (l6 : List Nm), i ≤ q ∧ iv = .int .i64 i ∧ OwnN wx wm.heap.size A5 q c5 l6 ∧ dat l6 = (((dat l).drop z).map (liftOne z j)).take i ++ ((dat l).drop z).drop i ∧ Below wm.heap.size wm wx) (fun iv _ => q - (intOf iv).toNat)
    case atStart => exact ⟨0, l5, by omega, rfl, HO5.out, by rw [HD5.out, mix_start], HB5.out⟩
    case round =>
      obtain ⟨i, l6, hiq, rfl, hown6, hd6, hbx⟩ := hrel
      have HO6 := Lib.hid hown6
      have HD6 := Lib.hid hd6
      have HBX := Lib.hid hbx
      clear HO5 HD5 HB5 hd6 hbx
      by_cases hil : i < q
      · have hl6 : i < l6.length := by rw [← HO6.out.len]; exact hil
        have hii : (i : Int) < (q : Int) := by omega
        obtain ⟨g6, rfl, hg6, _, x0, x0f, _, hset⟩ := hown6.at_ hl6
        have hid : i < ((dat l).drop z).length := by rw [HD2.out]; exact hil
        have hix : i < (((dat l).drop z).map (liftOne z j)).length := by rw [HX2.out]; exact hid
        have hPj : l6[i].d = ((dat l).drop z)[i] := by
          have e1 := dat_at hl6
          rw [HD6.out, mix_at HX2.out hix] at e1
          exact (Option.some.inj e1).symm
        have hXj : (((dat l).drop z).map (liftOne z j))[i] = liftOne z j l6[i].d := by rw [hPj]; exact List.getElem_map _
        have hzj : z + i < (dat l).length := by simp at hid; omega
        have hbd := HLB.out (z + i) hzj
        have e1 : l6[i].d = (dat l)[z + i] := by rw [hPj]; simp
        rw [← e1] at hbd
        have hsame : liftOne z j l6[i].d = l6[i].d → dat l6 = (((dat l).drop z).map (liftOne z j)).take (i + 1) ++ ((dat l).drop z).drop (i + 1) := fun e => by
          rw [mix_same HX2.out hix (by rw [hXj, e, hPj])]
          exact HD6.out
        have hdiff : ∀ p, liftOne z j l6[i].d = l6[i].d.par p → dat (l6.set i (l6[i].setP p)) = (((dat l).drop z).map (liftOne z j)).take (i + 1) ++ ((dat l).drop z).drop (i + 1) := fun p e => by
          rw [dat_set, HD6.out, ← mix_step HX2.out hix, hXj, e]
          rfl
        have hro : liftOne z j l6[i].d = if (z : Int) ≤ l6[i].d.p then l6[i].d.par (l6[i].d.p + j) else l6[i].d := rfl
        obtain ⟨P, hP⟩ : ∃ P, P = l6[i].d.p := ⟨_, rfl⟩
        rw [← hP] at x0 hbd hro
        obtain ⟨hPa, hPb⟩ := hbd
        have HSA := Lib.hid hsame
        have HDI := Lib.hid hdiff
        have HRO := Lib.hid hro
        have HST := Lib.hid hset
        clear hsame hdiff hro hset hP hPj hXj hown6 e1
        by_cases hzP : (z : Int) ≤ P
        · have e1 : decide ((z : Int) ≤ P) = true := by simpa using hzP
          have hnx := HDI.out (P + j) (by rw [HRO.out, if_pos hzP])
          have hs8 := HST.out (P + j)
          have hb9 : Below wm.heap.size wm (wr.setCell ⟨g6, i * 3, none⟩ (.int .i64 (P + j))) := HBX.out.setCell hg6 _
          generalize l6.set i (l6[i].setP (P + j)) = l9 at hnx hs8
          have HNX := Lib.hid hnx
          have HS8 := Lib.hid hs8
          have HB9 := Lib.hid hb9
          clear hnx hs8 hb9
          go_wp2
          exact ⟨⟨i + 1, l9, by omega, by go_num, HS8.out, HNX.out, HB9.out⟩, by simp [intOf]; omega⟩
        · have e1 : decide ((z : Int) ≤ P) = false := by simpa using hzP
          have hnx := HSA.out (by rw [HRO.out, if_neg hzP])
          have HNX := Lib.hid hnx
          clear hnx
          go_wp2
          exact ⟨⟨i + 1, l6, by omega, by go_num, HO6.out, HNX.out, HBX.out⟩, by simp [intOf]; omega⟩
      obtain rfl : i = q := by omega
      have hdX2 : dat l6 = ((dat l).drop z).map (liftOne z j) := by
        have e := HD6.out
        rw [show i = (((dat l).drop z).map (liftOne z j)).length by rw [HX2.out, HD2.out], mix_end HX2.out] at e
        exact e
      have HDX2 := Lib.hid hdX2
      clear hdX2 hown6 HD6 HX2 HD2
      have hbw := HB.out.trans (HBX.out.mono HB.out.size)
      have HBW := Lib.hid hbw
      clear hbw
      obtain ⟨wq, hwq⟩ : ∃ wq, wq = wr := ⟨_, rfl⟩
      subst hwq
      have hcc : ∀ (w9 : World) (A7 : Option Addr) (c7 : Nat) (l7 : List Nm), dat l7 = (dat l).take z → OwnN w9 wq.heap.size A7 z c7 l7 → Below wq.heap.size wq w9 →
          Calls Tryz.prog 45 #[.slice (some ⟨w9.heap.size, 0, none⟩) 3 3] (w9.alloc (.cells #[.slice A7 z c7, .slice (some ⟨g, 0, none⟩) j c1, .slice A5 i c5] 22)) fun e w' => ∃ N A8 c8 l8, e = .returned (.slice A8 N c8) ∧ OwnN w' w.heap.size A8 N c8 l8 ∧ dat l8 = graftF (dat l) k (dat p) z ∧ Below w.heap.size w w' := fun w9 A7 c7 l7 hd7 ho7 hb9 => by
        have hb79 : Below w9.heap.size w9 (w9.alloc (.cells #[.slice A7 z c7, .slice (some ⟨g, 0, none⟩) j c1, .slice A5 i c5] 22)) := (Below.refl _ _).alloc (Nat.le_refl _) _
        have kp := HO.out.below (HBX.out.trans (hb9.mono HBX.out.size))
        have kr := HO6.out.below hb9
        have e1 := ho7.len
        have e2 := HO.out.len
        have e3 := HO6.out.len
        refine (concat_any (some ⟨w9.heap.size, 0, none⟩) 3 3 [⟨A7, c7, l7⟩, ⟨some ⟨g, 0, none⟩, c1, l'⟩, ⟨A5, c5, l6⟩] rfl (by omega) (z + j + i) (by simp [cat]; omega) (by omega) _ (w9.heap.size + 1) (by simp) ?_ ?_).mono ?_
        · have := seg_new w9 22 #[.slice A7 z c7, .slice (some ⟨g, 0, none⟩) j c1, .slice A5 i c5]
          simpa [Part.val, ← e1, ← e2, ← e3] using this
        · intro x hx
          simp at hx
          rcases hx with rfl | rfl | rfl
          · exact ((own_seg ho7.row).below hb79).more (by omega)
          · exact ((own_seg kp.row).below hb79).more (by omega)
          · exact ((own_seg kr.row).below hb79).more (by omega)
        rintro e w' ⟨A8, c8, rfl, hr8, hb8⟩
        have hsz9 : (w9.alloc (.cells #[.slice A7 z c7, .slice (some ⟨g, 0, none⟩) j c1, .slice A5 i c5] 22)).heap.size = w9.heap.size + 1 := by simp
        have hb98 : Below w9.heap.size w9 w' := hb79.trans (hb8.mono (by omega))
        have hq8 : Below wq.heap.size wq w' := hb9.trans (hb98.mono hb9.size)
        have hm8 : Below wm.heap.size wm w' := HBX.out.trans (hq8.mono HBX.out.size)
        have hc : cat [⟨A7, c7, l7⟩, ⟨some ⟨g, 0, none⟩, c1, l'⟩, ⟨A5, c5, l6⟩] = l7 ++ l' ++ l6 := by simp [cat]
        rw [hc] at hr8
        refine ⟨z + j + i, A8, c8, l7 ++ l' ++ l6, rfl, cat3 HO.out HO6.out ho7 (Nat.le_refl _) (Nat.le_refl _) hm8 hq8 hb98 (Nat.le_refl _) ?_ HB.out.size HBX.out.size hr8 rfl, ?_, HBW.out.trans (hq8.mono HBW.out.size)⟩
        · have h1 := HBW.out.size
          have h2 := hb9.size
          rw [hsz9]
          omega
        · rw [HGF.out]
          unfold dat at hd7 ⊢
          have h1 := HDX.out
          have h2 := HDX2.out
          unfold dat at h1 h2
          rw [List.map_append, List.map_append, hd7, h1, h2]
      have HCC := Lib.hid hcc
      clear hcc
      rcases HTWO.out with hE | hE
      · have hko2 := HKO.out
        rw [hE] at hko2
        have HK2 := Lib.hid hko2
        have HE := Lib.hid hE
        clear hko2 hE HKO
        go_wp2_with (first
          | (go_at_call 23; refine (HK2.out _ _ l8 _ _ HO8.out.len HD8.out HO8.out.nodes).mono ?_; rintro e w11 ⟨rfl, hb11⟩; have HO11 := Lib.hid (HO8.out.below hb11); have HB11 := Lib.hid (HB8.out.trans (hb11.mono HB8.out.size)); clear hb11)
          | (go_at_call 45; refine (HCC.out _ _ _ l7 HD7.out HO7.out HB7.out).mono ?_; rintro e w10 ⟨N, A8, c8, l8, rfl, ho8, hd8, hb8⟩; have HO8 := Lib.hid ho8; have HD8 := Lib.hid hd8; have HB8 := Lib.hid hb8; clear ho8 hd8 hb8)
          | (go_at_call 43; refine (HT2.out _ HBW.out).mono ?_; rintro e w9 ⟨A7, c7, l7, rfl, hd7, ho7, hb7⟩; have HO7 := Lib.hid ho7; have HD7 := Lib.hid hd7; have HB7 := Lib.hid hb7; clear ho7 hd7 hb7))
        go_ret2
        refine ⟨⟨A8, N, c8, l8, by rw [HE.out]; rfl, HO11.out, ?_⟩, HB11.out⟩
        rw [HGR.out, if_pos HE.out]
        exact HD8.out
      · have hko2 := HKO.out
        rw [hE] at hko2
        have HK2 := Lib.hid hko2
        have hfin := fun w' => graftret_no (w' := w') (base := w.heap.size) (show (40 : Int) ≠ 0 by omega) hE.symm
        have HF := Lib.hid hfin
        clear hko2 hE HKO hfin
        go_wp2_with (first
          | (go_at_call 23; refine (HK2.out _ _ l8 _ _ HO8.out.len HD8.out HO8.out.nodes).mono ?_; rintro e w11 ⟨rfl, hb11⟩; have HB11 := Lib.hid (HB8.out.trans (hb11.mono HB8.out.size)); clear hb11)
          | (go_at_call 45; refine (HCC.out _ _ _ l7 HD7.out HO7.out HB7.out).mono ?_; rintro e w10 ⟨N, A8, c8, l8, rfl, ho8, hd8, hb8⟩; have HO8 := Lib.hid ho8; have HD8 := Lib.hid hd8; have HB8 := Lib.hid hb8; clear ho8 hd8 hb8)
          | (go_at_call 43; refine (HT2.out _ HBW.out).mono ?_; rintro e w9 ⟨A7, c7, l7, rfl, hd7, ho7, hb7⟩; have HO7 := Lib.hid ho7; have HD7 := Lib.hid hd7; have HB7 := Lib.hid hb7; clear ho7 hd7 hb7))
        go_ret2
        exact ⟨HF.out _, HB11.out⟩
end Go.Proofs.YtmdnbajbfnhecaaGreatDoor
