/- The program's check: the contract. -/
import Derived.Test.YtmdnbajbfnhecaaGreatDoorCkLaw
set_option linter.unusedVariables false
namespace Go.Proofs.YtmdnbajbfnhecaaGreatDoor
open Go.RowKit
/-- What check hands back: the place, the depths (of no matter here), whether it is a tree. -/
def CheckRet (R : Int × Int) (e : Ending) : Prop := ∃ (a : Int) (v : Value) (ok : Bool), e = .returned (.tuple #[.int .i64 a, v, .bool ok]) ∧ ((a, if ok then 0 else 40) : Int × Int) = R
set_option maxRecDepth 100000 in
set_option maxHeartbeats 8000000 in
theorem pcheck_any (A : Option Addr) (cap n : Nat) (l : List Nm) (hn : n = l.length) (hsz : Sized l) (w : World) (B : Nat) (hB : B ≤ w.heap.size) (hs : Nodes w B A l) :
    Calls Tryz.prog 46 #[.slice A n cap] w fun e w' => CheckRet (checkF (dat l)) e ∧ Below w.heap.size w w' := by
  have hnn : n ≤ 2932031007403 := by have := hsz.n; omega
  obtain ⟨q, hq, hq1, hq2⟩ : ∃ q : Nat, min (n : Int) 512 = (q : Int) ∧ (∀ k, k < n → k < 512 → k + 1 ≤ q) ∧ q ≤ 512 := ⟨min n 512, by omega, fun k h1 h2 => by omega, by omega⟩
  have hmk := make_row q (by omega) w
  have hmm := @run_makeMap Tryz.prog
  obtain ⟨i0, fi, fz0, fz1, fz2⟩ := info_parts Tryz.info3
  obtain ⟨R, hR⟩ : ∃ R, R = checkF (dat l) := ⟨_, rfl⟩
  have hbad : ∀ k, k < n → Fine (dat l) k → nodeOkB (dat l) k = false → R = ((k : Int), 40) := fun k hk hf hb => hR.trans (check_bad (by rw [dat_len, ← hn]; exact hk) hf hb)
  have hok : Fine (dat l) n → R = if n = 0 then (0, 40) else (0, 0) := fun hf => by
    have h := check_ok (l := dat l) (by rw [dat_len, ← hn]; exact hf)
    rw [dat_len, ← hn] at h
    exact hR.trans h
  rw [← hR]
  have HBAD := Lib.hid hbad
  have HOKR := Lib.hid hok
  have HL := Lib.hid hn
  have HS := Lib.hid hs
  have HSZ := Lib.hid hsz
  have HQ1 := Lib.hid hq1
  have HQ2 := Lib.hid hq2
  clear hbad hok hn hs hsz hR hq1 hq2
  go_enter Tryz.func46, Tryz.ntmps46
  go_wp2
  go_loopw [19, 5, 6] (fun iv dv pv wr => ∃ (k pl cp : Nat) (Ap : Option Addr), k ≤ n ∧ iv = .int .i64 k ∧ dv = .slice (some ⟨w.heap.size, 0, none⟩) k q ∧ pv = .slice Ap pl cp ∧ Fine (dat l) k ∧ pl = (pathTo (dat l) k).length ∧
    wr.ownsRow w.heap.size 3 1 (.slice (some ⟨w.heap.size, 0, none⟩) k q) k (i64s (depths (dat l) k)) ∧ wr.ownsRow (w.heap.size + 2) 3 1 (.slice Ap pl cp) pl (i64s (pathTo (dat l) k)) ∧
    SetAt Tryz.prog 101 4 wr (w.heap.size + 1) k (Kids (dat l) k) ∧ Below w.heap.size w wr) (fun iv _ _ _ => n - (intOf iv).toNat)
  case atStart =>
    have h1 : (w.alloc (.cells (madeCells #[.int .i64 0] q) 3)).heap.size = w.heap.size + 1 := by simp
    refine ⟨0, 0, 0, none, by omega, rfl, rfl, rfl, fun j hj => absurd hj (Nat.not_lt_zero j), ?_, (own_made (Nat.le_refl _) (by have := HQ2.out; unfold maxLen; omega)).alloc _, ?_, ?_, ((Below.refl _ _).alloc (Nat.le_refl _) _).alloc (by simp) _⟩
    · unfold pathTo; rw [above_neg _ (by omega)]; rfl
    · unfold pathTo; rw [above_neg _ (by omega)]; exact World.ownsRow_nil _ _ _ _
    · have := (set_made (w.alloc (.cells (madeCells #[.int .i64 0] q) 3)) Tryz.prog 101 4).congr (kids_zero (dat l))
      rw [h1] at this
      exact this
  case round =>
    obtain ⟨k, pl, cp, Ap, hk, rfl, rfl, rfl, hf, hpl, hdr, hpr, hset, hb⟩ := hrel
    have HF := Lib.hid hf
    have HPL := Lib.hid hpl
    have HDR := Lib.hid hdr
    have HPR := Lib.hid hpr
    have HSET := Lib.hid hset
    have HB := Lib.hid hb
    clear hf hpl hdr hpr hset hb hmk hmm hq
    by_cases hlt : k < n
    case neg =>
      obtain rfl : k = n := by omega
      have hR := HOKR.out HF.out
      by_cases h0 : k = 0
      · subst h0
        rw [if_pos rfl] at hR
        subst hR
        go_wp2
        go_ret3
        exact ⟨⟨_, _, _, rfl, rfl⟩, HB.out⟩
      · rw [if_neg h0] at hR
        subst hR
        go_wp2
        go_ret3
        exact ⟨⟨_, _, _, rfl, by rw [if_pos (by simp; omega)]⟩, HB.out⟩
    have hkl : k < l.length := by rw [← HL.out]; exact hlt
    have hki : (k : Int) < (n : Int) := by omega
    have hkd : k < (dat l).length := by rw [dat_len]; exact hkl
    have hft := fits hkd
    rw [dat_get l hkl] at hft
    have hbad := HBAD.out k hlt HF.out
    have hp : ∀ w1, Below B w w1 → Calls Tryz.prog 63 #[.slice l[k].A l[k].d.ps.length l[k].c] w1 fun e w' => e = .returned (.bool (propsB l[k].d.ps)) ∧ Below w1.heap.size w1 w' := fun w1 hb =>
      pprops_any _ _ _ _ rfl (by have := HSZ.out.props _ (List.getElem_mem hkl); omega) (HSZ.out.small l[k].d (by unfold dat; exact List.mem_map_of_mem (List.getElem_mem hkl))).2 w1 B (by have := hb.size; omega) ((HS.out.props _ (List.getElem_mem hkl)).below hb)
    have hnz := (HSZ.out.small l[k].d (by unfold dat; exact List.mem_map_of_mem (List.getElem_mem hkl))).1
    have hnm : ∀ w1, Calls Tryz.prog 44 #[.string l[k].d.n] w1 fun e w' => e = .returned (.int .i64 (if nameB l[k].d.n.data.toList then 0 else 10)) ∧ Below w1.heap.size w1 w' := fun w1 => by
      have := pname_any l[k].d.n w1 (by unfold maxLen; omega)
      unfold nameE at this
      exact this
    obtain ⟨b, off, rfl, hbB, x0, x1, x2, _⟩ := (HS.out.below (HB.out.mono hB)).at_ hkl
    have hw0 := HSZ.out.wf _ (List.getElem_mem hkl)
    have hkid : ∀ v, (v = kidVal l[k].d ∨ Kids (dat l) k v) → 1 ≤ k → Kids (dat l) (k + 1) v := fun v h h1 => (kids_succ hkd h1 v).1 (by rw [dat_get l hkl]; exact h)
    have hkid2 : ∀ v, 1 ≤ k → ((v = kidVal l[k].d ∨ Kids (dat l) k v) ↔ Kids (dat l) (k + 1) v) := fun v h1 => by
      have := kids_succ hkd h1 v
      rw [dat_get l hkl] at this
      exact this
    have hpar := par_get l hkl
    have hsame : nodeOkB (dat l) k = nodeOkB (dat l) k := rfl
    obtain ⟨r, hr⟩ : ∃ r, r = nodeOkB (dat l) k := ⟨_, rfl⟩
    have hfin : r = true → Fine (dat l) (k + 1) := fun h => fine_succ HF.out (by rw [← hr]; exact h)
    rw [← hr] at hft hbad
    obtain ⟨P, hP⟩ : ∃ P, P = l[k].d.p := ⟨_, rfl⟩
    obtain ⟨s, hss⟩ : ∃ s, s = l[k].d.n := ⟨_, rfl⟩
    obtain ⟨zA, hzA⟩ : ∃ zA, zA = l[k].A := ⟨_, rfl⟩
    obtain ⟨zc, hzc⟩ : ∃ zc, zc = l[k].c := ⟨_, rfl⟩
    obtain ⟨zn, hzn⟩ : ∃ zn, zn = l[k].d.ps.length := ⟨_, rfl⟩
    obtain ⟨bp, hbp⟩ : ∃ bp, bp = propsB l[k].d.ps := ⟨_, rfl⟩
    obtain ⟨bn, hbn⟩ : ∃ bn, bn = nameB l[k].d.n.data.toList := ⟨_, rfl⟩
    have hkv : kidVal l[k].d = .agg #[.int .i64 P, .string s] := by unfold kidVal; rw [hP, hss]
    rw [← hbn, ← hP, ← hss, ← hbp] at hft
    simp only [← hzA, ← hzn, ← hzc, ← hbp] at hp
    rw [← hbn, ← hss] at hnm
    rw [← hP] at x0 hw0 hpar
    rw [← hss] at x1 hnz
    rw [← hzA, ← hzn, ← hzc] at x2
    simp only [hkv] at hkid2
    clear hP hss hzA hzc hzn hbp hbn hr hkid hkv hsame
    have esz : (wr.alloc (.cells #[.int .i64 P, .string s, .slice zA zn zc] 50)).heap.size = wr.heap.size + 1 := by simp
    have hw2 : w.heap.size + 2 ≤ wr.heap.size := by have := HSET.out.lt; omega
    have hq : ∀ w1, Below (wr.heap.size + 1) (wr.alloc (.cells #[.int .i64 P, .string s, .slice zA zn zc] 50)) w1 → w1.cell? ⟨wr.heap.size, 0, none⟩ = some (.int .i64 P) ∧ w1.cell? ⟨wr.heap.size, 1, none⟩ = some (.string s) ∧ Below w.heap.size w w1 ∧
        w1.ownsRow w.heap.size 3 1 (.slice (some ⟨w.heap.size, 0, none⟩) k q) k (i64s (depths (dat l) k)) ∧ w1.ownsRow (w.heap.size + 2) 3 1 (.slice Ap pl cp) pl (i64s (pathTo (dat l) k)) ∧
        SetAt Tryz.prog 101 4 w1 (w.heap.size + 1) k (Kids (dat l) k) ∧ w.heap.size + 2 ≤ w1.heap.size := fun w1 h1 => by
      have h2 : Below w.heap.size w w1 := (HB.out.alloc (by omega) _).trans (h1.mono (by omega))
      have h3 : Below wr.heap.size wr w1 := ((Below.refl _ _).alloc (Nat.le_refl _) _).trans (h1.mono (by omega))
      refine ⟨?_, ?_, h2, own_keep HDR.out fun g _ hlt => h3.block g hlt, own_keep HPR.out fun g _ hlt => h3.block g hlt, HSET.out.block (h3.block _ (by omega)), by have := h3.size; omega⟩
      · rw [h1.cell (p := ⟨wr.heap.size, 0, none⟩) (by show wr.heap.size < wr.heap.size + 1; omega), cell_of_row _ _ _ _ _ (0, 0) (heap_alloc_new wr _)]; rfl
      · rw [h1.cell (p := ⟨wr.heap.size, 1, none⟩) (by show wr.heap.size < wr.heap.size + 1; omega), cell_of_row _ _ _ _ _ (0, 0) (heap_alloc_new wr _)]; rfl
    have hb0 : Below B w (wr.alloc (.cells #[.int .i64 P, .string s, .slice zA zn zc] 50)) := (HB.out.mono hB).alloc (by omega) _
    have HB0 := Lib.hid hb0
    have HQ := Lib.hid hq
    have FT := Lib.hid hft
    have HP := Lib.hid hp
    have HN := Lib.hid hnm
    have HBD := Lib.hid hbad
    have HFIN := Lib.hid hfin
    have HKID := Lib.hid hkid2
    have HPAR := Lib.hid hpar
    clear hb0 hq hft hp hnm hbad hfin hkid2 hpar
    by_cases h512 : 512 ≤ k
    · have hR := HBD.out (FT.out.big h512)
      subst hR
      have e1 : decide (512 ≤ (k : Int)) = true := by simp; omega
      go_wp2
      go_ret3
      exact ⟨⟨_, _, _, rfl, rfl⟩, HB.out.alloc (by omega) _⟩
    have e5 : decide (512 ≤ (k : Int)) = false := by simp; omega
    rcases bp with _ | _
    · have hR := HBD.out (FT.out.props rfl)
      subst hR
      go_wp2_with (first
        | (go_at_call 63
           refine (HP.out _ HB0.out).mono ?_
           rintro e w1 ⟨rfl, hb1⟩
           rw [esz] at hb1
           obtain ⟨z0, z1, zb, zd, zp, zs, zl⟩ := HQ.out w1 hb1
           have HB1 := Lib.hid hb1
           have ZB := Lib.hid zb
           have ZD := Lib.hid zd
           have ZP := Lib.hid zp
           have ZS := Lib.hid zs
           have ZL := Lib.hid zl
           clear hb1 zb zd zp zs zl))
      go_ret3
      exact ⟨⟨_, _, _, rfl, rfl⟩, ZB.out⟩
    by_cases h0 : k = 0
    · subst h0
      have hr := FT.out.root rfl rfl
      simp only [Nat.zero_mul, Nat.add_zero] at x0 x1 x2
      by_cases hp1 : P = -1
      case neg =>
        have f1 : (P != -1) = true := by simpa using hp1
        have f2 : (P == -1) = false := by simpa using hp1
        rw [f2, Bool.false_and] at hr
        have hR := HBD.out hr
        subst hR hr
        go_wp2_with (first
        | (go_at_call 63
           refine (HP.out _ HB0.out).mono ?_
           rintro e w1 ⟨rfl, hb1⟩
           rw [esz] at hb1
           obtain ⟨z0, z1, zb, zd, zp, zs, zl⟩ := HQ.out w1 hb1
           have HB1 := Lib.hid hb1
           have ZB := Lib.hid zb
           have ZD := Lib.hid zd
           have ZP := Lib.hid zp
           have ZS := Lib.hid zs
           have ZL := Lib.hid zl
           clear hb1 zb zd zp zs zl))
        go_ret3
        exact ⟨⟨_, _, _, rfl, rfl⟩, ZB.out⟩
      subst hp1
      rcases hse : s.toList.isEmpty with _ | _
      · rw [hse, Bool.and_false] at hr
        have hR := HBD.out hr
        subst hR hr
        go_wp2_with (first
        | (go_at_call 63
           refine (HP.out _ HB0.out).mono ?_
           rintro e w1 ⟨rfl, hb1⟩
           rw [esz] at hb1
           obtain ⟨z0, z1, zb, zd, zp, zs, zl⟩ := HQ.out w1 hb1
           have HB1 := Lib.hid hb1
           have ZB := Lib.hid zb
           have ZD := Lib.hid zd
           have ZP := Lib.hid zp
           have ZS := Lib.hid zs
           have ZL := Lib.hid zl
           clear hb1 zb zd zp zs zl))
        go_ret3
        exact ⟨⟨_, _, _, rfl, rfl⟩, ZB.out⟩
      rw [hse] at hr
      have hr2 : r = true := hr
      have hf1 := HFIN.out hr2
      have HF1 := Lib.hid hf1
      have hq01 := HQ1.out 0 hlt (by omega)
      clear hf1
      go_wp2_with (first
        | (go_at_call 63
           refine (HP.out _ HB0.out).mono ?_
           rintro e w1 ⟨rfl, hb1⟩
           rw [esz] at hb1
           obtain ⟨z0, z1, zb, zd, zp, zs, zl⟩ := HQ.out w1 hb1
           have HB1 := Lib.hid hb1
           have ZB := Lib.hid zb
           have ZD := Lib.hid zd
           have ZP := Lib.hid zp
           have ZS := Lib.hid zs
           have ZL := Lib.hid zl
           clear hb1 zb zd zp zs zl)
        | (at_builtin; refine wpList_push_room rfl (.tmp 44) (.tmp 45) 59 rfl w.heap.size 3 i0 1 Tryz.underlying59 fi fz1 w.heap.size 0 q (i64s (depths (dat l) 0)) rfl (ZD.out.alloc _) #[.int .i64 1] (by rw [show (w1.alloc (.cells #[.int .i64 0] 3)).heap.size = w1.heap.size + 1 from by simp]; rfl) rfl ?_ ?_ ?_))
      · first | rfl | (intro u hu; simp at hu; subst hu; rfl)
      · exact hq01
      intro w3 hd3 hg3
      obtain ⟨hpr1, hpr2⟩ := path_root HF1.out hkd
      have hd4 : w3.ownsRow w.heap.size 3 1 (.slice (some ⟨w.heap.size, 0, none⟩) 1 q) 1 (i64s (depths (dat l) 1)) := by
        rw [depths_succ, hpr2]
        simpa [i64s] using hd3
      have hpA : (w1.alloc (.cells #[.int .i64 0] 3)).ownsRow (w.heap.size + 2) 3 1 (.slice (some ⟨w1.heap.size, 0, none⟩) 1 1) 1 (i64s (pathTo (dat l) 1)) := by
        rw [hpr1]
        exact World.ownsRow_lit w1 #[.int .i64 0] 1 ZL.out (by unfold maxLen; omega) rfl
      have hpB : w3.ownsRow (w.heap.size + 2) 3 1 (.slice (some ⟨w1.heap.size, 0, none⟩) 1 1) 1 (i64s (pathTo (dat l) 1)) := own_keep (hpA.alloc _) fun g hg hlt => by
        have := ((hpA.alloc (.cells #[.int .i64 1] 3)).lt g hg).1
        exact hg3.block g hlt (by intro e; injection e; omega)
      have hsB : SetAt Tryz.prog 101 4 w3 (w.heap.size + 1) 1 (Kids (dat l) 1) := ((ZS.out.block (w' := w3) (by
        have := ZL.out
        rw [hg3.block _ (by simp; omega) (by intro e; injection e; omega), Below.heap_alloc _ _ _ (by simp; omega), Below.heap_alloc _ _ _ (by omega)])).congr (kids_one (dat l))).mono (by omega)
      have hbB : Below w.heap.size w w3 := ((ZB.out.alloc (by have := ZL.out; omega) _).alloc (by have := ZL.out; simp; omega) _).grown hg3 (by have := ZL.out; simp; omega) (fun g hg => by injection hg; omega)
      have hpl1 : 1 = (pathTo (dat l) 1).length := by rw [hpr1]; rfl
      have G1 := Lib.hid hd4
      have G2 := Lib.hid hpB
      have G3 := Lib.hid hsB
      have G4 := Lib.hid hbB
      have G5 := Lib.hid hpl1
      clear hd3 hg3 hpr1 hpr2 hd4 hpA hpB hsB hbB hpl1
      go_wp2_with fail
      exact ⟨⟨1, 1, 1, some ⟨w1.heap.size, 0, none⟩, by omega, by go_num, rfl, rfl, HF1.out, G5.out, G1.out, G2.out, G3.out, G4.out⟩, by simp [intOf]; omega⟩
    rcases bn with _ | _
    · have hR := HBD.out (FT.out.name h0 rfl)
      subst hR
      go_wp2_with (first
        | (go_at_call 63
           refine (HP.out _ HB0.out).mono ?_
           rintro e w1 ⟨rfl, hb1⟩
           rw [esz] at hb1
           obtain ⟨z0, z1, zb, zd, zp, zs, zl⟩ := HQ.out w1 hb1
           have HB1 := Lib.hid hb1
           have ZB := Lib.hid zb
           have ZD := Lib.hid zd
           have ZP := Lib.hid zp
           have ZS := Lib.hid zs
           have ZL := Lib.hid zl
           clear hb1 zb zd zp zs zl)
        | (go_at_call 44
           refine (HN.out _).mono ?_
           rintro e w2 ⟨rfl, hb2⟩
           have hb3 := HB1.out.trans (hb2.mono (by have := HB1.out.size; rw [esz] at this; exact this))
           obtain ⟨y0, y1, yb, yd, yp, ys, yl⟩ := HQ.out w2 hb3
           have HB2 := Lib.hid hb3
           have YB := Lib.hid yb
           have YD := Lib.hid yd
           have YP := Lib.hid yp
           have YS := Lib.hid ys
           have YL := Lib.hid yl
           clear hb2 hb3 yb yd yp ys yl))
      go_ret3
      exact ⟨⟨_, _, _, rfl, rfl⟩, YB.out⟩
    by_cases hneg : P < 0
    · have hR := HBD.out (FT.out.neg h0 hneg)
      subst hR
      have e1 : decide (P < 0) = true := by simpa using hneg
      go_wp2_with (first
        | (go_at_call 63
           refine (HP.out _ HB0.out).mono ?_
           rintro e w1 ⟨rfl, hb1⟩
           rw [esz] at hb1
           obtain ⟨z0, z1, zb, zd, zp, zs, zl⟩ := HQ.out w1 hb1
           have HB1 := Lib.hid hb1
           have ZB := Lib.hid zb
           have ZD := Lib.hid zd
           have ZP := Lib.hid zp
           have ZS := Lib.hid zs
           have ZL := Lib.hid zl
           clear hb1 zb zd zp zs zl)
        | (go_at_call 44
           refine (HN.out _).mono ?_
           rintro e w2 ⟨rfl, hb2⟩
           have hb3 := HB1.out.trans (hb2.mono (by have := HB1.out.size; rw [esz] at this; exact this))
           obtain ⟨y0, y1, yb, yd, yp, ys, yl⟩ := HQ.out w2 hb3
           have HB2 := Lib.hid hb3
           have YB := Lib.hid yb
           have YD := Lib.hid yd
           have YP := Lib.hid yp
           have YS := Lib.hid ys
           have YL := Lib.hid yl
           clear hb2 hb3 yb yd yp ys yl))
      go_ret3
      exact ⟨⟨_, _, _, rfl, rfl⟩, YB.out⟩
    by_cases hlate : (k : Int) ≤ P
    · have hR := HBD.out (FT.out.late h0 hlate)
      subst hR
      have e1 : decide (P < 0) = false := by simpa using hneg
      have e2 : decide ((k : Int) ≤ P) = true := by simpa using hlate
      go_wp2_with (first
        | (go_at_call 63
           refine (HP.out _ HB0.out).mono ?_
           rintro e w1 ⟨rfl, hb1⟩
           rw [esz] at hb1
           obtain ⟨z0, z1, zb, zd, zp, zs, zl⟩ := HQ.out w1 hb1
           have HB1 := Lib.hid hb1
           have ZB := Lib.hid zb
           have ZD := Lib.hid zd
           have ZP := Lib.hid zp
           have ZS := Lib.hid zs
           have ZL := Lib.hid zl
           clear hb1 zb zd zp zs zl)
        | (go_at_call 44
           refine (HN.out _).mono ?_
           rintro e w2 ⟨rfl, hb2⟩
           have hb3 := HB1.out.trans (hb2.mono (by have := HB1.out.size; rw [esz] at this; exact this))
           obtain ⟨y0, y1, yb, yd, yp, ys, yl⟩ := HQ.out w2 hb3
           have HB2 := Lib.hid hb3
           have YB := Lib.hid yb
           have YD := Lib.hid yd
           have YP := Lib.hid yp
           have YS := Lib.hid ys
           have YL := Lib.hid yl
           clear hb2 hb3 yb yd yp ys yl))
      go_ret3
      exact ⟨⟨_, _, _, rfl, rfl⟩, YB.out⟩
    obtain ⟨p, rfl⟩ := Int.eq_ofNat_of_zero_le (show 0 ≤ P by omega)
    have hpk : p < k := by omega
    have e2 : decide ((k : Int) ≤ (p : Int)) = false := by simp; omega
    have hkk : k ≤ (dat l).length := by omega
    have hpp := above_pos HF.out hkk hpk
    have hph := path_has HF.out hkk (by omega) hpk
    have hk1 := above_pos HF.out hkk (k := k - 1) (by omega)
    have hpl0 : 0 < pl := by rw [HPL.out]; unfold pathTo; rw [show ((k : Int) - 1) = ((k - 1 : Nat) : Int) by omega]; simp; omega
    obtain ⟨gp, rfl, hgp, hgp2⟩ := own_head HPR.out hpl0
    have hcap : pl ≤ cp := own_cap HPR.out
    obtain ⟨d, hd⟩ : ∃ d, (above (dat l) (p : Int)).length = d + 1 := ⟨(above (dat l) (p : Int)).length - 1, by omega⟩
    have hdd : (i64s (depths (dat l) k))[p]? = some (.int .i64 ((d : Int) + 1)) := by
      unfold i64s
      rw [List.getElem?_map, List.getElem?_eq_getElem (by rw [depths_len]; exact hpk), depths_get _ hpk, hd]
      simp
    rw [hd, ← HPL.out] at hph
    simp only [Nat.add_sub_cancel] at hph
    have hqd : q ≤ 512 := HQ2.out
    have hdb : d ≤ 511 := by have := above_len HF.out hkk p hpk; omega
    have HDD := Lib.hid hdd
    have HD := Lib.hid hd
    have HPH := Lib.hid hph
    clear hpp hk1 hdd hd hph
    by_cases hdl : pl < d + 1
    · have hR := HBD.out (FT.out.path h0 (by rw [HPH.out, decide_eq_false (by omega)]; rfl))
      subst hR
      have e3 : decide ((pl : Int) < (d : Int) + 1) = true := by simp; omega
      go_wp2_with (first
        | (go_at_call 63
           refine (HP.out _ HB0.out).mono ?_
           rintro e w1 ⟨rfl, hb1⟩
           rw [esz] at hb1
           obtain ⟨z0, z1, zb, zd, zp, zs, zl⟩ := HQ.out w1 hb1
           have HB1 := Lib.hid hb1
           have ZB := Lib.hid zb
           have ZD := Lib.hid zd
           have ZP := Lib.hid zp
           have ZS := Lib.hid zs
           have ZL := Lib.hid zl
           clear hb1 zb zd zp zs zl)
        | (go_at_call 44
           refine (HN.out _).mono ?_
           rintro e w2 ⟨rfl, hb2⟩
           have hb3 := HB1.out.trans (hb2.mono (by have := HB1.out.size; rw [esz] at this; exact this))
           obtain ⟨y0, y1, yb, yd, yp, ys, yl⟩ := HQ.out w2 hb3
           have HB2 := Lib.hid hb3
           have YB := Lib.hid yb
           have YD := Lib.hid yd
           have YP := Lib.hid yp
           have YS := Lib.hid ys
           have YL := Lib.hid yl
           obtain ⟨u0, u1, ub, ud, up, us, ul⟩ := HQ.out (w2.alloc (.cells #[.int .i64 (p : Int), .string s] 101)) (hb3.alloc (by have := hb3.size; rw [esz] at this; exact this) _)
           have t0 := (YD.out.cellAt p (by omega)).trans HDD.out
           have UB := Lib.hid ub
           have UD := Lib.hid ud
           have UP := Lib.hid up
           have US := Lib.hid us
           have UL := Lib.hid ul
           clear hb2 hb3 yb yd yp ys yl ub ud up us ul))
      go_quiet (fail)
      go_wp2_with fail
      go_ret3
      exact ⟨⟨_, _, _, rfl, rfl⟩, below_drewN UB.out _⟩
    have e3 : decide ((pl : Int) < (d : Int) + 1) = false := by simp; omega
    have hdp : d < (pathTo (dat l) k).length := by rw [← HPL.out]; omega
    have hxx : (i64s (pathTo (dat l) k))[d]? = some (.int .i64 (pathTo (dat l) k)[d]) := by
      unfold i64s
      rw [List.getElem?_map, List.getElem?_eq_getElem hdp]
      rfl
    have hph2 := HPH.out
    rw [decide_eq_true (show d + 1 ≤ pl by omega), Bool.true_and, List.getElem?_eq_getElem hdp] at hph2
    obtain ⟨x, hx⟩ : ∃ x, x = (pathTo (dat l) k)[d] := ⟨_, rfl⟩
    rw [← hx] at hxx hph2
    have HXX := Lib.hid hxx
    have HX := Lib.hid hx
    have HPH2 := Lib.hid hph2
    have hdlt : d < pl := by omega
    have hdi : (d : Int) < (pl : Int) := by omega
    have hd1 : (d : Int) + 1 - 1 = (d : Int) := by omega
    have hwd : IntKind.i64.wrap (d : Int) = (d : Int) := by unfold IntKind.wrap; simp [IntKind.bits, IntKind.signed]; split <;> omega
    have hwd2 : IntKind.i64.wrap ((d : Int) + 1 + 1) = (d : Int) + 1 + 1 := by unfold IntKind.wrap; simp [IntKind.bits, IntKind.signed]; split <;> omega
    clear hx hxx hph2 hdl HPH
    by_cases hxp : x = (p : Int)
    case neg =>
      have hR := HBD.out (FT.out.path h0 (by rw [HPH2.out, beq_eq_false_iff_ne]; intro h; injection h with h; exact hxp h))
      subst hR
      have e4 : (x != (p : Int)) = true := by simpa using hxp
      go_wp2_with (first
        | (go_at_call 63
           refine (HP.out _ HB0.out).mono ?_
           rintro e w1 ⟨rfl, hb1⟩
           rw [esz] at hb1
           obtain ⟨z0, z1, zb, zd, zp, zs, zl⟩ := HQ.out w1 hb1
           have HB1 := Lib.hid hb1
           have ZB := Lib.hid zb
           have ZD := Lib.hid zd
           have ZP := Lib.hid zp
           have ZS := Lib.hid zs
           have ZL := Lib.hid zl
           clear hb1 zb zd zp zs zl)
        | (go_at_call 44
           refine (HN.out _).mono ?_
           rintro e w2 ⟨rfl, hb2⟩
           have hb3 := HB1.out.trans (hb2.mono (by have := HB1.out.size; rw [esz] at this; exact this))
           obtain ⟨y0, y1, yb, yd, yp, ys, yl⟩ := HQ.out w2 hb3
           have HB2 := Lib.hid hb3
           have YB := Lib.hid yb
           have YD := Lib.hid yd
           have YP := Lib.hid yp
           have YS := Lib.hid ys
           have YL := Lib.hid yl
           obtain ⟨u0, u1, ub, ud, up, us, ul⟩ := HQ.out (w2.alloc (.cells #[.int .i64 (p : Int), .string s] 101)) (hb3.alloc (by have := hb3.size; rw [esz] at this; exact this) _)
           have t0 := (YD.out.cellAt p (by omega)).trans HDD.out
           have UB := Lib.hid ub
           have UD := Lib.hid ud
           have UP := Lib.hid up
           have US := Lib.hid us
           have UL := Lib.hid ul
           have t1 := (UP.out.cellAt d (by omega)).trans HXX.out
           clear hb2 hb3 yb yd yp ys yl ub ud up us ul))
      go_quiet (fail)
      go_wp2_with fail
      go_ret3
      exact ⟨⟨_, _, _, rfl, rfl⟩, below_drewN UB.out _⟩
    subst hxp
    by_cases h16 : 16 < d + 1 + 1
    · have hR := HBD.out (FT.out.deep h0 (by rw [HD.out]; exact h16))
      subst hR
      have e4 : decide (16 < (d : Int) + 1 + 1) = true := by simp; omega
      go_wp2_with (first
        | (go_at_call 63
           refine (HP.out _ HB0.out).mono ?_
           rintro e w1 ⟨rfl, hb1⟩
           rw [esz] at hb1
           obtain ⟨z0, z1, zb, zd, zp, zs, zl⟩ := HQ.out w1 hb1
           have HB1 := Lib.hid hb1
           have ZB := Lib.hid zb
           have ZD := Lib.hid zd
           have ZP := Lib.hid zp
           have ZS := Lib.hid zs
           have ZL := Lib.hid zl
           clear hb1 zb zd zp zs zl)
        | (go_at_call 44
           refine (HN.out _).mono ?_
           rintro e w2 ⟨rfl, hb2⟩
           have hb3 := HB1.out.trans (hb2.mono (by have := HB1.out.size; rw [esz] at this; exact this))
           obtain ⟨y0, y1, yb, yd, yp, ys, yl⟩ := HQ.out w2 hb3
           have HB2 := Lib.hid hb3
           have YB := Lib.hid yb
           have YD := Lib.hid yd
           have YP := Lib.hid yp
           have YS := Lib.hid ys
           have YL := Lib.hid yl
           obtain ⟨u0, u1, ub, ud, up, us, ul⟩ := HQ.out (w2.alloc (.cells #[.int .i64 (p : Int), .string s] 101)) (hb3.alloc (by have := hb3.size; rw [esz] at this; exact this) _)
           have t0 := (YD.out.cellAt p (by omega)).trans HDD.out
           have UB := Lib.hid ub
           have UD := Lib.hid ud
           have UP := Lib.hid up
           have US := Lib.hid us
           have UL := Lib.hid ul
           have t1 := (UP.out.cellAt d (by omega)).trans HXX.out
           clear hb2 hb3 yb yd yp ys yl ub ud up us ul))
      go_quiet (fail)
      go_wp2_with fail
      go_ret3
      exact ⟨⟨_, _, _, rfl, rfl⟩, below_drewN UB.out _⟩
    have e4 : decide (16 < (d : Int) + 1 + 1) = false := by simp; omega
    obtain ⟨kl, hkl2⟩ := kid_key (p : Int) s hw0 (by unfold maxLen; omega)
    have HKL := Lib.hid hkl2
    clear hkl2
    by_cases htw : Kids (dat l) k (.agg #[.int .i64 (p : Int), .string s])
    · have hR := HBD.out (by
        obtain ⟨j, hj, h1, h2, h3⟩ := htw
        unfold kidVal at h3
        simp only [Value.agg.injEq, Array.mk.injEq, List.cons.injEq, Value.int.injEq, Value.string.injEq, true_and, and_true] at h3
        exact FT.out.twin j hj h1 h2 h3.1.symm h3.2.symm)
      subst hR
      have HT := Lib.hid htw
      clear htw
      go_wp2_with (first
        | (go_at_call 63
           refine (HP.out _ HB0.out).mono ?_
           rintro e w1 ⟨rfl, hb1⟩
           rw [esz] at hb1
           obtain ⟨z0, z1, zb, zd, zp, zs, zl⟩ := HQ.out w1 hb1
           have HB1 := Lib.hid hb1
           have ZB := Lib.hid zb
           have ZD := Lib.hid zd
           have ZP := Lib.hid zp
           have ZS := Lib.hid zs
           have ZL := Lib.hid zl
           clear hb1 zb zd zp zs zl)
        | (go_at_call 44
           refine (HN.out _).mono ?_
           rintro e w2 ⟨rfl, hb2⟩
           have hb3 := HB1.out.trans (hb2.mono (by have := HB1.out.size; rw [esz] at this; exact this))
           obtain ⟨y0, y1, yb, yd, yp, ys, yl⟩ := HQ.out w2 hb3
           have HB2 := Lib.hid hb3
           have YB := Lib.hid yb
           have YD := Lib.hid yd
           have YP := Lib.hid yp
           have YS := Lib.hid ys
           have YL := Lib.hid yl
           obtain ⟨u0, u1, ub, ud, up, us, ul⟩ := HQ.out (w2.alloc (.cells #[.int .i64 (p : Int), .string s] 101)) (hb3.alloc (by have := hb3.size; rw [esz] at this; exact this) _)
           have t0 := (YD.out.cellAt p (by omega)).trans HDD.out
           have UB := Lib.hid ub
           have UD := Lib.hid ud
           have UP := Lib.hid up
           have US := Lib.hid us
           have UL := Lib.hid ul
           have t1 := (UP.out.cellAt d (by omega)).trans HXX.out
           have hrun : ∀ nq, (Instr.lookup 98 (.map (some (w.heap.size + 1))) (.agg #[.int .i64 (p : Int), .string s]) false).run Tryz.prog ((w2.alloc (.cells #[.int .i64 (p : Int), .string s] 101)).drewN nq) = .ok (.bool true) ((w2.alloc (.cells #[.int .i64 (p : Int), .string s] 101)).drewN nq) := fun nq => by
             obtain ⟨cc, hrun, hcc⟩ := (US.out.block (w' := (w2.alloc (.cells #[.int .i64 (p : Int), .string s] 101)).drewN nq) rfl).look kid_law Tryz.underlying98 Tryz.underlying4 (by kernel_rfl) HKL.out
             obtain rfl : cc = true := hcc.2 HT.out
             exact hrun
           clear hb2 hb3 yb yd yp ys yl ub ud up us ul))
      go_quiet (fail)
      go_wp2_with fail
      go_ret3
      exact ⟨⟨_, _, _, rfl, rfl⟩, below_drewN UB.out _⟩
    have hrt : r = true := FT.out.ok h0 (by omega) rfl rfl (by omega) (by omega) (by rw [HPH2.out]; simp) (by rw [HD.out]; omega) (fun j hj h1 h2 h3 h4 => htw ⟨j, hj, h1, h2, by unfold kidVal; rw [h3, h4]⟩)
    have hf2 := HFIN.out hrt
    obtain ⟨hpn, hln⟩ := path_next hf2 (by rw [dat_len]; omega) (by omega) hpk HPAR.out (by rw [HPH2.out]; simp)
    rw [HD.out] at hpn hln
    have HF2 := Lib.hid hf2
    have HPN := Lib.hid hpn
    have HLN := Lib.hid hln
    have HT := Lib.hid htw
    clear htw hf2 hpn hln hrt
    go_wp2_with (first
        | (go_at_call 63
           refine (HP.out _ HB0.out).mono ?_
           rintro e w1 ⟨rfl, hb1⟩
           rw [esz] at hb1
           obtain ⟨z0, z1, zb, zd, zp, zs, zl⟩ := HQ.out w1 hb1
           have HB1 := Lib.hid hb1
           have ZB := Lib.hid zb
           have ZD := Lib.hid zd
           have ZP := Lib.hid zp
           have ZS := Lib.hid zs
           have ZL := Lib.hid zl
           clear hb1 zb zd zp zs zl)
        | (go_at_call 44
           refine (HN.out _).mono ?_
           rintro e w2 ⟨rfl, hb2⟩
           have hb3 := HB1.out.trans (hb2.mono (by have := HB1.out.size; rw [esz] at this; exact this))
           obtain ⟨y0, y1, yb, yd, yp, ys, yl⟩ := HQ.out w2 hb3
           have HB2 := Lib.hid hb3
           have YB := Lib.hid yb
           have YD := Lib.hid yd
           have YP := Lib.hid yp
           have YS := Lib.hid ys
           have YL := Lib.hid yl
           obtain ⟨u0, u1, ub, ud, up, us, ul⟩ := HQ.out (w2.alloc (.cells #[.int .i64 (p : Int), .string s] 101)) (hb3.alloc (by have := hb3.size; rw [esz] at this; exact this) _)
           have t0 := (YD.out.cellAt p (by omega)).trans HDD.out
           have UB := Lib.hid ub
           have UD := Lib.hid ud
           have UP := Lib.hid up
           have US := Lib.hid us
           have UL := Lib.hid ul
           have t1 := (UP.out.cellAt d (by omega)).trans HXX.out
           have hrun : ∀ nq, (Instr.lookup 98 (.map (some (w.heap.size + 1))) (.agg #[.int .i64 (p : Int), .string s]) false).run Tryz.prog ((w2.alloc (.cells #[.int .i64 (p : Int), .string s] 101)).drewN nq) = .ok (.bool false) ((w2.alloc (.cells #[.int .i64 (p : Int), .string s] 101)).drewN nq) := fun nq => by
             obtain ⟨cc, hrun, hcc⟩ := (US.out.block (w' := (w2.alloc (.cells #[.int .i64 (p : Int), .string s] 101)).drewN nq) rfl).look kid_law Tryz.underlying98 Tryz.underlying4 (by kernel_rfl) HKL.out
             obtain rfl : cc = false := by rw [Bool.eq_false_iff]; exact fun h => HT.out (hcc.1 h)
             exact hrun
           clear hb2 hb3 yb yd yp ys yl ub ud up us ul))
    go_quiet (fail)
    have hqk := HQ1.out k hlt (by omega)
    have hdc : (d : Int) + 1 ≤ (cp : Int) := by omega
    have hdc2 : d + 1 ≤ cp := by omega
    go_wp2_with (first
        | (at_mapUpdate; refine wpList_add_set _ rfl (.tmp 98) (.tmp 99) (.const (.bool true)) 98 rfl 101 4 kid_law Tryz.underlying98 Tryz.underlying4 (w.heap.size + 1) k _ rfl (US.out.block rfl) (by unfold maxLen; omega) _ _ rfl rfl HKL.out ?_; intro w4 hset4 hg4
           have hd4 := own_keep UD.out (w' := w4) (fun g hg hlt => hg4.block g hlt (by intro e; injection e with e; have h1 : w.heap.size = g := (by simpa [Value.ownBlock] using hg); omega))
           have hp4 := own_keep UP.out (w' := w4) (fun g hg hlt => hg4.block g hlt (by have := (UP.out.lt g hg).1; intro e; injection e; omega))
           have hb4 := (below_drewN UB.out _).grown hg4 (by have := UL.out; show _ ≤ (w2.alloc (.cells #[.int .i64 (p : Int), .string s] 101)).heap.size; omega) (fun g hg => by injection hg; omega)
           have hl4 : w.heap.size + 2 ≤ w4.heap.size := Nat.le_trans UL.out hg4.size
           have D4 := Lib.hid hd4
           have P4 := Lib.hid hp4
           have B4 := Lib.hid hb4
           have L4 := Lib.hid hl4
           have S4 := Lib.hid hset4
           clear hd4 hp4 hb4 hl4 hg4 hset4)
        | (at_builtin; refine wpList_push rfl (.tmp 102) (.tmp 104) 59 rfl (w.heap.size + 2) 3 i0 _ 1 8 Tryz.underlying59 fi fz0 fz1 fz2 rfl (by decide) _ (d + 1) ((i64s (pathTo (dat l) k)).take (d + 1)) rfl (own_take P4.out (by omega)) #[.int .i64 k] rfl rfl ?_ ?_ ?_ ?_ ?_))
    · first | rfl | (intro u hu; simp at hu; subst hu; rfl)
    · unfold maxLen; omega
    · omega
    · exact L4.out
    intro A5 c5 w5 hown5 hp5
    have hd5 := own_keep D4.out (w' := w5) (fun g hg hlt => hp5.row g hlt (by intro e; have h1 : w.heap.size = g := (by simpa [Value.ownBlock] using hg); have h2 : gp = g := (by simpa [Value.ownBlock] using e); omega))
    have hs5 := (S4.out.block (w' := w5) (hp5.row _ S4.out.lt (by intro e; have h2 : gp = w.heap.size + 1 := (by simpa [Value.ownBlock] using e); omega))).congr (fun v => HKID.out v (by omega))
    have hb5 := B4.out.trans (hp5.low.mono (by omega))
    have hl5 : w.heap.size + 2 ≤ w5.heap.size := Nat.le_trans L4.out hp5.low.size
    have ho5 : w5.ownsRow (w.heap.size + 2) 3 1 (.slice A5 (d + 1 + 1) c5) (d + 1 + 1) (i64s (pathTo (dat l) (k + 1))) := by
      rw [HPN.out]
      unfold i64s at hown5 ⊢
      rw [List.map_append, List.map_take]
      exact hown5
    have hpl5 : d + 1 + 1 = (pathTo (dat l) (k + 1)).length := by
      rw [HPN.out, List.length_append, List.length_take, ← HPL.out]
      simp
      omega
    have D5 := Lib.hid hd5
    have S5 := Lib.hid hs5
    have B5 := Lib.hid hb5
    have L5 := Lib.hid hl5
    have O5 := Lib.hid ho5
    have PL5 := Lib.hid hpl5
    clear hd5 hs5 hb5 hl5 ho5 hpl5 hown5 hp5
    go_wp2_with (first
        | (at_builtin; refine wpList_push_room rfl (.tmp 106) (.tmp 109) 59 rfl w.heap.size 3 i0 1 Tryz.underlying59 fi fz1 w.heap.size k q (i64s (depths (dat l) k)) rfl D5.out #[.int .i64 ((d : Int) + 1 + 1)] rfl rfl ?_ ?_ ?_))
    · first | rfl | (intro u hu; simp at hu; subst hu; rfl)
    · exact hqk
    intro w6 hd6 hg6
    have hd7 : w6.ownsRow w.heap.size 3 1 (.slice (some ⟨w.heap.size, 0, none⟩) (k + 1) q) (k + 1) (i64s (depths (dat l) (k + 1))) := by
      rw [depths_succ, HLN.out]
      simpa [i64s] using hd6
    have ho7 := own_keep (O5.out.alloc (.cells #[.int .i64 ((d : Int) + 1 + 1)] 3)) (w' := w6) (fun g hg hlt => hg6.block g hlt (by have := (O5.out.lt g hg).1; intro e; injection e; omega))
    have hs7 := S5.out.block (w' := w6) (by have := L5.out; rw [hg6.block _ (by simp; omega) (by intro e; injection e; omega), Below.heap_alloc _ _ _ (by omega)])
    have hb7 := (B5.out.alloc (by have := L5.out; omega) (.cells #[.int .i64 ((d : Int) + 1 + 1)] 3)).grown hg6 (by have := L5.out; simp; omega) (fun g hg => by injection hg; omega)
    have D7 := Lib.hid hd7
    have O7 := Lib.hid ho7
    have S7 := Lib.hid hs7
    have B7 := Lib.hid hb7
    clear hd7 ho7 hs7 hb7 hd6 hg6
    go_wp2_with fail
    exact ⟨⟨k + 1, d + 1 + 1, c5, A5, by omega, by go_num, rfl, rfl, HF2.out, PL5.out, D7.out, O7.out, S7.out, B7.out⟩, by simp [intOf]; omega⟩
end Go.Proofs.YtmdnbajbfnhecaaGreatDoor
