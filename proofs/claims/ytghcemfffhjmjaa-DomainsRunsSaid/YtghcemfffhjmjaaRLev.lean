/- DomainsRuns: the document's Levels. -/
import Derived.Test.YtghcemfffhjmjaaRMem
set_option linter.unusedVariables false
namespace Go.Proofs.Ytghcemfffhjmjaa
open Go.RowKit
theorem down_skip {f : Nat → Nat} {d u : Nat} (h : ¬ f u < f d) : down f d u = f := by
  funext i
  unfold down upd
  split
  · subst_vars; omega
  · rfl
theorem down_put {f : Nat → Nat} {d u : Nat} (h : f u < f d) : down f d u = upd f u (f d) := by
  unfold down
  rw [show max (f u) (f d) = f d by omega]
theorem tops_skip (l : List Wt) {k : Nat} (hk : k < l.length) (h : ¬ tops (l.take k) l[k].d < l[k].lv) : tops (l.take (k + 1)) = tops (l.take k) := by
  rw [tops_succ l hk]
  funext i
  unfold upd
  split
  · subst_vars; omega
  · rfl
theorem tops_put (l : List Wt) {k : Nat} (hk : k < l.length) (h : tops (l.take k) l[k].d < l[k].lv) : tops (l.take (k + 1)) = upd (tops (l.take k)) l[k].d l[k].lv := by
  rw [tops_succ l hk, show max (tops (l.take k) l[k].d) l[k].lv = l[k].lv by omega]
set_option maxRecDepth 100000 in
set_option maxHeartbeats 4000000 in
theorem rlevels_any {w : World} {B rb n m : Nat} {Ad : Option Addr} {cd : Nat} {Aw : Option Addr} {cw : Nat} {lr : List Dmi} {wl : List Wt} (h : RMem w B rb n m Ad cd Aw cw lr wl) (hmay : mayD lr) (hm : m ≤ 100000) (hwd : ∀ x ∈ wl, x.d < n) :
    Calls Try.prog 35 #[.pointer (some ⟨rb, 0, none⟩)] w fun e w' => e = .returned (.slice (some ⟨w.heap.size, 0, none⟩) n n) ∧ RowAt w' w.heap.size 5 (lvs (settle (dms lr) (tops wl)) n) ∧ Below w.heap.size w w' := by
  have hn256 : n ≤ 256 := by rw [h.len]; exact hmay.1
  have hrb := h.lt
  have c0 := h.c0
  have c1 := h.c1
  have hmk37 := make_u8s n hn256
  obtain ⟨Z, hZ⟩ : ∃ Z, Z = madeCells #[.int .u8 0] n := ⟨_, rfl⟩
  rw [← hZ] at hmk37
  have hzz : Z.toList = lvs (fun _ => 0) n := by rw [hZ]; exact lvs_none n
  have hr1 : RowAt (w.alloc (.cells Z 5)) w.heap.size 5 (lvs (tops (wl.take 0)) n) := ⟨_, heap_alloc_new _ _, by rw [hzz]; exact List.take_of_length_le (Nat.le_refl _)⟩
  have hb1 : Below w.heap.size w (w.alloc (.cells Z 5)) := (Below.refl _ _).alloc (Nat.le_refl _) _
  obtain ⟨ds, hds⟩ : ∃ ds, ds = dms lr := ⟨_, rfl⟩
  rw [← hds]
  have hdl : ds.length = n := by rw [hds, dms_len]; exact h.len.symm
  have HS := Lib.hid h.seg
  have HD := Lib.hid h.domi
  have HN := Lib.hid h.len
  have HM := Lib.hid h.lenw
  have HMAY := Lib.hid hmay
  have HDS := Lib.hid hds
  have HDL := Lib.hid hdl
  have HWD := Lib.hid hwd
  have HR1 := Lib.hid hr1
  have HB1 := Lib.hid hb1
  clear h hmay hds hdl hwd hzz hZ hr1 hb1
  go_enter Try.func35, Try.ntmps35
  go_wp2_with fail
  clear hmk37
  generalize w.alloc (.cells Z 5) = w1 at *
  obtain ⟨g, hg⟩ : ∃ g, g = w.heap.size := ⟨_, rfl⟩
  have HG := Lib.hid hg
  rw [← hg] at HR1 ⊢
  have hrg : rb < g := by omega
  clear hg
  go_loopw [4] (fun iv wr => ∃ i : Nat, i ≤ m ∧ iv = .int .i64 i ∧ RowAt wr g 5 (lvs (tops (wl.take i)) n) ∧ Below g w wr) (fun iv _ => m - (intOf iv).toNat)
  case atStart => exact ⟨0, by omega, rfl, HR1.out, by rw [HG.out]; exact HB1.out⟩
  case round =>
    obtain ⟨i, hi, rfl, hr, hb⟩ := hrel
    clear HR1 HB1
    have HR := Lib.hid hr
    have HB := Lib.hid hb
    have hgw : g ≤ w.heap.size := by rw [HG.out]; exact Nat.le_refl _
    have k0 := (hb.cell (p := ⟨rb, 0, none⟩) hrg).trans c0
    have k1 := (hb.cell (p := ⟨rb, 1, none⟩) hrg).trans c1
    have hgl : g < wr.heap.size := hr.lt
    clear hr hb
    by_cases him : i < m
    · have hii : (i : Int) < (m : Int) := by omega
      have hil : i < wl.length := by rw [← HM.out]; exact him
      have hseg := HS.out
      rw [← HG.out] at hseg
      obtain ⟨b, off, rfl, hbb, z0, z1, z2⟩ := (hseg.below HB.out).wt hil
      have hyd := HWD.out _ (List.getElem_mem hil)
      have hskip := tops_skip wl hil
      have hput := tops_put wl hil
      obtain ⟨y, hy⟩ : ∃ y, y = wl[i] := ⟨_, rfl⟩
      rw [← hy] at z0 z1 z2 hyd hskip hput
      obtain ⟨f, hf⟩ : ∃ f, f = tops (wl.take i) := ⟨_, rfl⟩
      rw [← hf] at hskip hput HR
      clear hy hf hseg
      have HSK := Lib.hid hskip
      have HPT := Lib.hid hput
      have hydi : (y.d : Int) < (n : Int) := by omega
      have c2 := (HR.out.cell (k := y.d) (by rw [lvs_len]; exact hyd)).trans (lvs_get _ hyd)
      have hset := lvs_set f hyd y.lv
      have HSET := Lib.hid hset
      have hbr : b < wr.heap.size := by omega
      clear hskip hput hset
      go_upto_region 6 with fail
      have hal : Below wr.heap.size wr (wr.alloc (.cells #[.int .i64 (y.u : Int), .int .i64 (y.d : Int), .int .u8 (y.lv : Int)] 84)) := (Below.refl _ _).alloc (Nat.le_refl _) _
      have hrow : RowAt (wr.alloc (.cells #[.int .i64 (y.u : Int), .int .i64 (y.d : Int), .int .u8 (y.lv : Int)] 84)) wr.heap.size 84 [.int .i64 (y.u : Int), .int .i64 (y.d : Int), .int .u8 (y.lv : Int)] := ⟨_, heap_alloc_new _ _, rfl⟩
      have hr2 := HR.out.keep (hal.block g hgl)
      have hb2 := HB.out.trans (hal.mono (by omega))
      have c3 := hal.cell (p := ⟨g, y.d, none⟩) hgl |>.trans c2
      clear hal z0 z1 z2 c2 k0 k1
      generalize wr.alloc (.cells #[.int .i64 (y.u : Int), .int .i64 (y.d : Int), .int .u8 (y.lv : Int)] 84) = w2 at *
      generalize wr.heap.size = gx at *
      have x0 := hrow.cell (k := 0) (by simp)
      have x1 := hrow.cell (k := 1) (by simp)
      have x2 := hrow.cell (k := 2) (by simp)
      simp only [List.getElem?_cons_succ, List.getElem?_cons_zero] at x0 x1 x2
      have hfz := hr2.frozen y.d
      have HR2 := Lib.hid hr2
      have HB2 := Lib.hid hb2
      clear hr2 hb2 hrow HR HB
      by_cases hlt : f y.d < y.lv
      · have h1 : decide (f y.d < y.lv) = true := decide_eq_true hlt
        have h2 : decide ((f y.d : Int) < (y.lv : Int)) = true := decide_eq_true (by omega)
        have hput := HPT.out hlt
        clear hlt
        generalize f y.d = fv at *
        go_quiet (fail)
        go_wp2_with fail
        refine ⟨⟨i + 1, by omega, by go_num, ?_, ?_⟩, by simp [intOf]; omega⟩
        · rw [hput, ← HSET.out]
          exact (HR2.out.keep (w' := w2.drewN nq) rfl).store y.d _
        · exact (below_drewN HB2.out nq).setCell (p := ⟨g, y.d, none⟩) (Nat.le_refl _) _
      · have h1 : decide (f y.d < y.lv) = false := decide_eq_false hlt
        have h2 : decide ((f y.d : Int) < (y.lv : Int)) = false := decide_eq_false (by omega)
        have hskip := HSK.out hlt
        clear hlt
        generalize f y.d = fv at *
        go_quiet (fail)
        go_wp2_with fail
        refine ⟨⟨i + 1, by omega, by go_num, ?_, below_drewN HB2.out nq⟩, by simp [intOf]; omega⟩
        rw [hskip]
        exact HR2.out.keep (w' := w2.drewN nq) rfl
    · obtain rfl : i = m := by omega
      have hr := HR.out
      rw [HM.out, List.take_length] at hr
      have hset : settleN ds n (tops wl) = settle ds (tops wl) := by unfold settle; rw [HDL.out]
      obtain ⟨f0, hf0⟩ : ∃ f0, f0 = tops wl := ⟨_, rfl⟩
      rw [← hf0] at hr hset
      have HF0 := Lib.hid hf0
      clear hf0
      have HR2 := Lib.hid hr
      have HSET := Lib.hid hset
      clear hr hset HR
      go_wp2_with fail
      go_loopw [6] (fun iv wr => ∃ (k : Nat) (f : Nat → Nat), k ≤ n ∧ iv = .int .i64 ((k : Int) - 1) ∧ RowAt wr g 5 (lvs f n) ∧ settleN ds k f = settle ds f0 ∧ Below g w wr) (fun iv _ => (intOf iv + 1).toNat)
      case atStart => exact ⟨n, f0, by omega, by go_num, HR2.out, HSET.out, HB.out⟩
      case round =>
        obtain ⟨k, f, hk, rfl, hr, hst, hb⟩ := hrel
        clear HR2 HB HSET k0 k1
        have HR := Lib.hid hr
        have HST := Lib.hid hst
        have HB := Lib.hid hb
        have hgl : g < wr.heap.size := hr.lt
        clear hr hst hb
        rcases k with _ | k
        · have hst := HST.out
          have hst2 : f = settle ds f0 := hst
          have HST2 := Lib.hid hst2
          clear hst hst2
          have e1 : (((0 : Nat) : Int) - 1) = -1 := rfl
          rw [e1]
          go_wp2_with fail
          go_ret
          exact ⟨by rw [← HG.out]; rfl, by rw [← HG.out, ← HF0.out, ← HST2.out]; exact HR.out, by rw [← HG.out]; exact HB.out⟩
        · have e1 : (((k + 1 : Nat) : Int) - 1) = (k : Int) := by omega
          rw [e1]
          have hkn : k < n := by omega
          have hki : (k : Int) < (n : Int) := by omega
          have hkl : k < lr.length := by rw [← HN.out]; exact hkn
          have hund : und ds k = lr[k].u.map Int.toNat := by rw [HDS.out]; exact und_dms lr hkl
          obtain ⟨u, hu⟩ : ∃ u, u = lr[k].u := ⟨_, rfl⟩
          have hgood := HMAY.out.2 k hkl
          rw [← hu] at hund hgood
          obtain ⟨mu, hmu⟩ : ∃ mu, mu = u.length := ⟨_, rfl⟩
          have hmu8 : mu ≤ 8 := by rw [hmu]; exact hgood.1
          have HU := Lib.hid hu
          have HUND := Lib.hid hund
          have HGOOD := Lib.hid hgood
          have HMU := Lib.hid hmu
          have hst : settleN ds k (downs f k ((und ds k).drop 0)) = settle ds f0 := HST.out
          have HST2 := Lib.hid hst
          have hi0 : (0 : Int) ≤ (k : Int) := by omega
          clear hu hund hgood hmu hst HST
          go_wp2_with fail
          go_loopw [7, 8] (fun iv _ wr => ∃ (j : Nat) (f : Nat → Nat), j ≤ mu ∧ iv = .int .i64 j ∧ RowAt wr g 5 (lvs f n) ∧ settleN ds k (downs f k ((und ds k).drop j)) = settle ds f0 ∧ Below g w wr) (fun iv _ _ => mu - (intOf iv).toNat)
          case atStart => exact ⟨0, f, by omega, rfl, HR.out, HST2.out, HB.out⟩
          case round =>
            obtain ⟨j, f, hj, rfl, hr, hst, hb⟩ := hrel
            clear HR HST2 HB
            have HR := Lib.hid hr
            have HST := Lib.hid hst
            have HB := Lib.hid hb
            have hgl : g < wr.heap.size := hr.lt
            have k0 := (hb.cell (p := ⟨rb, 0, none⟩) hrg).trans c0
            clear hr hst hb
            have hdom := HD.out
            rw [← HG.out] at hdom
            obtain ⟨b, off, rfl, hbb, z0, _, hun⟩ := (hdom.below HB.out).at_ hkl
            obtain ⟨Au, hAu⟩ : ∃ u, u = lr[k].A := ⟨_, rfl⟩
            obtain ⟨cu, hcu⟩ : ∃ u, u = lr[k].c := ⟨_, rfl⟩
            rw [← HU.out, ← HMU.out, ← hAu, ← hcu] at z0
            rw [← HU.out, ← hAu] at hun
            have HUN := Lib.hid hun
            clear hun hdom hAu hcu
            by_cases hjm : j < mu
            · have hji : (j : Int) < (mu : Int) := by omega
              have hju : j < u.length := by rw [← HMU.out]; exact hjm
              obtain ⟨b4, off4, rfl, hbb4, y0⟩ := HUN.out.ints hju
              obtain ⟨g1, g2, _⟩ := HGOOD.out.2 j hju
              obtain ⟨v, hv⟩ : ∃ v : Nat, u[j] = (v : Int) := ⟨u[j].toNat, (Int.toNat_of_nonneg g1).symm⟩
              rw [hv] at y0 g2
              have hvk : v < k := by omega
              have hvn : v < n := by omega
              have hvi : (v : Int) < (n : Int) := by omega
              have hst := HST.out
              have hjd : j < (und ds k).length := by rw [HUND.out, List.length_map]; exact hju
              have hdv : (und ds k)[j] = v := by simp [HUND.out, hv]
              rw [List.drop_eq_getElem_cons hjd, hdv] at hst
              have hst2 : settleN ds k (downs (down f k v) k ((und ds k).drop (j + 1))) = settle ds f0 := hst
              have c2 := (HR.out.cell (k := k) (by rw [lvs_len]; exact hkn)).trans (lvs_get _ hkn)
              have c3 := (HR.out.cell (k := v) (by rw [lvs_len]; exact hvn)).trans (lvs_get _ hvn)
              have hfz := HR.out.frozen v
              have hset := lvs_set f hvn (f k)
              have HSET := Lib.hid hset
              clear hst hset hjd hdv hv g1
              by_cases hlt : f v < f k
              · have h1 : decide (f v < f k) = true := decide_eq_true hlt
                have h2 : decide ((f v : Int) < (f k : Int)) = true := decide_eq_true (by omega)
                rw [down_put hlt] at hst2
                have HST2 := Lib.hid hst2
                clear hst2 hlt HST
                obtain ⟨fk, hfk⟩ : ∃ x, x = f k := ⟨_, rfl⟩
                obtain ⟨fv, hfv⟩ : ∃ x, x = f v := ⟨_, rfl⟩
                rw [← hfk] at c2 h1 h2 HSET HST2
                rw [← hfv] at c3 h1 h2
                clear hfk hfv
                go_wp2_with fail
                go_quiet (fail)
                go_wp2_with fail
                refine ⟨⟨j + 1, _, by omega, by go_num, ?_, HST2.out, ?_⟩, by simp [intOf]; omega⟩
                · rw [← HSET.out]
                  exact (HR.out.keep (w' := wr.drewN nq) rfl).store v _
                · exact (below_drewN HB.out nq).setCell (p := ⟨g, v, none⟩) (Nat.le_refl _) _
              · have h1 : decide (f v < f k) = false := decide_eq_false hlt
                have h2 : decide ((f v : Int) < (f k : Int)) = false := decide_eq_false (by omega)
                rw [down_skip hlt] at hst2
                have HST2 := Lib.hid hst2
                clear hst2 hlt HST
                obtain ⟨fk, hfk⟩ : ∃ x, x = f k := ⟨_, rfl⟩
                obtain ⟨fv, hfv⟩ : ∃ x, x = f v := ⟨_, rfl⟩
                rw [← hfk] at c2 h1 h2
                rw [← hfv] at c3 h1 h2
                clear hfk hfv
                go_wp2_with fail
                go_quiet (fail)
                go_wp2_with fail
                exact ⟨⟨j + 1, f, by omega, by go_num, HR.out.keep (w' := wr.drewN nq) rfl, HST2.out, below_drewN HB.out nq⟩, by simp [intOf]; omega⟩
            · obtain rfl : j = mu := by omega
              have hst := HST.out
              rw [List.drop_eq_nil_of_le (by rw [HUND.out, List.length_map, HMU.out]; exact Nat.le_refl _)] at hst
              have hst2 : settleN ds k f = settle ds f0 := hst
              have HST2 := Lib.hid hst2
              clear hst hst2 HST
              go_wp2_with fail
              exact ⟨⟨k, f, by omega, by go_num, HR.out, HST2.out, HB.out⟩, by simp [intOf]⟩
end Go.Proofs.Ytghcemfffhjmjaa
