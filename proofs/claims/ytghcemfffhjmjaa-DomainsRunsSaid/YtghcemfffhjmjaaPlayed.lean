/- DomainsRuns: the statement's played. -/
import Derived.Test.YtghcemfffhjmjaaRSt
import Derived.Deep.CutBlock
import Derived.Deep.RegionHeld3
set_option linter.unusedVariables false
namespace Go.Proofs.Ytghcemfffhjmjaa
open Go.RowKit
/-- What writes to a row of changes alone leaves the document's net. -/
theorem RNb.typed {w w' : World} {B rb N : Nat} {ds : List Dm} {W : Int → Int → Nat} (h : RNb w B rb N ds W) (hk : ∀ g e xs, RowAt w g e xs → e ≠ 40 → w'.heap[g]? = w.heap[g]?) : RNb w' B rb N ds W := by
  obtain ⟨n, m, Ad, cd, Aw, cw, lr, wl, h1, h2, h3, h4, h5, h6⟩ := h
  refine ⟨n, m, Ad, cd, Aw, cw, lr, wl, ⟨h1.low, h1.len, h1.lenw, h1.box.keep (hk _ _ _ h1.box (by decide)), h1.doms.keep2 fun g _ hr => hk _ _ _ hr (by decide), fun x hx => (h1.under x hx).keep2 fun g _ hr => hk _ _ _ hr (by decide), h1.cap, h1.want.keep2 fun g _ hr => hk _ _ _ hr (by decide)⟩, h2, h3, h4, h5, h6⟩
theorem Nb.fit {w : World} {nb mb B N : Nat} {ds : List Dm} {W : Int → Int → Nat} (h : Nb w nb mb B N ds W) : Fitw ds.length W := by
  obtain ⟨N', Ad, cd, ls, h1, h2, h3, h4, h5, h6, h7⟩ := h
  exact h5
theorem set3 {w : World} {g : Nat} {ys : List Value} (h : RowAt w g 40 ys) (i : Nat) (a b c : Value) : RowAt (((w.setCell ⟨g, i * 3, none⟩ a).setCell ⟨g, i * 3 + 1, none⟩ b).setCell ⟨g, i * 3 + 2, none⟩ c) g 40 (((ys.set (i * 3) a).set (i * 3 + 1) b).set (i * 3 + 2) c) :=
  ((h.store (i * 3) a).store (i * 3 + 1) b).store (i * 3 + 2) c
theorem set3_other {w : World} {g g' : Nat} (h : g' ≠ g) (i j k : Nat) (a b c : Value) : (((w.setCell ⟨g, i, none⟩ a).setCell ⟨g, j, none⟩ b).setCell ⟨g, k, none⟩ c).heap[g']? = w.heap[g']? := by
  rw [Below.heap_setCell _ _ _ _ h, Below.heap_setCell _ _ _ _ h, Below.heap_setCell _ _ _ _ h]
/-- Both nets at one moment of the script. -/
structure Both (w0 w : World) (nb mb Bp Br rb i : Nat) (ds : List Dm) (W : Int → Int → Nat) : Prop where
  n : Nb w nb mb Bp i ds W
  r : RNb w Br rb i ds W
  b : Below mb w0 w
  ap : Bp ≤ Br
theorem Both.below {w0 w w' : World} {nb mb Bp Br rb i : Nat} {ds : List Dm} {W : Int → Int → Nat} (h : Both w0 w nb mb Bp Br rb i ds W) (hb : Below w.heap.size w w') : Both w0 w' nb mb Bp Br rb i ds W :=
  ⟨h.n.below hb, h.r.below hb, h.b.trans (hb.mono (by have := h.n.lt; omega)), h.ap⟩
theorem Both.more {w0 w : World} {nb mb Bp Br rb i j : Nat} {ds : List Dm} {W : Int → Int → Nat} (h : Both w0 w nb mb Bp Br rb i ds W) (hj : i ≤ j) : Both w0 w nb mb Bp Br rb j ds W :=
  ⟨h.n.more hj, h.r.more hj, h.b, h.ap⟩
theorem Both.stands {w0 w : World} {nb mb Bp Br rb i : Nat} {ds : List Dm} {W : Int → Int → Nat} (h : Both w0 w nb mb Bp Br rb i ds W) (hi : i ≤ 100000) :
    Calls Try.prog 33 #[.pointer (some ⟨nb, 0, none⟩), .pointer (some ⟨rb, 0, none⟩)] w fun e w' => e = .returned (.bool true) ∧ Below w.heap.size w w' := stands_any h.n h.r hi
/-- What a step leaves: the same changes, the same errors; both nets stand alike. -/
def Step (w0 wx : World) (nb mb Bp Br rb i gx : Nat) (ds : List Dm) (y : Stp) (v9 v10 v11 v12 : Value) : Prop :=
  ∃ (Aw Ag : Option Addr) (cw cg : Nat) (chs : List (Nat × Nat × Nat)) (er : Int) (W' : Int → Int → Nat), v9 = .slice Aw chs.length cw ∧ v10 = .slice Ag chs.length cg ∧ v11 = .int .i64 er ∧ v12 = .int .i64 er ∧
    Seg wx wx.heap.size Aw (chCells chs) ∧ wx.ownsRow gx 40 3 (.slice Ag chs.length cg) chs.length (chCells chs) ∧ chs.length ≤ 512 ∧ Both w0 wx nb mb Bp Br rb (i + 1) ds W' ∧ RowAt wx gx 25 (Stp.cells y)
theorem Step.vote {w0 w9 w10 w11 : World} {nb mb Bp Br rb i gx : Nat} {ds : List Dm} {W : Int → Int → Nat} {y : Stp} {A10 A11 : Option Addr} {c10 c11 : Nat} {chs : List (Nat × Nat × Nat)} {W' : Int → Int → Nat} {er : Int}
    (h9 : Both w0 w9 nb mb Bp Br rb i ds W) (hg : Br ≤ gx) (hrow : RowAt w9 gx 25 (Stp.cells y)) (hrb : rb < gx) (hlen : chs.length ≤ 512)
    (ho10 : w10.ownsRow w9.heap.size 86 3 (.slice A10 chs.length c10) chs.length (chCells chs)) (hr10 : RNb w10 Br rb (i + 1) ds W') (hf10 : Frame (fun j => j = rb) w9 w10)
    (ho11 : w11.ownsRow w10.heap.size 40 3 (.slice A11 chs.length c11) chs.length (chCells chs)) (hn11 : Nb w11 nb mb Bp (i + 1) ds W') (hf11 : Frame (fun j => j = nb ∨ j = mb) w10 w11) :
    Step w0 w11 nb mb Bp Br rb i gx ds y (.slice A10 chs.length c10) (.slice A11 chs.length c11) (.int .i64 er) (.int .i64 er) := by
  have l9 := h9.n.lt
  have ap := h9.ap
  have gl := hrow.lt
  have lr := h9.r.lt
  have s10 := hf10.size
  refine ⟨A10, A11, c10, c11, chs, er, W', rfl, rfl, rfl, rfl, ?_, own_base ho11 (by omega), hlen, ⟨hn11, hr10.other hf11 (fun j hj => by omega), ?_, ap⟩, ?_⟩
  · exact own_seg (own_keep ho10 fun g hgb => hf11.block g (ho10.lt g hgb).2 (fun x => by have := (ho10.lt g hgb).1; omega))
  · have hb1 := h9.b.trans (hf10.toBelow (B := mb) (by omega) (fun k hk hs => by omega))
    exact hb1.trans (hf11.toBelow (B := mb) (by omega) (fun k hk hs => by omega))
  · exact (hrow.frame hf10 (by omega)).frame hf11 (by omega)
theorem voteC_512 {ds : List Dm} (h : ds.length ≤ 256) (W : Int → Int → Nat) (u d : Int) (lv : Nat) : (voteC ds W u d lv).length ≤ 512 := by
  have := voteC_len2 ds W u d lv; omega
theorem leaveC_512 {ds : List Dm} (h : ds.length ≤ 256) (W : Int → Int → Nat) (u : Int) : (leaveC ds W u).length ≤ 512 := by
  have : (leaveC ds W u).length ≤ ds.length + ds.length := chgs_len _ _ _
  omega
theorem frame3 (w : World) (g i j k : Nat) (a b c : Value) : Frame (fun x => x = g) w (((w.setCell ⟨g, i, none⟩ a).setCell ⟨g, j, none⟩ b).setCell ⟨g, k, none⟩ c) :=
  Frame.setCell (S := fun x => x = g) (p := ⟨g, k, none⟩) (Frame.setCell (S := fun x => x = g) (p := ⟨g, j, none⟩) (Frame.setCell (S := fun x => x = g) (p := ⟨g, i, none⟩) (Frame.refl _ w) (fun _ => rfl) a) (fun _ => rfl) b) (fun _ => rfl) c
theorem chs_cells_len (l : List (Nat × Nat × Nat)) : (chCells l).length = l.length * 3 := flat_length _ 3 (fun _ => rfl) l
set_option maxRecDepth 100000 in
set_option maxHeartbeats 4000000 in
theorem played_any {w : World} {nb mb Bp Br rb : Nat} {ds : List Dm} {W0 : Int → Int → Nat} (h : Both w w nb mb Bp Br rb 0 ds W0) (As : Option Addr) (cs m : Nat) (S : List Stp) (hm : m = S.length) (hs : Seg w mb As (stCells S)) (hwf : ∀ x ∈ S, x.wf) :
    Calls Try.prog 21 #[.pointer (some ⟨nb, 0, none⟩), .pointer (some ⟨rb, 0, none⟩), .slice As m cs] w fun e w' => e = .returned (.bool true) ∧ Below mb w w' := by
  have hn256 : ds.length ≤ 256 := h.n.net.okd.len
  have HH := Lib.hid h
  have HM := Lib.hid hm
  have HS := Lib.hid hs
  have HWF := Lib.hid hwf
  clear h hm hs hwf
  go_enter Try.func21, Try.ntmps21
  go_wp2_with fail
  go_loopw [7] (fun iv wr => ∃ (i : Nat) (W : Int → Int → Nat), i ≤ m ∧ i ≤ 200 ∧ iv = .int .i64 i ∧ Both w wr nb mb Bp Br rb i ds W) (fun iv _ => m - (intOf iv).toNat)
  case atStart => exact ⟨0, W0, by omega, by omega, rfl, HH.out⟩
  case round =>
    obtain ⟨i, W, him, hi2, rfl, hb⟩ := hrel
    clear HH
    have HB := Lib.hid hb
    clear hb
    by_cases hgo : i < m ∧ i < 200
    · obtain ⟨hgo1, hgo2⟩ := hgo
      have hk1 : (i : Int) < (m : Int) := by omega
      have hk2 : (i : Int) < 200 := by omega
      have hks : i < S.length := by rw [← HM.out]; exact hgo1
      obtain ⟨b, off, rfl, hbb, z0, z1, z2, z3⟩ := (HS.out.below HB.out.b).st hks
      have hyw := HWF.out _ (List.getElem_mem hks)
      obtain ⟨y, hy⟩ : ∃ y, y = S[i] := ⟨_, rfl⟩
      rw [← hy] at z0 z1 z2 z3 hyw
      clear hy
      have HYW := Lib.hid hyw
      clear hyw
      go_upto_region 9 with fail
      have hal : Below wr.heap.size wr (wr.alloc (.cells #[.int .i64 y.k, .int .i64 y.u, .int .i64 y.d, .int .u8 (y.lv : Int)] 25)) := (Below.refl _ _).alloc (Nat.le_refl _) _
      have hb9 := HB.out.below hal
      have hrow : RowAt (wr.alloc (.cells #[.int .i64 y.k, .int .i64 y.u, .int .i64 y.d, .int .u8 (y.lv : Int)] 25)) wr.heap.size 25 (Stp.cells y) := ⟨_, heap_alloc_new _ _, rfl⟩
      have hrl := HB.out.r.lt
      clear hal z0 z1 z2 z3
      generalize wr.alloc (.cells #[.int .i64 y.k, .int .i64 y.u, .int .i64 y.d, .int .u8 (y.lv : Int)] 25) = w9 at *
      generalize wr.heap.size = gx at *
      have x0 := hrow.cell (k := 0) (by simp [Stp.cells])
      have x1 := hrow.cell (k := 1) (by simp [Stp.cells])
      have x2 := hrow.cell (k := 2) (by simp [Stp.cells])
      have x3 := hrow.cell (k := 3) (by simp [Stp.cells])
      simp only [Stp.cells, List.getElem?_cons_succ, List.getElem?_cons_zero] at x0 x1 x2 x3
      have HB9 := Lib.hid hb9
      have HROW := Lib.hid hrow
      have hrb : rb < gx := hrl.2
      have hBg : Br ≤ gx := by omega
      have hrv := rvote_nb hb9.r (by omega) y.u y.d y.lv HYW.out.lv
      have hrl := rleave_nb hb9.r (by omega) hb9.n.fit y.u
      have hv := fun w10 (hf : Frame (fun j => j = rb) w9 w10) => vote_nb (hb9.n.other hf (fun j hj => by have := hb9.ap; have := hb9.r.lt; omega)) (by unfold maxLen; omega) y.u y.d y.lv HYW.out.lv
      have hl := fun w10 (hf : Frame (fun j => j = rb) w9 w10) => leave_nb (hb9.n.other hf (fun j hj => by have := hb9.ap; have := hb9.r.lt; omega)) y.u
      have HRV := Lib.hid hrv
      have HRL := Lib.hid hrl
      have HV := Lib.hid hv
      have HL := Lib.hid hl
      clear hb9 hrow hrv hrl hv hl HB
      generalize y.k = kk at x0
      go_upto_block 2 with fail
      go_cut [9, 10, 11, 12] from 14 to 109 (fun v9 v10 v11 v12 wx => Step w wx nb mb Bp Br rb i gx ds y v9 v10 v11 v12)
      case first =>
        by_cases hy1 : kk = 1
        · subst hy1
          go_wp2_with (first
            | (go_at_call 11; refine (HV.out w10 HF10.out).mono ?_; rintro e w11 ⟨A11, c11, rfl, hown11, hn11, hf11⟩
               have HOWN11 := Lib.hid hown11
               have HN11 := Lib.hid hn11
               have HF11 := Lib.hid hf11
               clear hown11 hn11 hf11)
            | (go_at_call 29; refine HRV.out.mono ?_; rintro e w10 ⟨A10, c10, rfl, hown10, hr10, hf10⟩
               have hrow2 := HROW.out.frame hf10 (by omega)
               have x1 := hrow2.cell (k := 1) (by simp [Stp.cells])
               have x2 := hrow2.cell (k := 2) (by simp [Stp.cells])
               have x3 := hrow2.cell (k := 3) (by simp [Stp.cells])
               simp only [Stp.cells, List.getElem?_cons_succ, List.getElem?_cons_zero] at x1 x2 x3
               have HOWN10 := Lib.hid hown10
               have HR10 := Lib.hid hr10
               have HF10 := Lib.hid hf10
               clear hown10 hr10 hf10 hrow2)
            | fail)
          go_meet
          exact Step.vote HB9.out hBg HROW.out hrb (voteC_512 hn256 W y.u y.d y.lv) HOWN10.out HR10.out HF10.out HOWN11.out HN11.out HF11.out
        · by_cases hy2 : kk = 2
          · subst hy2
            clear hy1
            go_wp2_with (first
              | (go_at_call 14; refine (HL.out w10 HF10.out).mono ?_; rintro e w11 ⟨A11, c11, rfl, hown11, hn11, hf11⟩
                 have HOWN11 := Lib.hid hown11
                 have HN11 := Lib.hid hn11
                 have HF11 := Lib.hid hf11
                 clear hown11 hn11 hf11)
              | (go_at_call 30; refine HRL.out.mono ?_; rintro e w10 ⟨A10, c10, rfl, hown10, hr10, hf10⟩
                 have hrow2 := HROW.out.frame hf10 (by omega)
                 have x1 := hrow2.cell (k := 1) (by simp [Stp.cells])
                 simp only [Stp.cells, List.getElem?_cons_succ, List.getElem?_cons_zero] at x1
                 have HOWN10 := Lib.hid hown10
                 have HR10 := Lib.hid hr10
                 have HF10 := Lib.hid hf10
                 clear hown10 hr10 hf10 hrow2)
              | fail)
            go_meet
            exact Step.vote HB9.out hBg HROW.out hrb (leaveC_512 hn256 W y.u) HOWN10.out (HR10.out.more (by omega)) HF10.out HOWN11.out (HN11.out.more (by omega)) HF11.out
          · have hz1 : (kk == 1) = false := by rw [beq_eq_false_iff_ne]; exact hy1
            have hz2 : (kk == 2) = false := by rw [beq_eq_false_iff_ne]; exact hy2
            go_wp2_with fail
            go_meet
            exact ⟨none, none, 0, 0, [], 0, W, rfl, rfl, rfl, rfl, Seg.nil, World.ownsRow_nil _ _ _ _, by simp, HB9.out.more (by omega), HROW.out⟩
      case rest =>
      obtain ⟨Aw, Ag, cw, cg, chs, er, W', rfl, rfl, rfl, rfl, hsw, hog, hlen, hbo, hro⟩ := hcut
      obtain ⟨nc, hnc⟩ : ∃ nc, nc = chs.length := ⟨_, rfl⟩
      rw [← hnc] at hlen hog ⊢
      have hch := changes_same Ag Aw cg cw chs nc hnc (by omega) wc.drew (own_seg hog) hsw
      have hw1 := fun w11 (hb : Below wc.drew.heap.size wc.drew w11) => wants_net ((hbo.below (w' := wc.drew) (Below.refl _ _).drew).below hb).n.net y.u y.d HYW.out.u HYW.out.d
      have hw2 := fun w11 (hb : Below wc.drew.heap.size wc.drew w11) => rwants_nb ((hbo.below (w' := wc.drew) (Below.refl _ _).drew).below hb).r (by omega) y.u y.d
      have hst := fun w11 (hb : Below wc.drew.heap.size wc.drew w11) => ((hbo.below (w' := wc.drew) (Below.refl _ _).drew).below hb).stands (by omega)
      have x1 := hro.cell (k := 1) (by simp [Stp.cells])
      have x2 := hro.cell (k := 2) (by simp [Stp.cells])
      simp only [Stp.cells, List.getElem?_cons_succ, List.getElem?_cons_zero] at x1 x2
      generalize W' y.u y.d = wv at hw1 hw2
      have hgl : gx < wc.drew.heap.size := hro.lt
      have HCH := Lib.hid hch
      have HW1 := Lib.hid hw1
      have HW2 := Lib.hid hw2
      have HST := Lib.hid hst
      have HNC := Lib.hid hnc
      have HOG := Lib.hid hog
      have HBO := Lib.hid hbo
      clear hsw hog hbo hro hch hw1 hw2 hst hnc HB9 HROW HRV HRL HV HL x0
      go_wp2_with fail
      go_region_held3 (fun W => W.cell? ⟨gx, 1, none⟩ = some (.int .i64 y.u) ∧ W.cell? ⟨gx, 2, none⟩ = some (.int .i64 y.d)) (first | exact ⟨x1, x2⟩ | exact ⟨q1, q2⟩ | exact ⟨q3, q4⟩) (first
        | (go_at_call 33; refine (HST.out w11 HB11.out).mono ?_; rintro e w12 ⟨rfl, hb12⟩
           have q3 := (hb12.cell (p := ⟨gx, 1, none⟩) hg11).trans q1
           have q4 := (hb12.cell (p := ⟨gx, 2, none⟩) hg11).trans q2
           have HB12 := Lib.hid hb12
           clear hb12)
        | (go_at_call 32; refine (HW2.out w11 HB11.out).mono ?_; rintro e w12 ⟨rfl, rfl⟩)
        | (go_at_call 12; refine (HW1.out w11 HB11.out).mono ?_; rintro e w12 ⟨rfl, rfl⟩)
        | (go_at_call 31; refine HCH.out.mono ?_; rintro e w11 ⟨rfl, hb11⟩
           have q1 := (hb11.cell (p := ⟨gx, 1, none⟩) hgl).trans x1
           have q2 := (hb11.cell (p := ⟨gx, 2, none⟩) hgl).trans x2
           have hg11 : gx < w11.heap.size := Nat.lt_of_lt_of_le hgl hb11.size
           have HB11 := Lib.hid hb11
           clear hb11)
        | fail)
      have hk12 : ∀ g, g < wc.heap.size → w12.heap[g]? = wc.heap[g]? := fun g hg => (HB12.out.block g (Nat.lt_of_lt_of_le hg HB11.out.size)).trans (HB11.out.block g hg)
      have hbo := ((HBO.out.below (w' := wc.drew) (Below.refl _ _).drew).below HB11.out).below HB12.out
      have hvc : Vec w12 gx Ag 40 (chCells chs) := Vec.of_own (own_keep HOG.out fun g hg => hk12 g (HOG.out.lt g hg).2)
      have hcl : (chCells chs).length = nc * 3 := by rw [HNC.out]; exact chs_cells_len chs
      have HBO2 := Lib.hid hbo
      have HVC := Lib.hid hvc
      have HCL := Lib.hid hcl
      clear hk12 hbo hvc hcl HCH HW1 HW2 HST HOG HBO HB11 HB12 x1 x2 q1 q2 q3 q4 hg11 hgl
      go_wp2_with fail
      go_loopw [13] (fun iv wr => ∃ (q : Nat) (ys : List Value), q ≤ nc ∧ iv = .int .i64 q ∧ ys.length = nc * 3 ∧ Vec wr gx Ag 40 ys ∧ Both w wr nb mb Bp Br rb (i + 1) ds W') (fun iv _ => nc - (intOf iv).toNat)
      case atStart => exact ⟨0, _, by omega, rfl, HCL.out, HVC.out, HBO2.out⟩
      case round =>
        obtain ⟨q, ys, hq, rfl, hyl, hv, hb⟩ := hrel
        clear HBO2 HVC HCL
        have HV := Lib.hid hv
        have HB := Lib.hid hb
        have HYL := Lib.hid hyl
        clear hv hb hyl
        by_cases hqn : q < nc
        · have hqi : (q : Int) < (nc : Int) := by omega
          obtain ⟨g4, rfl, hg4, hrow⟩ := HV.out (by intro e; have := HYL.out; rw [e, List.length_nil] at this; omega)
          have hyl := HYL.out
          have c0 := hrow.cell (k := q * 3) (by omega)
          have c1 := hrow.cell (k := q * 3 + 1) (by omega)
          have c2 := hrow.cell (k := q * 3 + 2) (by omega)
          rw [List.getElem?_eq_getElem (by omega)] at c0 c1 c2
          generalize ys[q * 3] = y0 at c0
          generalize ys[q * 3 + 1] = y1 at c1
          generalize ys[q * 3 + 2] = y2 at c2
          have f0 := hrow.frozen (q * 3)
          have f1 := hrow.frozen (q * 3 + 1)
          have f2 := hrow.frozen (q * 3 + 2)
          have HROW := Lib.hid hrow
          clear hyl hrow
          go_wp2_with fail
          have hf : ∀ a b c, Frame (fun j => j = g4) wr (((wr.setCell ⟨g4, q * 3, none⟩ a).setCell ⟨g4, q * 3 + 1, none⟩ b).setCell ⟨g4, q * 3 + 2, none⟩ c) := fun a b c =>
            frame3 wr g4 _ _ _ a b c
          have hlt := HB.out.n.lt
          have hap := HB.out.ap
          refine ⟨⟨q + 1, _, by omega, by go_num, ?_, fun _ => ⟨g4, rfl, hg4, set3 HROW.out q _ _ _⟩, ⟨HB.out.n.other (hf _ _ _) (fun j hj => by omega), HB.out.r.typed (fun g e xs hr hne => set3_other (hr.ne_type HROW.out hne) _ _ _ _ _ _), HB.out.b.trans ((hf _ _ _).toBelow (by omega) (fun k hk hs => by omega)), hap⟩⟩, by simp [intOf]; omega⟩
          simp only [List.length_set]
          exact HYL.out
        · obtain rfl : q = nc := by omega
          go_wp2_with fail
          exact ⟨⟨i + 1, W', by omega, by omega, by go_num, HB.out⟩, by simp [intOf]; omega⟩
    · have hc : ¬ (i : Int) < (m : Int) ∨ ((i : Int) < (m : Int) ∧ ¬ (i : Int) < 200) := by omega
      have hst := HB.out.stands (by omega)
      have HST := Lib.hid hst
      clear hst hgo
      rcases hc with hc | ⟨hc1, hc2⟩
      all_goals
        go_wp2_with (go_at_call 33; refine HST.out.mono ?_; rintro e w1 ⟨rfl, hb1⟩; have HB1 := Lib.hid hb1; clear hb1)
        go_ret
        exact ⟨by rfl, HB.out.b.trans (HB1.out.mono (by have := HB.out.n.lt; omega))⟩
end Go.Proofs.Ytghcemfffhjmjaa
