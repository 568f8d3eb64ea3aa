/- DomainsRuns: the document's Vote. -/
import Derived.Test.YtghcemfffhjmjaaRNb
import Derived.Deep.RegionHeld3
import Derived.Deep.RegionLaw
import Derived.Deep.DeepCutAuto
import Derived.Deep.CutRange
set_option linter.unusedVariables false
namespace Go.Proofs.Ytghcemfffhjmjaa
open Go.RowKit
theorem RowAt.setOther {w : World} {g : Nat} {e : TypeId} {xs : List Value} (h : RowAt w g e xs) (p : Addr) (hp : p.block ≠ g) (u : Value) : RowAt (w.setCell p u) g e xs :=
  h.frame (S := fun j => j = p.block) (Frame.setCell (S := fun j => j = p.block) (p := p) (Frame.refl _ w) (fun _ => rfl) u) (fun e => hp e.symm)
set_option maxRecDepth 100000 in
set_option maxHeartbeats 4000000 in
theorem rvote_arg {w : World} {B rb n m : Nat} {Ad : Option Addr} {cd : Nat} {Aw : Option Addr} {cw : Nat} {lr : List Dmi} {wl : List Wt} (h : RMem w B rb n m Ad cd Aw cw lr wl) (u d : Int) (lv : Nat) (hno : ¬ inR n u d) :
    Calls Try.prog 29 #[.pointer (some ⟨rb, 0, none⟩), .int .i64 u, .int .i64 d, .int .u8 (lv : Int)] w fun e w' => e = .returned (.tuple #[.slice none 0 0, .int .i64 1]) ∧ w = w' := by
  have c0 := h.c0
  unfold inR at hno
  clear h
  by_cases h1 : u < 0
  · clear hno
    go_enter Try.func29, Try.ntmps29
    go_wp2_with fail
    go_ret2
    exact ⟨rfl, rfl⟩
  · have h1' : 0 ≤ u := by omega
    by_cases h2 : u < 1024
    · by_cases h3 : d < 0
      · clear hno
        go_enter Try.func29, Try.ntmps29
        go_wp2_with fail
        go_ret2
        exact ⟨rfl, rfl⟩
      · have h3' : 0 ≤ d := by omega
        have h4 : (n : Int) ≤ d := by omega
        clear hno
        go_enter Try.func29, Try.ntmps29
        go_wp2_with fail
        go_ret2
        exact ⟨rfl, rfl⟩
    · have h2' : 1024 ≤ u := by omega
      clear hno h2
      go_enter Try.func29, Try.ntmps29
      go_wp2_with fail
      go_ret2
      exact ⟨rfl, rfl⟩
set_option maxRecDepth 100000 in
set_option maxHeartbeats 4000000 in
theorem rvote_in {w : World} {B rb n m N : Nat} {Ad : Option Addr} {cd : Nat} {Aw : Option Addr} {cw : Nat} {lr : List Dmi} {wl : List Wt} {W : Int → Int → Nat} (h : RMem w B rb n m Ad cd Aw cw lr wl) (hmay : mayD lr) (htop : ∀ x ∈ lr, x.t ≤ 255) (hrep : Rep n wl W) (hm : m < 100000) (hmN : m ≤ N) {u d lv : Nat} (hu : u < 1024) (hd : d < n) (hlv : lv ≤ 255) :
    Calls Try.prog 29 #[.pointer (some ⟨rb, 0, none⟩), .int .i64 (u : Int), .int .i64 (d : Int), .int .u8 (lv : Int)] w fun e w' =>
      (¬ TopOk (dms lr) (lev (dms lr) (updW W u d lv)) ∧ e = .returned (.tuple #[.slice none 0 0, .int .i64 201]) ∧ Below w.heap.size w w') ∨
      (TopOk (dms lr) (lev (dms lr) (updW W u d lv)) ∧ ∃ A c, e = .returned (.tuple #[.slice A (chgs (lev (dms lr) W) (lev (dms lr) (updW W u d lv)) n).length c, .int .i64 0]) ∧
        w'.ownsRow w.heap.size 86 3 (.slice A (chgs (lev (dms lr) W) (lev (dms lr) (updW W u d lv)) n).length c) (chgs (lev (dms lr) W) (lev (dms lr) (updW W u d lv)) n).length (chCells (chgs (lev (dms lr) W) (lev (dms lr) (updW W u d lv)) n)) ∧
        RNb w' B rb (N + 1) (dms lr) (updW W u d lv) ∧ Frame (fun j => j = rb) w w') := by
  have hn256 : n ≤ 256 := by rw [h.len]; exact hmay.1
  have c0 := h.c0
  have hrb := h.lt
  have hl1 := rlevels_any h hmay (by omega) (fun x hx => (hrep.ok x hx).2.1)
  rw [hrep.tops] at hl1
  obtain ⟨f, hf⟩ : ∃ f, f = lev (dms lr) W := ⟨_, rfl⟩
  have hl1 : Calls Try.prog 35 #[.pointer (some ⟨rb, 0, none⟩)] w fun e w' => e = .returned (.slice (some ⟨w.heap.size, 0, none⟩) n n) ∧ RowAt w' w.heap.size 5 (lvs f n) ∧ Below w.heap.size w w' := by rw [hf]; exact hl1
  have hrep2 := hrep.vote hu hd hlv
  have hwo := fun w2 (hb : Below w.heap.size w w2) => without_any (h.below hb) (by omega) (u : Int) (d : Int)
  obtain ⟨fl, hfl⟩ : ∃ fl, fl = wl.filter (keepW (u : Int) (d : Int)) := ⟨_, rfl⟩
  rw [← hfl] at hrep2 hwo
  have hfll : fl.length ≤ m := by rw [hfl, h.lenw]; exact List.length_filter_le _ _
  obtain ⟨W2, hW2⟩ : ∃ W2, W2 = updW W u d lv := ⟨_, rfl⟩
  rw [← hW2] at hrep2
  rw [← hW2, ← hf]
  have HH := Lib.hid h
  have HMAY := Lib.hid hmay
  have HTOP := Lib.hid htop
  have HL1 := Lib.hid hl1
  have HREP2 := Lib.hid hrep2
  have HWO := Lib.hid hwo
  have HFL := Lib.hid hfll
  clear h hmay htop hl1 hrep hrep2 hwo hfl hf hW2 hfll
  have hui : (u : Int) < 1024 := by omega
  have hdi : (d : Int) < (n : Int) := by omega
  obtain ⟨i0, e0, z0', z1', z2'⟩ := info_parts Try.info84
  go_enter Try.func29, Try.ntmps29
  go_upto_region 4 with (first
    | (go_at_call 35; refine HL1.out.mono ?_; rintro e w2 ⟨rfl, hr2, hb2⟩
       have HB2 := Lib.hid hb2
       have HR2 := Lib.hid hr2
       clear hr2 hb2)
    | fail)
  have hs2 : w.heap.size < w2.heap.size := HR2.out.lt
  have k0 : w2.drew.cell? ⟨rb, 0, none⟩ = some (.slice Ad n cd) := (HB2.out.cell (p := ⟨rb, 0, none⟩) hrb).trans c0
  have hwa := HWO.out w2.drew HB2.out.drew
  have hwb := HWO.out (w2.drew.alloc (.cells #[.int .i64 (u : Int), .int .i64 (d : Int), .int .u8 (lv : Int)] 84)) (HB2.out.drew.alloc HB2.out.size _)
  have k1 : (w2.drew.alloc (.cells #[.int .i64 (u : Int), .int .i64 (d : Int), .int .u8 (lv : Int)] 84)).cell? ⟨rb, 0, none⟩ = some (.slice Ad n cd) := (World.cell?_alloc_lt _ _ _ (by show rb < w2.heap.size; omega)).trans k0
  have k1' : (w2.alloc (.cells #[.int .i64 (u : Int), .int .i64 (d : Int), .int .u8 (lv : Int)] 84)).cell? ⟨rb, 0, none⟩ = some (.slice Ad n cd) := k1
  have k0' : w2.cell? ⟨rb, 0, none⟩ = some (.slice Ad n cd) := k0
  have HWA := Lib.hid hwa
  have HWB := Lib.hid hwb
  clear hwa hwb
  go_cut [11] (fun v wx => ∃ bm A4 c4, v = .pointer (some ⟨bm, 0, none⟩) ∧ RowAt wx bm 73 [.slice Ad n cd, .slice A4 (fl.length + 1) c4] ∧ Vec wx w2.heap.size A4 84 (wtCells (fl ++ [⟨u, d, lv⟩])) ∧ Below w2.heap.size w2 wx ∧ w2.heap.size ≤ bm)
  case first =>
    have m1 : fl.length + 1 ≤ maxLen := by unfold maxLen; have := HFL.out; omega
    have m2 : (fl.length + 1) * 24 ≤ 140737488355328 := by have := HFL.out; omega
    go_region_law (first
      | (refine step_append_seg rfl (.tmp 42) (.tmp 47) 71 rfl w2.heap.size 84 i0 _ 3 24 Try.underlying71 e0 z0' z1' z2' rfl (by decide) (.slice A3 fl.length c3) fl.length (wtCells fl) (by simp [Act.eval]) (World.ownsRow.alloc (w := w3) (by exact HOWN3.out) _) (w3.heap.size + 1) (some ⟨w3.heap.size, 0, none⟩) 1 1 [.int .i64 (u : Int), .int .i64 (d : Int), .int .u8 (lv : Int)] (by simp [Act.eval]) rfl (by exact seg_new _ 84 #[.int .i64 (u : Int), .int .i64 (d : Int), .int .u8 (lv : Int)]) (by simp [Value.oneCell']) m1 m2 (by simp; omega) ?_; intro v4 w4 hown4 hg4 _
         obtain ⟨A4, c4, rfl⟩ := own_shape hown4
         have hb4 : Below w2.heap.size w2 w4 := (HB3.out.alloc HB3.out.size _).grown hg4 (by simp; omega) (fun g hg => (HOWN3.out.lt g hg).1)
         have k5 : w4.cell? ⟨rb, 0, none⟩ = some (.slice Ad n cd) := (hb4.cell (p := ⟨rb, 0, none⟩) (by show rb < w2.heap.size; omega)).trans k0
         have hown4' := hown4
         rw [← wt_cells_add fl ⟨u, d, lv⟩] at hown4'
         have HOWN4 := Lib.hid hown4'
         have HB4 := Lib.hid hb4
         clear hown4 hown4' hg4 hb4)
      | (refine step_append_seg rfl (.tmp 42) (.tmp 47) 71 rfl w2.heap.size 84 i0 _ 3 24 Try.underlying71 e0 z0' z1' z2' rfl (by decide) (.slice A3 fl.length c3) fl.length (wtCells fl) (by simp [Act.eval]) (by exact HOWN3B.out) (w2.heap.size + 1) (some ⟨w2.heap.size, 0, none⟩) 1 1 [.int .i64 (u : Int), .int .i64 (d : Int), .int .u8 (lv : Int)] (by simp [Act.eval]) rfl (by exact HSG.out) (by simp [Value.oneCell']) m1 m2 (by omega) ?_; intro v4 w4 hown4 hg4 _
         obtain ⟨A4, c4, rfl⟩ := own_shape hown4
         have hb4 : Below w2.heap.size w2 w4 := HB3.out.grown hg4 (by omega) (fun g hg => (HOWN3B.out.lt g hg).1)
         have k5 : w4.cell? ⟨rb, 0, none⟩ = some (.slice Ad n cd) := (hb4.cell (p := ⟨rb, 0, none⟩) (by show rb < w2.heap.size; omega)).trans k0
         have hown4' := hown4
         rw [← wt_cells_add fl ⟨u, d, lv⟩] at hown4'
         have HOWN4 := Lib.hid hown4'
         have HB4 := Lib.hid hb4
         clear hown4 hown4' hg4 hb4)
      | (go_simp; go_at_call 36; refine HWA.out.mono ?_; rintro e w3 ⟨k, A3, c3, rfl, rfl, hown3, hb3⟩
         have hb3' : Below w2.heap.size w2 w3 := ⟨hb3.os, hb3.tape, hb3.output, hb3.size, hb3.block⟩
         have k2 : w3.cell? ⟨rb, 0, none⟩ = some (.slice Ad n cd) := (hb3'.cell (p := ⟨rb, 0, none⟩) (by show rb < w2.heap.size; omega)).trans k0
         have k3 : (w3.alloc (.cells #[.int .i64 (u : Int), .int .i64 (d : Int), .int .u8 (lv : Int)] 84)).cell? ⟨rb, 0, none⟩ = some (.slice Ad n cd) := (World.cell?_alloc_lt _ _ _ (by show rb < w3.heap.size; have := hb3'.size; omega)).trans k2
         have hown3' : w3.ownsRow w2.heap.size 84 3 (.slice A3 fl.length c3) fl.length (wtCells fl) := hown3
         have hsz3 : w2.heap.size ≤ w3.heap.size := hb3'.size
         have HOWN3 := Lib.hid hown3'
         have HB3 := Lib.hid hb3'
         clear hown3 hown3' hb3 hb3')
      | (go_simp; go_at_call 36; refine HWB.out.mono ?_; rintro e w3 ⟨k, A3, c3, rfl, rfl, hown3, hb3⟩
         have hbA : Below w2.heap.size w2 (w2.drew.alloc (.cells #[.int .i64 (u : Int), .int .i64 (d : Int), .int .u8 (lv : Int)] 84)) := (Below.refl _ _).drew.alloc (Nat.le_refl _) _
         have hb3' : Below w2.heap.size w2 w3 := hbA.trans (hb3.mono (by simp))
         have hsg : Seg w3 (w2.heap.size + 1) (some ⟨w2.heap.size, 0, none⟩) [.int .i64 (u : Int), .int .i64 (d : Int), .int .u8 (lv : Int)] := (seg_new w2.drew 84 #[.int .i64 (u : Int), .int .i64 (d : Int), .int .u8 (lv : Int)]).below (hb3.mono (by show w2.heap.size + 1 ≤ _; simp))
         have k2 : w3.cell? ⟨rb, 0, none⟩ = some (.slice Ad n cd) := (hb3'.cell (p := ⟨rb, 0, none⟩) (by show rb < w2.heap.size; omega)).trans k0
         have hown3' : w3.ownsRow w2.heap.size 84 3 (.slice A3 fl.length c3) fl.length (wtCells fl) := own_base hown3 (by simp)
         have hsz3 : w2.heap.size + 1 ≤ w3.heap.size := by have := hb3.size; simp at this; omega
         have HOWN3B := Lib.hid hown3'
         have HB3 := Lib.hid hb3'
         have HSG := Lib.hid hsg
         clear hown3 hown3' hb3 hb3' hsg hbA)
      | fail)
    all_goals go_wp2_with fail
    all_goals go_meet
    all_goals exact ⟨_, A4, c4, rfl, ⟨_, heap_alloc_new _ _, rfl⟩, (Vec.of_own HOWN4.out).below ((Below.refl _ _).alloc (Nat.le_refl _) _), HB4.out.alloc HB4.out.size _, HB4.out.size⟩
  case rest =>
  obtain ⟨bm, A4, c4, rfl, hrow, hvec, hb5, hbm⟩ := hcut
  have hbw : Below w.heap.size w wc := HB2.out.trans (hb5.mono (by omega))
  have hm5 := HH.out.below hbw
  obtain ⟨wl2, hwl2⟩ : ∃ x, x = fl ++ [(⟨u, d, lv⟩ : Wt)] := ⟨_, rfl⟩
  have hrep2 := HREP2.out
  rw [← hwl2] at hvec hrep2
  obtain ⟨m2, hm2⟩ : ∃ x, x = fl.length + 1 := ⟨_, rfl⟩
  have hm2m : m2 ≤ m + 1 := by have := HFL.out; omega
  have hml2 : m2 = wl2.length := by rw [hwl2, hm2]; simp
  rw [← hm2] at hrow
  have hlow := HH.out.low
  have rm : RMem wc B bm n m2 Ad cd A4 c4 lr wl2 := ⟨by omega, HH.out.len, hml2, hrow, hm5.doms, hm5.under, hm5.cap, hvec.mono (by omega)⟩
  have hl2 := rlevels_any rm HMAY.out (by omega) (fun x hx => (hrep2.ok x hx).2.1)
  rw [hrep2.tops] at hl2
  obtain ⟨f2, hf2⟩ : ∃ f, f = lev (dms lr) W2 := ⟨_, rfl⟩
  have hl2 : Calls Try.prog 35 #[.pointer (some ⟨bm, 0, none⟩)] wc fun e w' => e = .returned (.slice (some ⟨wc.heap.size, 0, none⟩) n n) ∧ RowAt w' wc.heap.size 5 (lvs f2 n) ∧ Below wc.heap.size wc w' := by rw [hf2]; exact hl2
  have HL2 := Lib.hid hl2
  have HF2 := Lib.hid hf2
  have HRM := Lib.hid rm
  have HBW := Lib.hid hbw
  have HREP := Lib.hid hrep2
  have HVEC := Lib.hid hvec
  have hdl : (dms lr).length = n := by rw [dms_len]; exact HH.out.len.symm
  have hwcs : w2.heap.size ≤ wc.heap.size := hb5.size
  have hbml : bm < wc.heap.size := hrow.lt
  have hr1 := HR2.out.keep (hb5.block _ hs2)
  have HR1 := Lib.hid hr1
  clear hml2 hl2 hf2 rm hbw hrep2 hvec hb5 hwl2 hm2 hrow hm5 HL1 HWO HWA HWB HREP2 k0 k0' k1 k1' hr1 HR2 c0
  go_wp2_with (first
    | (go_at_call 35; refine HL2.out.mono ?_; rintro e w6 ⟨rfl, hr6, hb6⟩
       have HB6 := Lib.hid hb6
       have HR6 := Lib.hid hr6
       clear hr6 hb6)
    | fail)
  have hs6 : wc.heap.size < w6.heap.size := HR6.out.lt
  go_loopw [13] (fun iv wr => ∃ i : Nat, i ≤ n ∧ iv = .int .i64 i ∧ (∀ j, j < i → ∀ h : j < (dms lr).length, f2 j ≤ (dms lr)[j].t) ∧ Below w6.heap.size w6 wr) (fun iv _ => n - (intOf iv).toNat)
  case atStart => exact ⟨0, by omega, rfl, fun j hj => by omega, Below.refl _ _⟩
  case round =>
    obtain ⟨i, hi, rfl, hall, hb7⟩ := hrel
    have HALL := Lib.hid hall
    have HB7 := Lib.hid hb7
    have hs7 : w6.heap.size ≤ wr.heap.size := hb7.size
    have hb67 := HB6.out.trans (hb7.mono HB6.out.size)
    have hb07 := HBW.out.trans (hb67.mono HBW.out.size)
    have HB67 := Lib.hid hb67
    have HB07 := Lib.hid hb07
    have k0 := (HH.out.below hb07).c0
    clear hall hb7 hb67 hb07
    by_cases hin : i < n
    · have hii : (i : Int) < (n : Int) := by omega
      have hil : i < lr.length := by rw [← HH.out.len]; exact hin
      obtain ⟨b, off, rfl, hbb, _, z1, _⟩ := (HH.out.domi.below HB07.out).at_ hil
      have c2 := ((HR6.out.keep (HB7.out.block _ hs6)).cell (k := i) (by rw [lvs_len]; exact hin)).trans (lvs_get _ hin)
      have hlt : i < (dms lr).length := by rw [hdl]; exact hin
      have htd := top_dms lr hlt
      obtain ⟨tp, htp⟩ : ∃ x, x = lr[i].t := ⟨_, rfl⟩
      rw [← htp] at z1 htd
      by_cases hgt : tp < f2 i
      · have h1 : decide (tp < f2 i) = true := decide_eq_true hgt
        have h2 : decide ((tp : Int) < (f2 i : Int)) = true := decide_eq_true (by omega)
        have hnt : ¬ TopOk (dms lr) (lev (dms lr) W2) := fun h => by
          have := h i hlt
          rw [← HF2.out] at this
          omega
        have HNT := Lib.hid hnt
        clear htp htd hgt hnt hlt
        generalize f2 i = fv at c2 h1 h2
        go_wp2_with fail
        go_quiet (fail)
        go_wp2_with fail
        go_ret2
        exact .inl ⟨HNT.out, rfl, below_drewN HB07.out _⟩
      · have h1 : decide (tp < f2 i) = false := decide_eq_false hgt
        have h2 : decide ((tp : Int) < (f2 i : Int)) = false := decide_eq_false (by omega)
        have hall2 : ∀ j, j < i + 1 → ∀ h : j < (dms lr).length, f2 j ≤ (dms lr)[j].t := fun j hj h => by
          rcases (show j < i ∨ j = i by omega) with h3 | rfl
          · exact HALL.out j h3 h
          · omega
        have HALL2 := Lib.hid hall2
        clear htp htd hgt hall2 hlt
        generalize f2 i = fv at c2 h1 h2
        go_wp2_with fail
        go_quiet (fail)
        go_wp2_with fail
        exact ⟨⟨i + 1, by omega, by go_num, HALL2.out, below_drewN HB7.out _⟩, by simp [intOf]; omega⟩
    · obtain rfl : i = n := by omega
      have htp : TopOk (dms lr) (lev (dms lr) W2) := fun j hj => by
        rw [← HF2.out]
        exact HALL.out j (by rw [← hdl]; exact hj) hj
      have HTP := Lib.hid htp
      have k1 := (HRM.out.below HB67.out).c1
      have hbx := HH.out.below HB07.out
      have hfz := hbx.box.frozen 1
      have k2 := hbx.c1
      have hst := hbx.box.store 1 (.slice A4 m2 c4)
      have hne : rb ≠ wc.heap.size := by omega
      have hrA := RowAt.setOther ((HR1.out.keep (HB6.out.block _ (by omega))).keep (HB7.out.block _ (by omega))) ⟨rb, 1, none⟩ (show rb ≠ w.heap.size by omega) (.slice A4 m2 c4)
      have hrB := RowAt.setOther (HR6.out.keep (HB7.out.block _ hs6)) ⟨rb, 1, none⟩ hne (.slice A4 m2 c4)
      have hfr : Frame (fun j => j = rb) w (wr.setCell ⟨rb, 1, none⟩ (.slice A4 m2 c4)) := Frame.setCell (S := fun j => j = rb) (p := ⟨rb, 1, none⟩) (Frame.of_below HB07.out) (fun _ => rfl) _
      have hrm : RMem (wr.setCell ⟨rb, 1, none⟩ (.slice A4 m2 c4)) B rb i m2 Ad cd A4 c4 lr wl2 := by
        have hx := HRM.out.below HB67.out
        have keep : ∀ g e xs, RowAt wr g e xs → e ≠ 73 → (wr.setCell ⟨rb, 1, none⟩ (.slice A4 m2 c4)).heap[g]? = wr.heap[g]? := fun g e xs hg he => by
          have hne := hg.ne_type hbx.box he
          exact (Frame.setCell (S := fun j => j = rb) (p := ⟨rb, 1, none⟩) (Frame.refl _ wr) (fun _ => rfl) _).block g hg.lt (fun x => hne x)
        refine ⟨hbx.low, hbx.len, hx.lenw, hst, hbx.doms.keep2 fun g _ hg => keep g _ _ hg (by decide), fun x hxm => (hbx.under x hxm).keep2 fun g _ hg => keep g _ _ hg (by decide), hbx.cap, hx.want.keep2 fun g _ hg => keep g _ _ hg (by decide)⟩
      have HRM2 := Lib.hid hrm
      have HFR := Lib.hid hfr
      have hch := rchanges_any hn256 hrA hrB
      have HCH := Lib.hid hch
      clear hbx hst hrA hrB hfr hrm hch htp
      go_wp2_with (first
        | (go_at_call 37; refine HCH.out.mono ?_; rintro e w8 ⟨A8, c8, rfl, hown8, hb8⟩
           have HOWN8 := Lib.hid hown8
           have HB8 := Lib.hid hb8
           clear hown8 hb8)
        | fail)
      go_ret2
      refine .inr ⟨HTP.out, A8, c8, ?_, ?_, ?_, HFR.out.below HB8.out⟩
      · rw [← HF2.out]; rfl
      · rw [← HF2.out]; exact own_base HOWN8.out HFR.out.size
      · exact ⟨i, m2, Ad, cd, A4, c4, lr, wl2, HRM2.out.below HB8.out, HMAY.out, HTOP.out, rfl, HREP.out, by omega⟩
theorem rvote_nb {w : World} {B rb N : Nat} {ds : List Dm} {W : Int → Int → Nat} (h : RNb w B rb N ds W) (hN : N < 100000) (u d : Int) (lv : Nat) (hlv : lv ≤ 255) :
    Calls Try.prog 29 #[.pointer (some ⟨rb, 0, none⟩), .int .i64 u, .int .i64 d, .int .u8 (lv : Int)] w fun e w' => ∃ A c, e = .returned (.tuple #[.slice A (voteC ds W u d lv).length c, .int .i64 (voteE ds W u d lv)]) ∧
      w'.ownsRow w.heap.size 86 3 (.slice A (voteC ds W u d lv).length c) (voteC ds W u d lv).length (chCells (voteC ds W u d lv)) ∧ RNb w' B rb (N + 1) ds (voteW ds W u d lv) ∧ Frame (fun j => j = rb) w w' := by
  have h0 := h
  obtain ⟨n, m, Ad, cd, Aw, cw, lr, wl, h1, h2, h3, h4, h5, h6⟩ := h
  have hn := h1.n_eq h4
  by_cases hin : inR ds.length u d
  · obtain ⟨u', rfl⟩ : ∃ u' : Nat, u = u' := ⟨u.toNat, (Int.toNat_of_nonneg hin.1).symm⟩
    obtain ⟨d', rfl⟩ : ∃ d' : Nat, d = d' := ⟨d.toNat, (Int.toNat_of_nonneg hin.2.2.1).symm⟩
    have hu : u' < 1024 := by have := hin.2.1; omega
    have hd : d' < n := by have := hin.2.2.2; omega
    refine (rvote_in h1 h2 h3 h5 (by omega) h6 hu hd hlv).mono ?_
    rintro e w' (⟨ht, rfl, hb⟩ | ⟨ht, A, c, rfl, ho, hnb, hf⟩)
    · rw [h4] at ht
      have he := voteE_stuck hin ht
      have hne : voteE ds W u' d' lv ≠ 0 := by omega
      rw [voteC_no hne, voteW_no hne, he]
      exact ⟨none, 0, rfl, World.ownsRow_nil _ _ _ _, (h0.below hb).more (by omega), Frame.of_below hb⟩
    · rw [h4] at ht ho hnb ⊢
      have he := voteE_ok hin ht
      rw [hn] at ho ⊢
      rw [voteC_ok he, voteW_ok he, he]
      exact ⟨A, c, rfl, ho, hnb, hf⟩
  · have he := voteE_arg (lv := lv) (W := W) hin
    have hne : voteE ds W u d lv ≠ 0 := by omega
    rw [voteC_no hne, voteW_no hne, he]
    refine (rvote_arg h1 u d lv (by rw [hn]; exact hin)).mono ?_
    rintro e w' ⟨rfl, rfl⟩
    exact ⟨none, 0, rfl, World.ownsRow_nil _ _ _ _, h0.more (by omega), Frame.refl _ _⟩
end Go.Proofs.Ytghcemfffhjmjaa
