/- DomainsRuns: the document's Leave. -/
import Derived.Test.YtghcemfffhjmjaaRVote
set_option linter.unusedVariables false
namespace Go.Proofs.Ytghcemfffhjmjaa
open Go.RowKit
set_option maxRecDepth 100000 in
set_option maxHeartbeats 4000000 in
theorem rleave_arg (rb : Nat) (u : Int) (w : World) (hno : u < 0 ∨ 1024 ≤ u) :
    Calls Try.prog 30 #[.pointer (some ⟨rb, 0, none⟩), .int .i64 u] w fun e w' => e = .returned (.tuple #[.slice none 0 0, .int .i64 1]) ∧ w = w' := by
  by_cases h1 : u < 0
  · clear hno
    go_enter Try.func30, Try.ntmps30
    go_wp2_with fail
    go_ret2
    exact ⟨rfl, rfl⟩
  · have h1' : 0 ≤ u := by omega
    have h2' : 1024 ≤ u := by omega
    clear hno
    go_enter Try.func30, Try.ntmps30
    go_wp2_with fail
    go_ret2
    exact ⟨rfl, rfl⟩
set_option maxRecDepth 100000 in
set_option maxHeartbeats 4000000 in
theorem rleave_in {w : World} {B rb n m N : Nat} {Ad : Option Addr} {cd : Nat} {Aw : Option Addr} {cw : Nat} {lr : List Dmi} {wl : List Wt} {W : Int → Int → Nat} (h : RMem w B rb n m Ad cd Aw cw lr wl) (hmay : mayD lr) (htop : ∀ x ∈ lr, x.t ≤ 255) (hrep : Rep n wl W) (hm : m ≤ 100000) (hmN : m ≤ N) {u : Nat} (hu : u < 1024) :
    Calls Try.prog 30 #[.pointer (some ⟨rb, 0, none⟩), .int .i64 (u : Int)] w fun e w' => ∃ A c, e = .returned (.tuple #[.slice A (chgs (lev (dms lr) W) (lev (dms lr) (leaveW W u)) n).length c, .int .i64 0]) ∧
        w'.ownsRow w.heap.size 86 3 (.slice A (chgs (lev (dms lr) W) (lev (dms lr) (leaveW W u)) n).length c) (chgs (lev (dms lr) W) (lev (dms lr) (leaveW W u)) n).length (chCells (chgs (lev (dms lr) W) (lev (dms lr) (leaveW W u)) n)) ∧
        RNb w' B rb N (dms lr) (leaveW W u) ∧ Frame (fun j => j = rb) w w' := by
  have hn256 : n ≤ 256 := by rw [h.len]; exact hmay.1
  have hrb := h.lt
  have hl1 := rlevels_any h hmay (by omega) (fun x hx => (hrep.ok x hx).2.1)
  rw [hrep.tops] at hl1
  obtain ⟨f, hf⟩ : ∃ f, f = lev (dms lr) W := ⟨_, rfl⟩
  have hl1 : Calls Try.prog 35 #[.pointer (some ⟨rb, 0, none⟩)] w fun e w' => e = .returned (.slice (some ⟨w.heap.size, 0, none⟩) n n) ∧ RowAt w' w.heap.size 5 (lvs f n) ∧ Below w.heap.size w w' := by rw [hf]; exact hl1
  have hrep2 := hrep.left (u : Int)
  have hwo := fun w2 (hb : Below w.heap.size w w2) => without_any (h.below hb) (by omega) (u : Int) (-1)
  obtain ⟨fl, hfl⟩ : ∃ fl, fl = wl.filter (keepW (u : Int) (-1)) := ⟨_, rfl⟩
  rw [← hfl] at hrep2 hwo
  have hfll : fl.length ≤ m := by rw [hfl, h.lenw]; exact List.length_filter_le _ _
  obtain ⟨W2, hW2⟩ : ∃ W2, W2 = leaveW W u := ⟨_, rfl⟩
  rw [← hW2] at hrep2
  rw [← hW2, ← hf]
  have hput : ∀ w2 w3 k A3 c3, Below w.heap.size w w2 → Below w2.heap.size w2 w3 → k = fl.length → w3.ownsRow w2.heap.size 84 3 (.slice A3 k c3) k (wtCells fl) → RMem (w3.setCell ⟨rb, 1, none⟩ (.slice A3 k c3)) B rb n k Ad cd A3 c3 lr fl := fun w2 w3 k A3 c3 hb2 hb3 hk hown => by
    have hbx := h.below (hb2.trans (hb3.mono hb2.size))
    have keep : ∀ g e xs, RowAt w3 g e xs → e ≠ 73 → (w3.setCell ⟨rb, 1, none⟩ (.slice A3 k c3)).heap[g]? = w3.heap[g]? := fun g e xs hg he => by
      have hne := hg.ne_type hbx.box he
      exact (Frame.setCell (S := fun j => j = rb) (p := ⟨rb, 1, none⟩) (Frame.refl _ w3) (fun _ => rfl) _).block g hg.lt (fun x => hne x)
    have hlow := h.low
    have hs2 := hb2.size
    exact ⟨hbx.low, hbx.len, hk, hbx.box.store 1 (.slice A3 k c3), hbx.doms.keep2 fun g _ hg => keep g _ _ hg (by decide), fun x hxm => (hbx.under x hxm).keep2 fun g _ hg => keep g _ _ hg (by decide), hbx.cap, ((Vec.of_own hown).mono (by omega)).keep2 fun g _ hg => keep g _ _ hg (by decide)⟩
  have c1 := h.c1
  have hfz : ∀ w3, Below w.heap.size w w3 → w3.frozen? ⟨rb, 1, none⟩ = false ∧ w3.cell? ⟨rb, 1, none⟩ = some (.slice Aw m cw) := fun w3 hb => ⟨(h.below hb).box.frozen 1, (h.below hb).c1⟩
  have HMAY := Lib.hid hmay
  have HTOP := Lib.hid htop
  have HL1 := Lib.hid hl1
  have HREP2 := Lib.hid hrep2
  have HWO := Lib.hid hwo
  have HFL := Lib.hid hfll
  have HPUT := Lib.hid hput
  have HFZ := Lib.hid hfz
  clear h hmay htop hl1 hrep hrep2 hwo hfl hf hW2 hfll hput hfz c1
  have hui : (u : Int) < 1024 := by omega
  go_enter Try.func30, Try.ntmps30
  go_upto_region 5 with (first
    | (go_at_call 36; refine (HWO.out w2 HB2.out).mono ?_; rintro e w3 ⟨k, A3, c3, hk, rfl, hown3, hb3⟩
       have hb03 := HB2.out.trans (hb3.mono HB2.out.size)
       obtain ⟨fz3, k3⟩ := HFZ.out w3 hb03
       have hrm := HPUT.out w2 w3 k A3 c3 HB2.out hb3 hk hown3
       have hfr : Frame (fun j => j = rb) w (w3.setCell ⟨rb, 1, none⟩ (.slice A3 k c3)) := Frame.setCell (S := fun j => j = rb) (p := ⟨rb, 1, none⟩) (Frame.of_below hb03) (fun _ => rfl) _
       have hr4 := RowAt.setOther (HR2.out.keep (hb3.block _ HR2.out.lt)) ⟨rb, 1, none⟩ (show rb ≠ w.heap.size by omega) (.slice A3 k c3)
       have hkm : k ≤ m := by have := HFL.out; omega
       have HRM := Lib.hid hrm
       have HR4 := Lib.hid hr4
       have HFR := Lib.hid hfr
       clear hk hown3 hb3 hb03 hrm hr4 hfr)
    | (go_at_call 35; refine HL1.out.mono ?_; rintro e w2 ⟨rfl, hr2, hb2⟩
       have HB2 := Lib.hid hb2
       have HR2 := Lib.hid hr2
       clear hr2 hb2)
    | fail)
  generalize w3.setCell ⟨rb, 1, none⟩ (.slice A3 k c3) = w4 at *
  have hl2 := rlevels_any HRM.out HMAY.out (by omega) (fun x hx => (HREP2.out.ok x hx).2.1)
  rw [HREP2.out.tops] at hl2
  obtain ⟨f2, hf2⟩ : ∃ f2, f2 = lev (dms lr) W2 := ⟨_, rfl⟩
  have hl2 : Calls Try.prog 35 #[.pointer (some ⟨rb, 0, none⟩)] w4 fun e w' => e = .returned (.slice (some ⟨w4.heap.size, 0, none⟩) n n) ∧ RowAt w' w4.heap.size 5 (lvs f2 n) ∧ Below w4.heap.size w4 w' := by rw [hf2]; exact hl2
  have hch : ∀ w5, RowAt w5 w4.heap.size 5 (lvs f2 n) → Below w4.heap.size w4 w5 → Calls Try.prog 37 #[.slice (some ⟨w.heap.size, 0, none⟩) n n, .slice (some ⟨w4.heap.size, 0, none⟩) n n] w5 fun e w' => ∃ A c, e = .returned (.slice A (chgs f f2 n).length c) ∧
      w'.ownsRow w5.heap.size 86 3 (.slice A (chgs f f2 n).length c) (chgs f f2 n).length (chCells (chgs f f2 n)) ∧ Below w5.heap.size w5 w' := fun w5 hr5 hb5 => rchanges_any hn256 (HR4.out.keep (hb5.block _ HR4.out.lt)) hr5
  have hrn : RNb w4 B rb N (dms lr) W2 := ⟨n, k, Ad, cd, A3, c3, lr, fl, HRM.out, HMAY.out, HTOP.out, rfl, HREP2.out, by omega⟩
  have HL2 := Lib.hid hl2
  have HCH := Lib.hid hch
  have HRN := Lib.hid hrn
  have HF2 := Lib.hid hf2
  clear hl2 hch hrn hf2 HL1
  go_wp2_with (first
    | (go_at_call 37; refine (HCH.out w5 HR5.out HB5.out).mono ?_; rintro e w6 ⟨A6, c6, rfl, hown6, hb6⟩
       have HOWN6 := Lib.hid hown6
       have HB6 := Lib.hid hb6
       clear hown6 hb6)
    | (go_at_call 35; refine HL2.out.mono ?_; rintro e w5 ⟨rfl, hr5, hb5⟩
       have HR5 := Lib.hid hr5
       have HB5 := Lib.hid hb5
       clear hr5 hb5)
    | fail)
  go_ret2
  rw [← HF2.out]
  exact ⟨A6, c6, by rfl, own_base HOWN6.out (Nat.le_trans HFR.out.size HB5.out.size), (HRN.out.below HB5.out).below HB6.out, (HFR.out.below HB5.out).below HB6.out⟩
theorem rleave_nb {w : World} {B rb N : Nat} {ds : List Dm} {W : Int → Int → Nat} (h : RNb w B rb N ds W) (hN : N ≤ 100000) (hW : Fitw ds.length W) (u : Int) :
    Calls Try.prog 30 #[.pointer (some ⟨rb, 0, none⟩), .int .i64 u] w fun e w' => ∃ A c, e = .returned (.tuple #[.slice A (leaveC ds W u).length c, .int .i64 (leaveE u)]) ∧
      w'.ownsRow w.heap.size 86 3 (.slice A (leaveC ds W u).length c) (leaveC ds W u).length (chCells (leaveC ds W u)) ∧ RNb w' B rb N ds (leaveW W u) ∧ Frame (fun j => j = rb) w w' := by
  have h0 := h
  obtain ⟨n, m, Ad, cd, Aw, cw, lr, wl, h1, h2, h3, h4, h5, h6⟩ := h
  have hn := h1.n_eq h4
  by_cases hin : 0 ≤ u ∧ u < 1024
  · obtain ⟨u', rfl⟩ : ∃ u' : Nat, u = u' := ⟨u.toNat, (Int.toNat_of_nonneg hin.1).symm⟩
    have he : leaveE u' = 0 := by unfold leaveE; rw [if_pos hin]
    refine (rleave_in h1 h2 h3 h5 (by omega) h6 (u := u') (by omega)).mono ?_
    rintro e w' ⟨A, c, rfl, ho, hnb, hf⟩
    rw [h4, hn] at ho
    rw [h4] at hnb
    rw [he, h4, hn]
    exact ⟨A, c, rfl, ho, hnb, hf⟩
  · have he : leaveE u = 1 := by unfold leaveE; rw [if_neg hin]
    have hw := leaveW_out hW (u := u) (by omega)
    have hc : leaveC ds W u = [] := by unfold leaveC; rw [hw, chgs_same]
    rw [he, hw, hc]
    refine (rleave_arg rb u w (by omega)).mono ?_
    rintro e w' ⟨rfl, rfl⟩
    exact ⟨none, 0, rfl, World.ownsRow_nil _ _ _ _, h0, Frame.refl _ _⟩
end Go.Proofs.Ytghcemfffhjmjaa
