/- What is asked of the chapter's tree first: the contract. -/
import Derived.Test.YtmdnbajbfnhecaaDoorWk
set_option linter.unusedVariables false
namespace Go.Proofs.YtmdnbajbfnhecaaDoor
open Go.RowKit
def kX : ByteArray := ⟨#[47, 115, 111, 99, 47, 117, 97, 114, 116, 64, 48, 47, 120]⟩
def kU : ByteArray := ⟨#[47, 115, 111, 99, 47, 117, 97, 114, 116, 64, 48]⟩
def kS : ByteArray := ⟨#[115]⟩
theorem ku_list : kU.toList = [47, 115, 111, 99, 47, 117, 97, 114, 116, 64, 48] := by rw [ByteArray.toList_eq]; rfl
set_option maxRecDepth 100000 in
theorem sm_find : findV smallD kX = (3, 0) := by kernel_rfl
set_option maxRecDepth 100000 in
theorem sm_wrong1 : wrongF smallD 1 = 0 := by kernel_rfl
set_option maxRecDepth 100000 in
theorem sm_wrong2 : wrongF smallD 2 = 0 := by kernel_rfl
set_option maxRecDepth 100000 in
theorem sm_wrong6 : wrongF smallD 6 = 0 := by kernel_rfl
set_option maxRecDepth 100000 in
theorem sm_path : pathS smallD 2 = kU := by unfold pathS; rw [if_pos sm_wrong2]; kernel_rfl
set_option maxRecDepth 100000 in
theorem sm_hand : handV smallD 7 = (1, 0) := by kernel_rfl
set_option maxRecDepth 100000 in
theorem sm_alias : aliasV smallD kS = (2, 0) := by kernel_rfl
set_option maxRecDepth 100000 in
theorem sm_on : onV smallD 6 = false := by unfold onV; rw [if_pos sm_wrong6]; kernel_rfl
theorem sm_end : endN smallD 1 = 4 := by
  obtain ⟨h1, h2, h3, h4⟩ := endN_at (l := smallD) (i := 1) (by decide)
  generalize endN smallD 1 = z at *
  have h2' : z ≤ 7 := h2
  rcases Nat.lt_or_ge 4 z with h | h
  · exact absurd (h3 4 (by omega) h) (by decide)
  · rcases (show z = 2 ∨ z = 3 ∨ z = 4 by omega) with rfl | rfl | rfl
    · have := h4 (by decide); revert this; decide
    · have := h4 (by decide); revert this; decide
    · rfl
set_option maxRecDepth 100000 in
theorem sm_cutE : cutE smallD 1 = 0 := by unfold cutE; rw [sm_wrong1]; rfl
theorem sm_cutR : (cutR smallD 1).length = 4 := by unfold cutR; rw [if_pos sm_cutE, show (1 : Int).toNat = 1 from rfl, sm_end]; rfl
theorem sm_cutP : (cutP smallD 1).length = 3 := by unfold cutP; rw [if_pos sm_cutE, show (1 : Int).toNat = 1 from rfl, sm_end]; rfl
theorem small_sized (g1 g2 g3 g4 : Nat) : Sized (smallM g1 g2 g3 g4) := by
  refine ⟨by show 7 * 48 ≤ _; omega, ?_, fun x hx => ?_, fun x hx => ?_⟩
  · rw [small_dat]
    have h : ∀ x ∈ smallD, x.n.size ≤ 100 ∧ ∀ y ∈ x.ps, y.n.size ≤ 100 ∧ y.v.size ≤ 100 := by decide
    exact fun x hx => ⟨by have := (h x hx).1; omega, fun y hy => by have := (h x hx).2 y hy; omega⟩
  · have h : ∀ d ∈ smallD, d.ps.length * 32 ≤ 140737488355328 := by decide
    exact h x.d (by rw [← small_dat g1 g2 g3 g4]; unfold dat; exact List.mem_map_of_mem hx)
  · have h : ∀ d ∈ smallD, (Lit.int .i64 d.p).wf = true := by decide
    exact h x.d (by rw [← small_dat g1 g2 g3 g4]; unfold dat; exact List.mem_map_of_mem hx)
set_option maxRecDepth 100000 in
set_option maxHeartbeats 16000000 in
theorem works_any (w : World) (hv0 : Var0 w) (hw0 : 0 < w.heap.size) : Calls Tryd.prog 27 #[] w fun e w' => e = .returned (.bool true) ∧ Below w.heap.size w w' := by
  have hku : (kU.toList == [47, 115, 111, 99, 47, 117, 97, 114, 116, 64, 48]) = true := by rw [ku_list]; rfl
  have HV := Lib.hid hv0
  clear hv0
  go_enter Tryd.func27, Tryd.ntmps27
  go_wp2_with (first
    | (go_at_call 61
       have hsm := psame_any (some ⟨b, 0, none⟩) 7 7 (smallM g1 g2 g3 g4) rfl (small_sized _ _ _ _) A1 cc1 4 l1 HR1.out.len w7 w7.heap.size (Nat.le_refl _) ((HS.out.below HX7.out).more HX7.out.size) HR1.out.nodes
       rw [small_dat, HNO.out] at hsm
       refine hsm.mono ?_
       rintro e w8 ⟨rfl, hb8⟩
       have HB8 := Lib.hid (HB1.out.trans (((HX7.out.trans (hb8.mono HX7.out.size))).mono HB1.out.size))
       clear hb8 hsm)
    | (go_at_call 60
       refine (pcut_any (some ⟨b, 0, none⟩) 7 7 (smallM g1 g2 g3 g4) rfl (Nat.le_refl _) (small_sized _ _ _ _) 1 w6 w1.heap.size HX6.out.size (HS.out.below HX6.out)).mono ?_
       rintro e w7 ⟨⟨A1, n1, cc1, l1, A2, n2, cc2, l2, he, ho1, ho2, _, hd1, hd2⟩, hb7⟩
       rw [small_dat] at he hd1 hd2
       rw [sm_cutE] at he
       obtain rfl : n1 = 4 := by rw [ho1.len, ← dat_len, hd1, sm_cutR]
       obtain rfl : n2 = 3 := by rw [ho2.len, ← dat_len, hd2, sm_cutP]
       subst he
       have HR1 := Lib.hid ho1
       have HX7 := Lib.hid (HX6.out.trans (hb7.mono HX6.out.size))
       have HNO := Lib.hid (show sameB smallD (dat l1) = false from sb_len (by rw [hd1, sm_cutR]; decide))
       clear ho1 ho2 hd1 hd2 hb7)
    | (go_at_call 51
       have hq := penabled_any (some ⟨b, 0, none⟩) 7 7 (smallM g1 g2 g3 g4) rfl (small_sized _ _ _ _) 6 w5 (HV1.out.below HX5.out hw1) (Nat.lt_of_lt_of_le hw1 HX5.out.size) w1.heap.size HX5.out.size (HS.out.below HX5.out)
       rw [small_dat, sm_on, sm_wrong6] at hq
       refine hq.mono ?_
       rintro e w6 ⟨rfl, hb6⟩
       have HX6 := Lib.hid (HX5.out.trans (hb6.mono HX5.out.size))
       clear hb6 hq)
    | (go_at_call 13
       have hq := palias_any (some ⟨b, 0, none⟩) 7 7 (smallM g1 g2 g3 g4) rfl (small_sized _ _ _ _) kS w4 (HV1.out.below HX4.out hw1) (Nat.lt_of_lt_of_le hw1 HX4.out.size) w1.heap.size HX4.out.size (HS.out.below HX4.out)
       rw [small_dat, sm_alias] at hq
       refine hq.mono ?_
       rintro e w5 ⟨rfl, hb5⟩
       have HX5 := Lib.hid (HX4.out.trans (hb5.mono HX4.out.size))
       clear hb5 hq)
    | (go_at_call 11
       have hq := phandle_any (some ⟨b, 0, none⟩) 7 7 (smallM g1 g2 g3 g4) rfl (small_sized _ _ _ _) 7 (by omega) w3 w1.heap.size HX3.out.size (HS.out.below HX3.out)
       rw [small_dat, sm_hand] at hq
       refine hq.mono ?_
       rintro e w4 ⟨rfl, hb4⟩
       have HX4 := Lib.hid (HX3.out.trans (hb4.mono HX3.out.size))
       clear hb4 hq)
    | (go_at_call 16
       have hq := ppath_any (some ⟨b, 0, none⟩) 7 7 (smallM g1 g2 g3 g4) rfl (small_sized _ _ _ _) 2 w2 w1.heap.size HX2.out.size (HS.out.below HX2.out)
       rw [small_dat, sm_path, sm_wrong2] at hq
       refine hq.mono ?_
       rintro e w3 ⟨rfl, hb3⟩
       have HX3 := Lib.hid (HX2.out.trans (hb3.mono HX2.out.size))
       clear hb3 hq)
    | (go_at_call 9
       have hq := pfind_any (some ⟨b, 0, none⟩) 7 7 (smallM g1 g2 g3 g4) rfl (small_sized _ _ _ _) kX (by decide) w1 HV1.out hw1 w1.heap.size (Nat.le_refl _) HS.out
       rw [small_dat, sm_find] at hq
       refine hq.mono ?_
       rintro e w2 ⟨rfl, hb2⟩
       have HX2 := Lib.hid hb2
       clear hb2 hq)
    | (go_at_call 59
       refine (small_any w).mono ?_
       rintro e w1 ⟨b, g1, g2, g3, g4, rfl, hs, hb1⟩
       have HS := Lib.hid hs
       have HB1 := Lib.hid hb1
       have HV1 := Lib.hid (HV.out.below hb1 hw0)
       have hw1 : 0 < w1.heap.size := Nat.lt_of_lt_of_le hw0 hb1.size
       clear hs hb1))
  go_ret
  exact ⟨rfl, HB8.out⟩
end Go.Proofs.YtmdnbajbfnhecaaDoor
