/- The chapter's tree, and what is asked of it first. What is asked of the chapter's tree first: the contract. A tree of at most 60 nodes: the contract of tame. The plain law of TreePaths: paths, depths, ends. -/
import Derived.Test.YtmdnbajbfnhecaaGreatDoorAC
import Derived.Test.YtmdnbajbfnhecaaGreatDoorPCut
import Derived.Test.YtmdnbajbfnhecaaGreatDoorPSame
set_option linter.unusedVariables false
namespace Go.Proofs.YtmdnbajbfnhecaaGreatDoor
open Go.RowKit
/-- The chapter's tree, as data. -/
def smallD : List Nd := [⟨-1, ⟨#[]⟩, []⟩, ⟨0, ⟨#[115, 111, 99]⟩, [⟨⟨#[112, 104, 97, 110, 100, 108, 101]⟩, ⟨#[0, 0, 0, 7]⟩⟩]⟩, ⟨1, ⟨#[117, 97, 114, 116, 64, 48]⟩, [⟨⟨#[99, 111, 109, 112, 97, 116, 105, 98, 108, 101]⟩, ⟨#[97, 0, 98, 0]⟩⟩, ⟨⟨#[115, 116, 97, 116, 117, 115]⟩, ⟨#[111, 107, 97, 121, 0]⟩⟩]⟩, ⟨2, ⟨#[120]⟩, []⟩, ⟨0, ⟨#[97, 108, 105, 97, 115, 101, 115]⟩, [⟨⟨#[115]⟩, ⟨#[47, 115, 111, 99, 47, 117, 97, 114, 116, 64, 48, 0]⟩⟩]⟩, ⟨0, ⟨#[111, 102, 102]⟩, [⟨⟨#[115, 116, 97, 116, 117, 115]⟩, ⟨#[100, 105, 115, 97, 98, 108, 101, 100, 0]⟩⟩]⟩, ⟨5, ⟨#[121]⟩, []⟩]
def smallM (g1 g2 g3 g4 : Nat) : List Nm := [⟨⟨-1, ⟨#[]⟩, []⟩, none, 0⟩, ⟨⟨0, ⟨#[115, 111, 99]⟩, [⟨⟨#[112, 104, 97, 110, 100, 108, 101]⟩, ⟨#[0, 0, 0, 7]⟩⟩]⟩, some ⟨g1, 0, none⟩, 1⟩, ⟨⟨1, ⟨#[117, 97, 114, 116, 64, 48]⟩, [⟨⟨#[99, 111, 109, 112, 97, 116, 105, 98, 108, 101]⟩, ⟨#[97, 0, 98, 0]⟩⟩, ⟨⟨#[115, 116, 97, 116, 117, 115]⟩, ⟨#[111, 107, 97, 121, 0]⟩⟩]⟩, some ⟨g2, 0, none⟩, 2⟩, ⟨⟨2, ⟨#[120]⟩, []⟩, none, 0⟩, ⟨⟨0, ⟨#[97, 108, 105, 97, 115, 101, 115]⟩, [⟨⟨#[115]⟩, ⟨#[47, 115, 111, 99, 47, 117, 97, 114, 116, 64, 48, 0]⟩⟩]⟩, some ⟨g3, 0, none⟩, 1⟩, ⟨⟨0, ⟨#[111, 102, 102]⟩, [⟨⟨#[115, 116, 97, 116, 117, 115]⟩, ⟨#[100, 105, 115, 97, 98, 108, 101, 100, 0]⟩⟩]⟩, some ⟨g4, 0, none⟩, 1⟩, ⟨⟨5, ⟨#[121]⟩, []⟩, none, 0⟩]
theorem small_dat (g1 g2 g3 g4 : Nat) : dat (smallM g1 g2 g3 g4) = smallD := rfl
theorem seg_later {w wF : World} {cs : Array Value} {e : TypeId} (h : Below (w.alloc (.cells cs e)).heap.size (w.alloc (.cells cs e)) wF) : Seg wF wF.heap.size (some ⟨w.heap.size, 0, none⟩) cs.toList :=
  (((seg_new w e cs).more (by simp)).below h).more h.size
set_option maxRecDepth 100000 in
theorem prop_any (a b : ByteArray) (w : World) : Calls Tryz.prog 41 #[.string a, .string b] w fun e w' => e = .returned (.agg #[.string a, .string b]) ∧ Below w.heap.size w w' := by
  have hb : Below w.heap.size w (w.alloc (.cells #[.string a, .string b] 57)) := (Below.refl _ w).alloc (Nat.le_refl _) _
  have x0 : (w.alloc (.cells #[.string a, .string b] 57)).cell? ⟨w.heap.size, 0, none⟩ = some (.string a) := by
    rw [cell_of_row _ _ _ _ _ (0, 0) (heap_alloc_new w _)]; rfl
  have x1 : (w.alloc (.cells #[.string a, .string b] 57)).cell? ⟨w.heap.size, 1, none⟩ = some (.string b) := by
    rw [cell_of_row _ _ _ _ _ (0, 0) (heap_alloc_new w _)]; rfl
  have HB := Lib.hid hb
  clear hb
  go_enter Tryz.func41, Tryz.ntmps41
  go_wp2_with fail
  refine bodyPost_ret (v := .agg #[.string a, .string b]) (results_cell_row (p := 4) (ty := 57) rfl _ _ w.heap.size 57 #[.string a, .string b] (0, 0) _ rfl (heap_alloc_new w _) Tryz.underlying57 rfl (by kernel_rfl)) rfl ⟨rfl, HB.out⟩
set_option maxRecDepth 100000 in
set_option maxHeartbeats 4000000 in
theorem small_any (w : World) : Calls Tryz.prog 19 #[] w fun e w' => ∃ (b g1 g2 g3 g4 : Nat), e = .returned (.slice (some ⟨b, 0, none⟩) 7 7) ∧ Nodes w' w'.heap.size (some ⟨b, 0, none⟩) (smallM g1 g2 g3 g4) ∧ Below w.heap.size w w' := by
  go_enter Tryz.func19, Tryz.ntmps19
  go_wp2_with (first
    | (go_at_call 41; have hx := HB4; refine (prop_any _ _ _).mono ?_; rintro e w5 ⟨rfl, hb⟩; have HB5 := Lib.hid hb; clear hb hx)
    | (go_at_call 41; have hx := HB3; refine (prop_any _ _ _).mono ?_; rintro e w4 ⟨rfl, hb⟩; have HB4 := Lib.hid hb; clear hb hx)
    | (go_at_call 41; have hx := HB2; refine (prop_any _ _ _).mono ?_; rintro e w3 ⟨rfl, hb⟩; have HB3 := Lib.hid hb; clear hb hx)
    | (go_at_call 41; have hx := HB1; refine (prop_any _ _ _).mono ?_; rintro e w2 ⟨rfl, hb⟩; have HB2 := Lib.hid hb; clear hb hx)
    | (go_at_call 41; refine (prop_any _ _ _).mono ?_; rintro e w1 ⟨rfl, hb⟩; have HB1 := Lib.hid hb; clear hb))
  go_ret
  have b1 := HB1.out
  have b2 := HB2.out
  have b3 := HB3.out
  have b4 := HB4.out
  have b5 := HB5.out
  clear HB1 HB2 HB3 HB4 HB5
  have al : ∀ (v : World) (o : Obj), Below v.heap.size v (v.alloc o) := fun v o => (Below.refl _ v).alloc (Nat.le_refl _) o
  have hN : (nmCells (smallM w1.heap.size w3.heap.size w4.heap.size w5.heap.size)).toArray.toList = nmCells (smallM w1.heap.size w3.heap.size w4.heap.size w5.heap.size) := by simp
  have d5 : Below (w5.alloc (.cells #[.string ⟨#[115, 116, 97, 116, 117, 115]⟩, .string ⟨#[100, 105, 115, 97, 98, 108, 101, 100, 0]⟩] 57)).heap.size (w5.alloc (.cells #[.string ⟨#[115, 116, 97, 116, 117, 115]⟩, .string ⟨#[100, 105, 115, 97, 98, 108, 101, 100, 0]⟩] 57)) ((w5.alloc (.cells #[.string ⟨#[115, 116, 97, 116, 117, 115]⟩, .string ⟨#[100, 105, 115, 97, 98, 108, 101, 100, 0]⟩] 57)).alloc (.cells (nmCells (smallM w1.heap.size w3.heap.size w4.heap.size w5.heap.size)).toArray 50)) := al _ _
  have d4 := below_next b5 (below_next (al w5 _) d5)
  have d3 := below_next b4 (below_next (al w4 _) d4)
  have d1 := below_next b2 (below_next b3 (below_next (al w3 _) d3))
  have d0 := below_next b1 (below_next (al w1 _) d1)
  have hsz : (w5.alloc (.cells #[.string ⟨#[115, 116, 97, 116, 117, 115]⟩, .string ⟨#[100, 105, 115, 97, 98, 108, 101, 100, 0]⟩] 57)).heap.size = w5.heap.size + 1 := by simp
  have hn := seg_new (w5.alloc (.cells #[.string ⟨#[115, 116, 97, 116, 117, 115]⟩, .string ⟨#[100, 105, 115, 97, 98, 108, 101, 100, 0]⟩] 57)) 50 (nmCells (smallM w1.heap.size w3.heap.size w4.heap.size w5.heap.size)).toArray
  rw [hsz, hN] at hn
  refine ⟨w5.heap.size + 1, w1.heap.size, w3.heap.size, w4.heap.size, w5.heap.size, rfl, ⟨?_, ?_⟩, d0⟩
  · exact hn.more (by simp)
  · intro x hx
    have e1 := seg_later d1
    have e3 := seg_later d3
    have e4 := seg_later d4
    have e5 := seg_later d5
    simp only [smallM, List.mem_cons, List.mem_nil_iff, or_false] at hx
    rcases hx with rfl | rfl | rfl | rfl | rfl | rfl | rfl
    · exact Seg.nil
    · exact e1
    · exact e3
    · exact Seg.nil
    · exact e4
    · exact e5
    · exact Seg.nil
end Go.Proofs.YtmdnbajbfnhecaaGreatDoor

set_option linter.unusedVariables false
namespace Go.Proofs.YtmdnbajbfnhecaaGreatDoor
open Go.RowKit
def kX : ByteArray := ⟨#[47, 115, 111, 99, 47, 117, 97, 114, 116, 64, 48, 47, 120]⟩
def kU : ByteArray := ⟨#[47, 115, 111, 99, 47, 117, 97, 114, 116, 64, 48]⟩
def kS : ByteArray := ⟨#[115]⟩
theorem ku_list : kU.toList = [47, 115, 111, 99, 47, 117, 97, 114, 116, 64, 48] := by rw [ByteArray.toList_eq]; rfl
set_option maxRecDepth 100000 in
theorem sm_find : findV smallD kX = (3, 0) := by kernel_rfl
set_option maxRecDepth 100000 in
theorem sm_wrong1 : wrongF smallD 1 = 0 := by kernel_rfl
set_option maxRecDepth 100000 in
theorem sm_wrong2 : wrongF smallD 2 = 0 := by kernel_rfl
set_option maxRecDepth 100000 in
theorem sm_wrong6 : wrongF smallD 6 = 0 := by kernel_rfl
set_option maxRecDepth 100000 in
theorem sm_path : pathS smallD 2 = kU := by unfold pathS; rw [if_pos sm_wrong2]; kernel_rfl
set_option maxRecDepth 100000 in
theorem sm_hand : handV smallD 7 = (1, 0) := by kernel_rfl
set_option maxRecDepth 100000 in
theorem sm_alias : aliasV smallD kS = (2, 0) := by kernel_rfl
set_option maxRecDepth 100000 in
theorem sm_on : onV smallD 6 = false := by unfold onV; rw [if_pos sm_wrong6]; kernel_rfl
theorem sm_end : endN smallD 1 = 4 := by
  obtain ⟨h1, h2, h3, h4⟩ := endN_at (l := smallD) (i := 1) (by decide)
  generalize endN smallD 1 = z at *
  have h2' : z ≤ 7 := h2
  rcases Nat.lt_or_ge 4 z with h | h
  · exact absurd (h3 4 (by omega) h) (by decide)
  · rcases (show z = 2 ∨ z = 3 ∨ z = 4 by omega) with rfl | rfl | rfl
    · have := h4 (by decide); revert this; decide
    · have := h4 (by decide); revert this; decide
    · rfl
set_option maxRecDepth 100000 in
theorem sm_cutE : cutE smallD 1 = 0 := by unfold cutE; rw [sm_wrong1]; rfl
theorem sm_cutR : (cutR smallD 1).length = 4 := by unfold cutR; rw [if_pos sm_cutE, show (1 : Int).toNat = 1 from rfl, sm_end]; rfl
theorem sm_cutP : (cutP smallD 1).length = 3 := by unfold cutP; rw [if_pos sm_cutE, show (1 : Int).toNat = 1 from rfl, sm_end]; rfl
theorem small_sized (g1 g2 g3 g4 : Nat) : Sized (smallM g1 g2 g3 g4) := by
  refine ⟨by show 7 * 48 ≤ _; omega, ?_, fun x hx => ?_, fun x hx => ?_⟩
  · rw [small_dat]
    have h : ∀ x ∈ smallD, x.n.size ≤ 100 ∧ ∀ y ∈ x.ps, y.n.size ≤ 100 ∧ y.v.size ≤ 100 := by decide
    exact fun x hx => ⟨by have := (h x hx).1; omega, fun y hy => by have := (h x hx).2 y hy; omega⟩
  · have h : ∀ d ∈ smallD, d.ps.length * 32 ≤ 140737488355328 := by decide
    exact h x.d (by rw [← small_dat g1 g2 g3 g4]; unfold dat; exact List.mem_map_of_mem hx)
  · have h : ∀ d ∈ smallD, (Lit.int .i64 d.p).wf = true := by decide
    exact h x.d (by rw [← small_dat g1 g2 g3 g4]; unfold dat; exact List.mem_map_of_mem hx)
set_option maxRecDepth 100000 in
set_option maxHeartbeats 16000000 in
theorem works_any (w : World) (hv0 : Var0 w) (hw0 : 0 < w.heap.size) : Calls Tryz.prog 5 #[] w fun e w' => e = .returned (.bool true) ∧ Below w.heap.size w w' := by
  have hku : (kU.toList == [47, 115, 111, 99, 47, 117, 97, 114, 116, 64, 48]) = true := by rw [ku_list]; rfl
  have HV := Lib.hid hv0
  clear hv0
  go_enter Tryz.func5, Tryz.ntmps5
  go_wp2_with (first
    | (go_at_call 24
       have hsm := psame_any (some ⟨b, 0, none⟩) 7 7 (smallM g1 g2 g3 g4) rfl (small_sized _ _ _ _) A1 cc1 4 l1 HR1.out.len w7 w7.heap.size (Nat.le_refl _) ((HS.out.below HX7.out).more HX7.out.size) HR1.out.nodes
       rw [small_dat, HNO.out] at hsm
       refine hsm.mono ?_
       rintro e w8 ⟨rfl, hb8⟩
       have HB8 := Lib.hid (HB1.out.trans (((HX7.out.trans (hb8.mono HX7.out.size))).mono HB1.out.size))
       clear hb8 hsm)
    | (go_at_call 21
       refine (pcut_any (some ⟨b, 0, none⟩) 7 7 (smallM g1 g2 g3 g4) rfl (Nat.le_refl _) (small_sized _ _ _ _) 1 w6 w1.heap.size HX6.out.size (HS.out.below HX6.out)).mono ?_
       rintro e w7 ⟨⟨A1, n1, cc1, l1, A2, n2, cc2, l2, he, ho1, ho2, _, hd1, hd2⟩, hb7⟩
       rw [small_dat] at he hd1 hd2
       rw [sm_cutE] at he
       obtain rfl : n1 = 4 := by rw [ho1.len, ← dat_len, hd1, sm_cutR]
       obtain rfl : n2 = 3 := by rw [ho2.len, ← dat_len, hd2, sm_cutP]
       subst he
       have HR1 := Lib.hid ho1
       have HX7 := Lib.hid (HX6.out.trans (hb7.mono HX6.out.size))
       have HNO := Lib.hid (show sameB smallD (dat l1) = false from sb_len (by rw [hd1, sm_cutR]; decide))
       clear ho1 ho2 hd1 hd2 hb7)
    | (go_at_call 12
       have hq := penabled_any (some ⟨b, 0, none⟩) 7 7 (smallM g1 g2 g3 g4) rfl (small_sized _ _ _ _) 6 w5 (HV1.out.below HX5.out hw1) (Nat.lt_of_lt_of_le hw1 HX5.out.size) w1.heap.size HX5.out.size (HS.out.below HX5.out)
       rw [small_dat, sm_on, sm_wrong6] at hq
       refine hq.mono ?_
       rintro e w6 ⟨rfl, hb6⟩
       have HX6 := Lib.hid (HX5.out.trans (hb6.mono HX5.out.size))
       clear hb6 hq)
    | (go_at_call 25
       have hq := palias_any (some ⟨b, 0, none⟩) 7 7 (smallM g1 g2 g3 g4) rfl (small_sized _ _ _ _) kS w4 (HV1.out.below HX4.out hw1) (Nat.lt_of_lt_of_le hw1 HX4.out.size) w1.heap.size HX4.out.size (HS.out.below HX4.out)
       rw [small_dat, sm_alias] at hq
       refine hq.mono ?_
       rintro e w5 ⟨rfl, hb5⟩
       have HX5 := Lib.hid (HX4.out.trans (hb5.mono HX4.out.size))
       clear hb5 hq)
    | (go_at_call 18
       have hq := phandle_any (some ⟨b, 0, none⟩) 7 7 (smallM g1 g2 g3 g4) rfl (small_sized _ _ _ _) 7 (by omega) w3 w1.heap.size HX3.out.size (HS.out.below HX3.out)
       rw [small_dat, sm_hand] at hq
       refine hq.mono ?_
       rintro e w4 ⟨rfl, hb4⟩
       have HX4 := Lib.hid (HX3.out.trans (hb4.mono HX3.out.size))
       clear hb4 hq)
    | (go_at_call 10
       have hq := ppath_any (some ⟨b, 0, none⟩) 7 7 (smallM g1 g2 g3 g4) rfl (small_sized _ _ _ _) 2 w2 w1.heap.size HX2.out.size (HS.out.below HX2.out)
       rw [small_dat, sm_path, sm_wrong2] at hq
       refine hq.mono ?_
       rintro e w3 ⟨rfl, hb3⟩
       have HX3 := Lib.hid (HX2.out.trans (hb3.mono HX2.out.size))
       clear hb3 hq)
    | (go_at_call 11
       have hq := pfind_any (some ⟨b, 0, none⟩) 7 7 (smallM g1 g2 g3 g4) rfl (small_sized _ _ _ _) kX (by decide) w1 HV1.out hw1 w1.heap.size (Nat.le_refl _) HS.out
       rw [small_dat, sm_find] at hq
       refine hq.mono ?_
       rintro e w2 ⟨rfl, hb2⟩
       have HX2 := Lib.hid hb2
       clear hb2 hq)
    | (go_at_call 19
       refine (small_any w).mono ?_
       rintro e w1 ⟨b, g1, g2, g3, g4, rfl, hs, hb1⟩
       have HS := Lib.hid hs
       have HB1 := Lib.hid hb1
       have HV1 := Lib.hid (HV.out.below hb1 hw0)
       have hw1 : 0 < w1.heap.size := Nat.lt_of_lt_of_le hw0 hb1.size
       clear hs hb1))
  go_ret
  exact ⟨rfl, HB8.out⟩
end Go.Proofs.YtmdnbajbfnhecaaGreatDoor

set_option linter.unusedVariables false
namespace Go.Proofs.YtmdnbajbfnhecaaGreatDoor
open Go.RowKit
/-- A tree in memory: it is one, and small. -/
structure TreeAt (w : World) (A : Option Addr) (m : Nat) (l : List Nm) : Prop where
  len : m = l.length
  nodes : Nodes w w.heap.size A l
  sized : Sized l
  ok : checkF (dat l) = (0, 0)
  few : m ≤ 60
set_option maxRecDepth 100000 in
theorem small_ok : checkF smallD = (0, 0) := by kernel_rfl
theorem check_fst {l : List Nd} (h : (checkF l).2 = 0) : checkF l = (0, 0) := by
  unfold checkF at *
  split at h
  · cases h
  · split at h
    · cases h
    · rename_i h1 h2
      rw [if_neg h2]
theorem own_caps {w : World} {base : Nat} {e : TypeId} {size n c : Nat} {A : Option Addr} {xs : List Value} (h : w.ownsRow base e size (.slice A n c) n xs) : n ≤ c := by
  obtain ⟨_, ⟨_, h2⟩ | ⟨g, cap, cur, h1, _, _, h4, _⟩⟩ := h
  · omega
  · injection h1 with _ _ h3
    omega
set_option maxRecDepth 100000 in
set_option maxHeartbeats 2000000 in
theorem tame_any (A : Option Addr) (cap n : Nat) (l : List Nm) (hn : n = l.length) (hsz : Sized l) (w : World) (B : Nat) (hB : B ≤ w.heap.size) (hs : Nodes w B A l) :
    Calls Tryz.prog 6 #[.slice A n cap] w fun e w' => ∃ (A' : Option Addr) (m c' : Nat) (l' : List Nm), e = .returned (.slice A' m c') ∧ (TreeAt w' A' m l' ∧ m ≤ c') ∧ Below w.heap.size w w' := by
  have hq := pCheck_any A cap n l hn hsz w B hB hs
  have hck : (checkF (dat l)).2 = 0 → checkF (dat l) = (0, 0) := check_fst
  have HCK := Lib.hid hck
  generalize hR : checkF (dat l) = R at hq
  obtain ⟨R1, R2⟩ := R
  simp only at hq
  have HR := Lib.hid hR
  have HN := Lib.hid hn
  have HS := Lib.hid hs
  have HZ := Lib.hid hsz
  have HQ := Lib.hid hq
  clear hck hR hn hs hsz hq
  have fin : ∀ (w1 : World), Below w.heap.size w w1 → Calls Tryz.prog 19 #[] w1 fun e w' => ∃ (A' : Option Addr) (m c' : Nat) (l' : List Nm), e = .returned (.slice A' m c') ∧ (TreeAt w' A' m l' ∧ m ≤ c') ∧ Below w.heap.size w w' := fun w1 hb1 =>
    (small_any w1).mono fun e w2 ⟨b, g1, g2, g3, g4, he, hs2, hb2⟩ => ⟨_, 7, 7, smallM g1 g2 g3 g4, he, ⟨⟨rfl, hs2, small_sized _ _ _ _, by rw [small_dat]; exact small_ok, by omega⟩, Nat.le_refl _⟩, below_next hb1 hb2⟩
  have HFN := Lib.hid fin
  clear fin
  by_cases h0 : R2 = 0
  · subst h0
    by_cases h60 : 60 < n
    · have h6i : (60 : Int) < (n : Int) := by omega
      go_enter Tryz.func6, Tryz.ntmps6
      go_wp2_with (first
        | (go_at_call 19
           refine (HFN.out w1 HB1.out).mono ?_
           rintro e w2 ⟨A', m, c', l', rfl, ht, hb2⟩
           have HT := Lib.hid ht
           have HB2 := Lib.hid hb2
           clear ht hb2)
        | (go_at_call 23
           refine HQ.out.mono ?_
           rintro e w1 ⟨rfl, hb1⟩
           have HB1 := Lib.hid hb1
           clear hb1))
      go_ret
      exact ⟨A', m, c', l', rfl, HT.out, HB2.out⟩
    · have h6i : ¬ (60 : Int) < (n : Int) := by omega
      go_enter Tryz.func6, Tryz.ntmps6
      go_wp2_with (first
        | (go_at_call 26
           refine (rtwin_any A cap n l HN.out HZ.out w1 w.heap.size HB1.out.size (((HS.out.more hB)).below HB1.out)).mono ?_
           rintro e w2 ⟨A', c', l', rfl, hd, ho, hb2⟩
           have HT := Lib.hid (show TreeAt w2 A' n l' ∧ n ≤ c' from ⟨⟨ho.len, ho.nodes, sized_dat HZ.out hd, by rw [hd]; exact HCK.out (by rw [HR.out]), by omega⟩, own_caps ho.row⟩)
           have HB2 := Lib.hid (below_next HB1.out hb2)
           clear hd ho hb2)
        | (go_at_call 23
           refine HQ.out.mono ?_
           rintro e w1 ⟨rfl, hb1⟩
           have HB1 := Lib.hid hb1
           clear hb1))
      go_ret
      exact ⟨A', n, c', l', rfl, HT.out, HB2.out⟩
  · have e0 : (R2 != 0) = true := by rw [bne_iff_ne]; exact h0
    go_enter Tryz.func6, Tryz.ntmps6
    go_wp2_with (first
      | (go_at_call 19
         refine (HFN.out w1 HB1.out).mono ?_
         rintro e w2 ⟨A', m, c', l', rfl, ht, hb2⟩
         have HT := Lib.hid ht
         have HB2 := Lib.hid hb2
         clear ht hb2)
      | (go_at_call 23
         refine HQ.out.mono ?_
         rintro e w1 ⟨rfl, hb1⟩
         have HB1 := Lib.hid hb1
         clear hb1))
    go_ret
    exact ⟨A', m, c', l', rfl, HT.out, HB2.out⟩
end Go.Proofs.YtmdnbajbfnhecaaGreatDoor

set_option linter.unusedVariables false
namespace Go.Proofs.YtmdnbajbfnhecaaGreatDoor
/-- A list that is a tree. -/
structure Is (l : List Nd) : Prop where
  fine : Fine l l.length
  pos : 0 < l.length
  ok : (checkF l).2 = 0
theorem is_tree {l : List Nd} (h : checkF l = (0, 0)) : Is l := by
  have h2 : (checkF l).2 = 0 := by rw [h]
  obtain ⟨a, b, _⟩ := check_fine h2
  exact ⟨a, b, h2⟩
section
variable {l : List Nd}
theorem Is.wrong (h : Is l) {i : Nat} (hi : i < l.length) : wrongF l (i : Int) = 0 := by
  unfold wrongF
  rw [if_pos h.ok, if_neg (by omega)]
theorem Is.path (h : Is l) {i : Nat} (hi : i < l.length) : pathS l (i : Int) = pathB l i := by
  unfold pathS
  rw [if_pos (h.wrong hi), Int.toNat_natCast]
theorem Is.find (h : Is l) {i : Nat} (hi : i < l.length) : findV l (pathB l i) = ((i : Int), 0) := by
  unfold findV
  rw [if_pos h.ok]
  have : (pathB l i).data.toList = pathL l i := by simp [pathB]
  rw [this, find_path (fine_tr h.fine) hi]
theorem Is.apart (h : Is l) {i j : Nat} (hi : i < l.length) (hj : j < l.length) (e : pathB l i = pathB l j) : i = j := by
  have h1 := h.find hi
  rw [e, h.find hj] at h1
  injection h1 with h1 _
  omega
theorem Is.par (h : Is l) {i : Nat} (h0 : 0 < i) (hi : i < l.length) : ∃ p : Nat, parAt l i = (p : Int) ∧ p < i := by
  obtain ⟨h1, h2⟩ := (fine_tr h.fine).par h0 hi
  exact ⟨parM l i, h2, h1⟩
theorem Is.depth (h : Is l) {i p : Nat} (hi : i < l.length) (hp : parAt l i = (p : Int)) (hpi : p < i) : depthI l (i : Int) = depthI l (p : Int) + 1 := by
  unfold depthI
  rw [if_pos (h.wrong hi), if_pos (h.wrong (by omega)), above_step h.fine (Nat.le_refl _) hi, hp]
  simp
theorem pathL_root (l : List Nd) : pathL l 0 = [47] := by unfold pathL; rw [if_pos rfl]
theorem pathB_root (l : List Nd) : pathB l 0 = ⟨#[47]⟩ := by unfold pathB; rw [pathL_root]
theorem strokes_snoc (xs : List (List UInt8)) (x : List UInt8) : strokes (xs ++ [x]) = strokes xs ++ 47 :: x := by
  unfold strokes; simp
theorem Is.path_root (h : Is l) {i : Nat} (h0 : 0 < i) (hi : i < l.length) (hp : parAt l i = 0) : (pathB l i).data.toList = 47 :: nameAt l i := by
  have hm : parM l i = 0 := by unfold parM; rw [hp]; rfl
  have h1 := seg_step (fine_tr h.fine) h0 hi
  rw [hm, seg_zero] at h1
  show (pathL l i).toArray.toList = _
  unfold pathL
  rw [if_neg (by omega), h1]
  unfold strokes
  simp
theorem Is.path_deep (h : Is l) {i p : Nat} (h0 : 0 < i) (hi : i < l.length) (hp : parAt l i = (p : Int)) (hp0 : 0 < p) : (pathB l i).data.toList = (pathB l p).data.toList ++ 47 :: nameAt l i := by
  have hm : parM l i = p := by unfold parM; rw [hp, Int.toNat_natCast]
  have h1 := seg_step (fine_tr h.fine) h0 hi
  rw [hm] at h1
  show (pathL l i).toArray.toList = (pathL l p).toArray.toList ++ _
  unfold pathL
  rw [if_neg (by omega), if_neg (by omega), h1, strokes_snoc]
theorem Is.path_not (h : Is l) {p : Nat} (hp0 : 0 < p) (hp : p < l.length) : pathB l p ≠ ⟨#[47]⟩ := fun e => by
  have := h.apart hp h.pos (e.trans (pathB_root l).symm)
  omega
/-- The kids, each behind what is beneath the one ahead of it. -/
inductive Chain (l : List Nd) (i : Nat) : Nat → List Nat → Nat → Prop
  | nil (z : Nat) : Chain l i z [] z
  | cons {z : Nat} {ks : List Nat} {e : Nat} (h1 : z < l.length) (h2 : parAt l z = (i : Int)) (h3 : Chain l i (endN l z) ks e) : Chain l i z (z :: ks) e
def kidsFrom (l : List Nd) (i z : Nat) : List Nat := ((List.range l.length).drop z).filter fun (j : Nat) => parAt l j == (i : Int)
theorem kidsFrom_step {i z : Nat} (hz : z < l.length) : kidsFrom l i z = if parAt l z = (i : Int) then z :: kidsFrom l i (z + 1) else kidsFrom l i (z + 1) := by
  unfold kidsFrom
  rw [List.drop_eq_getElem_cons (by simpa using hz), List.filter_cons]
  simp only [List.getElem_range, beq_iff_eq]
theorem kidsFrom_end {i z : Nat} (hz : l.length ≤ z) : kidsFrom l i z = [] := by
  unfold kidsFrom
  rw [List.drop_of_length_le (by simpa using hz)]
  rfl
theorem kidsFrom_skip {i : Nat} : ∀ (m z : Nat), z + m ≤ l.length → (∀ j : Nat, z ≤ j → j < z + m → parAt l j ≠ (i : Int)) → kidsFrom l i z = kidsFrom l i (z + m)
  | 0, z, _, _ => rfl
  | m + 1, z, h, hn => by
    rw [kidsFrom_step (by omega), if_neg (hn z (Nat.le_refl _) (by omega)), kidsFrom_skip m (z + 1) (by omega) (fun j h1 h2 => hn j (by omega) (by omega))]
    congr 1
    omega
theorem Is.mem_above (h : Is l) {k : Nat} (hk : k < l.length) {x : Int} (hx : x ∈ above l k) : 0 ≤ x ∧ x ≤ k := by
  obtain ⟨h1, h2, _⟩ := above_mem h.fine (Nat.le_refl _) k hk x hx
  exact ⟨h1, h2⟩
theorem Is.on (h : Is l) {j : Nat} (h0 : 0 < j) (hj : j < l.length) : parAt l j ∈ above l ((j - 1 : Nat) : Int) := by
  have hn := h.fine j hj
  rw [node_some hj (by omega)] at hn
  simp only [Bool.and_eq_true] at hn
  have h1 := hn.2.1.1.2
  have : parAt l j = l[j].p := by
    unfold parAt
    rw [Int.toNat_natCast, List.getElem?_eq_getElem hj]
  rw [this]
  simpa using h1
/-- Behind what is beneath a node nothing hangs from it. -/
theorem Is.past (h : Is l) {i z : Nat} (hi : i < l.length) (hz : EndAt l i z) : ∀ j : Nat, z ≤ j → j < l.length → (i : Int) ∉ above l j ∧ parAt l j ≠ (i : Int) := by
  intro j
  induction j with
  | zero => intro h1 _; have := hz.lt; omega
  | succ j ih =>
    intro h1 h2
    have hst := above_step h.fine (Nat.le_refl _) h2
    obtain ⟨p, hp, hpj⟩ := h.par (Nat.succ_pos j) h2
    have hlt := hz.lt
    rcases Nat.lt_or_ge z (j + 1) with h3 | h3
    · obtain ⟨n1, n2⟩ := ih (by omega) (by omega)
      have hon := h.on (j := j + 1) (Nat.succ_pos j) h2
      rw [show j + 1 - 1 = j from rfl] at hon
      obtain ⟨_, _, pre, e⟩ := above_mem h.fine (Nat.le_refl _) j (by omega) _ hon
      have hno : (i : Int) ∉ above l (parAt l ((j + 1 : Nat) : Int)) := fun hm => n1 (by rw [e]; exact List.mem_append_right _ hm)
      refine ⟨?_, ?_⟩
      · rw [hst, List.mem_cons, not_or]
        exact ⟨by omega, hno⟩
      · intro he
        apply hno
        rw [he]
        rw [above_step h.fine (Nat.le_refl _) hi]
        exact List.mem_cons_self
    · obtain rfl : z = j + 1 := by omega
      have hs := hz.stop h2
      refine ⟨?_, by omega⟩
      rw [hst, List.mem_cons, not_or]
      refine ⟨by omega, fun hm => ?_⟩
      rw [hp] at hm hs
      have := (h.mem_above (by omega) hm).2
      omega
theorem Is.under (h : Is l) {z y : Nat} (hz : z < l.length) (hy : EndAt l z y) : ∀ k : Nat, z ≤ k → k < y → (z : Int) ∈ above l k := by
  intro k h1 h2
  have hk : k < l.length := by have := hy.le; omega
  rcases Nat.eq_or_lt_of_le h1 with rfl | h3
  · rw [above_step h.fine (Nat.le_refl _) hk]
    exact List.mem_cons_self
  · have := under_iff h.fine k h3 hk (fun j a b => hy.under j a (by omega))
    have h4 := hy.under k h3 h2
    rw [decide_eq_true h4] at this
    simpa using this
theorem Is.down (h : Is l) : ∀ k : Nat, k < l.length → (above l k).Pairwise (fun x y => y < x) := by
  intro k
  induction k using Nat.strongRecOn with
  | ind k ih =>
    intro hk
    rw [above_step h.fine (Nat.le_refl _) hk, List.pairwise_cons]
    rcases Nat.eq_zero_or_pos k with h0 | h0
    · subst h0
      have := (fine_par h.fine hk hk).1
      rw [above_neg l (by omega)]
      exact ⟨by simp, List.Pairwise.nil⟩
    · obtain ⟨p, hp, hpk⟩ := h.par h0 hk
      rw [hp]
      exact ⟨fun x hx => by have := (h.mem_above (by omega) hx).2; omega, ih p hpk (by omega)⟩
theorem chain_from (h : Is l) {i e : Nat} (hi : i < l.length) (he : EndAt l i e) : ∀ (m z : Nat), l.length - z ≤ m → i < z → z ≤ e → (z < e → parAt l z = (i : Int)) → Chain l i z (kidsFrom l i z) e
  | m, z, hm, hiz, hze, hpz => by
    have hel := he.le
    rcases Nat.eq_or_lt_of_le hze with rfl | hlt
    · have : kidsFrom l i z = [] := by
        rw [kidsFrom_skip (l.length - z) z (by omega) (fun j h1 h2 => (h.past hi he j h1 (by omega)).2), kidsFrom_end (by omega)]
      rw [this]
      exact .nil _
    · have hzl : z < l.length := by omega
      have hp := hpz hlt
      have hy := endN_at hzl
      have hyl := hy.le
      have hyt := hy.lt
      have hye : endN l z ≤ e := by
        rcases Nat.lt_or_ge e (endN l z) with hh | hh
        · exfalso
          have h1 := he.stop (by omega)
          have h2 := hy.under e hlt hh
          omega
        · exact hh
      have hks : kidsFrom l i z = z :: kidsFrom l i (endN l z) := by
        rw [kidsFrom_step hzl, if_pos hp, kidsFrom_skip (endN l z - (z + 1)) (z + 1) (by omega) (fun j h1 h2 hh => by
          have := hy.under j (by omega) (by omega)
          omega)]
        congr 2
        omega
      rw [hks]
      match m, hm with
      | 0, hm => omega
      | m + 1, hm =>
      refine .cons hzl hp (chain_from h hi he m (endN l z) (by omega) (by omega) hye fun hye2 => ?_)
      have hyl2 : endN l z < l.length := by omega
      have h1 := hy.stop hyl2
      have h2 := he.under (endN l z) (by omega) hye2
      have hon := h.on (by omega) hyl2
      have hin := h.under hzl hy (endN l z - 1) (by omega) (by omega)
      obtain ⟨_, _, pre, ee⟩ := above_mem h.fine (Nat.le_refl _) (endN l z - 1) (by omega) _ hin
      have hst := above_step h.fine (Nat.le_refl _) hzl
      rw [hp] at hst
      rw [ee, hst] at hon
      rcases List.mem_append.1 hon with hm2 | hm2
      · exfalso
        -- those ahead of z on the way are beneath it
        have hdn := h.down (endN l z - 1) (by omega)
        rw [ee, hst, List.pairwise_append] at hdn
        have hgt : ∀ x ∈ pre, (z : Int) < x := fun x hx => hdn.2.2 x hx _ List.mem_cons_self
        have := hgt _ hm2
        omega
      · rcases List.mem_cons.1 hm2 with hm3 | hm3
        · omega
        · have := (h.mem_above hi hm3).2
          omega
/-- The kids of a node, one behind the other, up to its end. -/
theorem Is.chain (h : Is l) {i : Nat} (hi : i < l.length) : Chain l i (i + 1) (kidsN l i) (endN l i) := by
  have he := endN_at hi
  refine chain_from h hi he l.length (i + 1) (by omega) (by omega) he.lt fun hlt => ?_
  have h1 := he.under (i + 1) (by omega) hlt
  obtain ⟨p, hp, hpi⟩ := h.par (i := i + 1) (by omega) (by have := he.le; omega)
  rw [hp] at h1 ⊢
  omega
end
end Go.Proofs.YtmdnbajbfnhecaaGreatDoor
