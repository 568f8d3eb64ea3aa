/- The walk of TreeFinds. -/
import Derived.Test.YtmdnbajbfnhecaaDoorFTop2
set_option linter.unusedVariables false
namespace Go.Proofs.YtmdnbajbfnhecaaDoor
open Go.RowKit
set_option maxRecDepth 100000 in
set_option maxHeartbeats 8000000 in
theorem treeFinds_walk (A : Option Addr) (c n : Nat) (la : List Nm) (hn : n = la.length) (hz : Sized la) (s : ByteArray) (hs1 : s.size ≤ 1048576) (h : Nat) (hh : h < 4294967296) (k : ByteArray) (w : World) (hv0 : Var0 w) (hw0 : 0 < w.heap.size) (hs : Nodes w w.heap.size A la) :
    Calls Tryd.prog 3 #[.slice A n c, .string s, .int .u32 h, .string k] w fun e w' => e = .returned (.bool true) ∧ Below w.heap.size w w' := by
  have HN := Lib.hid hn
  have HZ := Lib.hid hz
  have HS := Lib.hid hs
  have HV0 := Lib.hid hv0
  rcases hF : findV (dat la) s with ⟨f1, f2⟩
  rcases hG : handV (dat la) h with ⟨g1, g2⟩
  rcases hA : aliasV (dat la) k with ⟨a1, a2⟩
  have HF := Lib.hid hF
  have HG := Lib.hid hG
  have HA := Lib.hid hA
  clear hn hz hs hv0 hF hG hA
  go_enter Tryd.func3, Tryd.ntmps3
  go_wp2_with (first
    | (go_at_call 15
       refine (rsame_eq A1 c1 n l1 HI7.out.len (sized_dat HZ.out HD1.out) A c n la HN.out w7 HI7.out.nodes ((HS.out.below HB7.out).more HB7.out.size) HD1.out).mono ?_
       rintro e w8 ⟨rfl, hb8⟩
       have HB8 := Lib.hid (below_next HB7.out hb8)
       clear hb8)
    | (go_at_call 14
       refine (ralias_any A c n la HN.out HZ.out k w6 w.heap.size HB6.out.size (HS.out.below HB6.out)).mono ?_
       rintro e w7 ⟨rfl, hb7⟩
       rw [HA.out]
       have HI7 := Lib.hid (HI6.out.below hb7)
       have HB7 := Lib.hid (below_next HB6.out hb7)
       clear hb7)
    | (go_at_call 13
       refine (palias_any A1 c1 n l1 HI5.out.len (sized_dat HZ.out HD1.out) k w5 (HV0.out.below HB5.out hw0) (Nat.lt_of_lt_of_le hw0 HB5.out.size) w5.heap.size (Nat.le_refl _) HI5.out.nodes).mono ?_
       rintro e w6 ⟨rfl, hb6⟩
       rw [HD1.out, HA.out]
       have HI6 := Lib.hid (HI5.out.below hb6)
       have HB6 := Lib.hid (below_next HB5.out hb6)
       clear hb6)
    | (go_at_call 12
       refine (rhandle_any A c n la HN.out HZ.out h hh w4 w.heap.size HB4.out.size (HS.out.below HB4.out)).mono ?_
       rintro e w5 ⟨rfl, hb5⟩
       rw [HG.out]
       have HI5 := Lib.hid (HI4.out.below hb5)
       have HB5 := Lib.hid (below_next HB4.out hb5)
       clear hb5)
    | (go_at_call 11
       refine (phandle_any A1 c1 n l1 HI3.out.len (sized_dat HZ.out HD1.out) h hh w3 w3.heap.size (Nat.le_refl _) HI3.out.nodes).mono ?_
       rintro e w4 ⟨rfl, hb4⟩
       rw [HD1.out, HG.out]
       have HI4 := Lib.hid (HI3.out.below hb4)
       have HB4 := Lib.hid (below_next HB3.out hb4)
       clear hb4)
    | (go_at_call 10
       refine (rfind_any A c n la HN.out HZ.out s w2 w.heap.size HB2.out.size (HS.out.below HB2.out)).mono ?_
       rintro e w3 ⟨rfl, hb3⟩
       rw [HF.out]
       have HI3 := Lib.hid (HI2.out.below hb3)
       have HB3 := Lib.hid (below_next HB2.out hb3)
       clear hb3)
    | (go_at_call 9
       refine (pfind_any A1 c1 n l1 HI1.out.len (sized_dat HZ.out HD1.out) s hs1 w1 (HV0.out.below HB1.out hw0) (Nat.lt_of_lt_of_le hw0 HB1.out.size) w1.heap.size (Nat.le_refl _) HI1.out.nodes).mono ?_
       rintro e w2 ⟨rfl, hb2⟩
       rw [HD1.out, HF.out]
       have HI2 := Lib.hid (HI1.out.below hb2)
       have HB2 := Lib.hid (below_next HB1.out hb2)
       clear hb2)
    | (go_at_call 8
       refine (rtwin_any A c n la HN.out HZ.out w _ (Nat.le_refl _) HS.out).mono ?_
       rintro e w1 ⟨A1, c1, l1, rfl, hd1, ho1, hb1⟩
       have HI1 := Lib.hid ho1
       have HD1 := Lib.hid hd1
       have HB1 := Lib.hid hb1
       clear ho1 hd1 hb1))
  go_ret
  exact ⟨rfl, HB8.out⟩
end Go.Proofs.YtmdnbajbfnhecaaDoor
