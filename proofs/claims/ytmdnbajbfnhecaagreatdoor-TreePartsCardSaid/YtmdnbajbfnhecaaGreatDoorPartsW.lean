/- The walk of TreeParts. -/
import Derived.Test.YtmdnbajbfnhecaaGreatDoorFoUse
set_option linter.unusedVariables false
namespace Go.Proofs.YtmdnbajbfnhecaaGreatDoor
open Go.RowKit
theorem small_tree (w : World) : Calls Tryz.prog 19 #[] w fun e w' => ∃ (A' : Option Addr) (m c' : Nat) (L : List Nm), e = .returned (.slice A' m c') ∧ (TreeAt w' A' m L ∧ m ≤ c') ∧ 2 ≤ m ∧ Below w.heap.size w w' :=
  (small_any w).mono fun e w2 ⟨b, g1, g2, g3, g4, he, hs2, hb2⟩ => ⟨_, 7, 7, smallM g1 g2 g3 g4, he, ⟨⟨rfl, hs2, small_sized _ _ _ _, by rw [small_dat]; exact small_ok, by omega⟩, Nat.le_refl _⟩, by omega, hb2⟩
theorem w64 (n : Int) (h : -9223372036854775808 ≤ n ∧ n ≤ 9223372036854775807) : wrap64 n = n := by unfold wrap64; omega
theorem idx_up {st : Int} {m : Nat} (hm : (2 : Int) ≤ m) (h6 : m ≤ 60) (h : 0 ≤ st.tmod ((m : Int) - 1)) : ∃ I : Nat, 0 < I ∧ I < m ∧ wrap64 (st.tmod ((m : Int) - 1) + 1) = (I : Int) := by
  have h1 := Int.tmod_lt_of_pos st (b := (m : Int) - 1) (by omega)
  refine ⟨(st.tmod ((m : Int) - 1) + 1).toNat, by omega, by omega, ?_⟩
  rw [w64 _ (by omega)]
  omega
theorem idx_down {st : Int} {m : Nat} (hm : (2 : Int) ≤ m) (h6 : m ≤ 60) (h : st.tmod ((m : Int) - 1) < 0) : ∃ I : Nat, 0 < I ∧ I < m ∧ wrap64 (wrap64 (wrap64 (st.tmod ((m : Int) - 1) + m) - 1) + 1) = (I : Int) := by
  have h1 := Int.lt_tmod_of_pos st (b := (m : Int) - 1) (by omega)
  refine ⟨(st.tmod ((m : Int) - 1) + m).toNat, by omega, by omega, ?_⟩
  rw [w64 (st.tmod ((m : Int) - 1) + m) (by omega), w64 (st.tmod ((m : Int) - 1) + m - 1) (by omega), w64 _ (by omega)]
  omega
theorem graft_needs {l p : List Nd} {i : Int} (h : graftE l i p = 0) : wrongF l i = 0 ∧ pieceB p = true := by
  unfold graftE at h
  split at h
  · rename_i h1; exact absurd h h1
  · rename_i h1
    split at h
    · cases h
    · rename_i h2
      refine ⟨Classical.not_not.1 h1, ?_⟩
      cases hp : pieceB p with
      | true => rfl
      | false => exact absurd hp h2
theorem below_from {a b c : World} (h1 : Below a.heap.size a b) (h2 : Below b.heap.size b c) : Below a.heap.size a c := below_next h1 h2
set_option maxRecDepth 100000 in
set_option maxHeartbeats 8000000 in
theorem treeParts_walk (A : Option Addr) (cap n : Nat) (l : List Nm) (hn : n = l.length) (hsz : Sized l) (st : Int) (hst : (Lit.int .i64 st).wf = true) (w : World) (hv0 : Var0 w) (hw0 : 0 < w.heap.size) (hs : Nodes w w.heap.size A l) :
    Calls Tryz.prog 4 #[.slice A n cap, .int .i64 st] w fun e w' => e = .returned (.bool true) ∧ Below w.heap.size w w' := by
  have hwk := works_any w hv0 hw0
  have HN := Lib.hid hn
  have HS := Lib.hid hs
  have HZ := Lib.hid hsz
  have HWK := Lib.hid hwk
  clear hn hs hsz hwk
  go_enter Tryz.func4, Tryz.ntmps4
  go_wp2_with (first
    | (go_at_call 19
       refine (small_tree w2).mono ?_
       rintro e w2 ⟨A', m, c', L, rfl, ht, hm2, hb2⟩
       have HT := Lib.hid ht
       have HB2 := Lib.hid (HB2.out.trans (hb2.mono HB2.out.size))
       have hm6 := ht.1.few
       clear ht hb2)
    | (go_at_call 6
       refine (tame_any A cap n l HN.out HZ.out w1 w.heap.size HB1.out.size (HS.out.below HB1.out)).mono ?_
       rintro e w2 ⟨A', m, c', L, rfl, ht, hb2⟩
       have HT := Lib.hid ht
       have HB2 := Lib.hid (HB1.out.trans (hb2.mono HB1.out.size))
       have hm6 := ht.1.few
       clear ht hb2)
    | (go_at_call 5
       refine HWK.out.mono ?_
       rintro e w1 ⟨rfl, hb1⟩
       have HB1 := Lib.hid hb1
       clear hb1))
  all_goals first
    | (obtain ⟨I, hI0, hIm, hIe⟩ := idx_up (st := st) (m := m) (by omega) hm6 (by assumption); rw [hIe])
    | (obtain ⟨I, hI0, hIm, hIe⟩ := idx_down (st := st) (m := m) (by omega) hm6 (by assumption); rw [hIe])
  all_goals
    have hml := HT.out.1.len
    have hIs := is_tree HT.out.1.ok
    have hDl : (dat L).length = m := by rw [dat_len, ← hml]
    have hiD : I < (dat L).length := by rw [hDl]; exact hIm
    obtain ⟨q, rest, piece, back, hP⟩ := parts_law hIs hI0 hiD
    have hqm : q < m := by have := hP.lt; omega
    have hcell : ∃ b off, A' = some ⟨b, off, none⟩ ∧ (∀ W, Below w2.heap.size w2 W → W.cell? ⟨b, off + I * 3, none⟩ = some (.int .i64 (q : Int))) := by
      obtain ⟨b, off, eA, hb2, x0, _⟩ := HT.out.1.nodes.at_ (k := I) (by rw [← hml]; exact hIm)
      refine ⟨b, off, eA, fun W hW => ?_⟩
      have hpar : parAt (dat L) (I : Nat) = (L[I]'(by rw [← hml]; exact hIm)).d.p := by
        unfold parAt
        rw [Int.toNat_natCast, List.getElem?_eq_getElem hiD]
        simp only [dat_get L (show I < L.length by rw [← hml]; exact hIm)]
      rw [hP.ePar] at hpar
      rw [hpar]
      exact (hW.cell (p := ⟨b, off + I * 3, none⟩) hb2).trans x0
    obtain ⟨b, off, eA, hcl⟩ := hcell
    have hen : ∀ (j : Nat), j < m → ∀ W, Below w2.heap.size w2 W → Calls Tryz.prog 20 #[.slice A' m c', .int .i64 (j : Int)] W fun e w' => e = .returned (.tuple #[.int .i64 (endN (dat L) j : Nat), .int .i64 0]) ∧ Below W.heap.size W w' := fun j hj W h => by
      have := pend_any A' c' m L hml HT.out.1.sized (j : Int) W w2.heap.size h.size (HT.out.1.nodes.below h)
      rw [hIs.wrong (by rw [hDl]; exact hj)] at this
      unfold endI at this
      rw [if_pos (hIs.wrong (by rw [hDl]; exact hj)), Int.toNat_natCast] at this
      exact this
    have hE1 := hen I hIm
    have hE2 := hen q hqm
    obtain ⟨z, hz⟩ : ∃ z, z = endN (dat L) I := ⟨_, rfl⟩
    obtain ⟨o, ho⟩ : ∃ o, o = endN (dat L) q := ⟨_, rfl⟩
    rw [← hz] at hE1
    rw [← ho] at hE2
    have hplen := hP.plen
    have hrlen := hP.rlen
    rw [← hz] at hplen
    rw [hDl] at hrlen
    have hlast : z = o → back = dat L := fun e => hP.last (by rw [← hz, ← ho]; exact e)
    have hcut : ∀ W, Below w2.heap.size w2 W → Calls Tryz.prog 21 #[.slice A' m c', .int .i64 (I : Int)] W fun e w' => ∃ (A1 : Option Addr) (n1 c1 : Nat) (l1 : List Nm) (A2 : Option Addr) (n2 c2 : Nat) (l2 : List Nm), e = .returned (.tuple #[.slice A1 n1 c1, .slice A2 n2 c2, .int .i64 0]) ∧ OwnN w' W.heap.size A1 n1 c1 l1 ∧ OwnN w' W.heap.size A2 n2 c2 l2 ∧ dat l1 = rest ∧ dat l2 = piece ∧ Below W.heap.size W w' := fun W h => by
      refine (pcut_any A' c' m L hml HT.out.2 HT.out.1.sized (I : Int) W w2.heap.size h.size (HT.out.1.nodes.below h)).mono ?_
      rintro e w' ⟨⟨A1, n1, c1, l1, A2, n2, c2, l2, he, o1, o2, _, d1, d2⟩, hb⟩
      rw [hP.eC] at he
      exact ⟨A1, n1, c1, l1, A2, n2, c2, l2, he, o1, o2, d1.trans hP.eR, d2.trans hP.eP, hb⟩
    obtain ⟨hw0', hpb⟩ := graft_needs hP.gr
    obtain ⟨px, pr, hpx, hpp⟩ := hP.hd
    have hgr : ∀ W (A1 : Option Addr) (n1 c1 : Nat) (l1 : List Nm) (A2 : Option Addr) (n2 c2 : Nat) (l2 : List Nm) (b1 b2 : Nat), OwnN W b1 A1 n1 c1 l1 → OwnN W b2 A2 n2 c2 l2 → dat l1 = rest → dat l2 = piece → Calls Tryz.prog 22 #[.slice A1 n1 c1, .int .i64 (q : Int), .slice A2 n2 c2] W fun e w' => ∃ (A3 : Option Addr) (n3 c3 : Nat) (l3 : List Nm), e = .returned (.tuple #[.slice A3 n3 c3, .int .i64 0]) ∧ OwnN w' W.heap.size A3 n3 c3 l3 ∧ dat l3 = back ∧ Below W.heap.size W w' := fun W A1 n1 c1 l1 A2 n2 c2 l2 b1 b2 o1 o2 d1 d2 => by
      refine (pgraft_ok A1 c1 n1 l1 o1.len (own_caps o1.row) (SizedD.mem (by rw [d1]; exact is_sized hP.ris)) (q : Int) A2 c2 n2 l2 o2.len (SizedD.mem (by rw [d2]; exact hP.psz)) W W.heap.size (Nat.le_refl _) o1.nodes o2.nodes (by rw [d1]; exact hw0') (by rw [d2]; exact hpb)).mono ?_
      rintro e w' ⟨⟨A3, n3, c3, l3, he, o3, d3⟩, hb⟩
      rw [d1, d2, hP.gr] at he
      rw [d1, d2, hP.eB] at d3
      exact ⟨A3, n3, c3, l3, he, o3, d3, hb⟩
    have hsD : SizedD (sortR (dat L)) := (sort_small HT.out.1.sized).1
    have hs1 : ∀ W, Below w2.heap.size w2 W → Calls Tryz.prog 8 #[.slice A' m c'] W fun e w' => ∃ (A4 : Option Addr) (c4 n4 : Nat) (l4 : List Nm), e = .returned (.tuple #[.slice A4 n4 c4, .int .i64 0]) ∧ OwnN w' W.heap.size A4 n4 c4 l4 ∧ dat l4 = sortR (dat L) ∧ Below W.heap.size W w' := fun W h => by
      refine (psorted_any A' c' m L hml HT.out.1.sized W w2.heap.size h.size (HT.out.1.nodes.below h)).mono ?_
      rintro e w' ⟨⟨A4, c4, n4, l4, he, o4, d4⟩, hb⟩
      rw [hIs.ok] at he
      exact ⟨A4, c4, n4, l4, he, o4, d4, hb⟩
    have hs2 : ∀ W (A3 : Option Addr) (n3 c3 : Nat) (l3 : List Nm) (b3 : Nat), OwnN W b3 A3 n3 c3 l3 → dat l3 = back → Calls Tryz.prog 8 #[.slice A3 n3 c3] W fun e w' => ∃ (A4 : Option Addr) (c4 n4 : Nat) (l4 : List Nm), e = .returned (.tuple #[.slice A4 n4 c4, .int .i64 0]) ∧ OwnN w' W.heap.size A4 n4 c4 l4 ∧ dat l4 = sortR (dat L) ∧ Below W.heap.size W w' := fun W A3 n3 c3 l3 b3 o3 d3 => by
      refine (psorted_any A3 c3 n3 l3 o3.len (SizedD.mem (by rw [d3]; exact is_sized hP.bis)) W W.heap.size (Nat.le_refl _) o3.nodes).mono ?_
      rintro e w' ⟨⟨A4, c4, n4, l4, he, o4, d4⟩, hb⟩
      rw [d3, hP.bis.ok] at he
      rw [d3, hP.same] at d4
      exact ⟨A4, c4, n4, l4, he, o4, d4, hb⟩
    have hck : ∀ W (A1 : Option Addr) (n1 c1 : Nat) (l1 : List Nm) (b1 : Nat), OwnN W b1 A1 n1 c1 l1 → dat l1 = rest → Calls Tryz.prog 23 #[.slice A1 n1 c1] W fun e w' => e = .returned (.tuple #[.int .i64 (checkF rest).1, .int .i64 0]) ∧ Below W.heap.size W w' := fun W A1 n1 c1 l1 b1 o1 d1 => by
      have := pCheck_any A1 c1 n1 l1 o1.len (SizedD.mem (by rw [d1]; exact is_sized hP.ris)) W W.heap.size (Nat.le_refl _) o1.nodes
      rw [d1, hP.ris.ok] at this
      exact this
    have hsa : ∀ W (A4 : Option Addr) (n4 c4 : Nat) (l4 : List Nm) (A5 : Option Addr) (n5 c5 : Nat) (l5 : List Nm) (b4 b5 : Nat), OwnN W b4 A4 n4 c4 l4 → OwnN W b5 A5 n5 c5 l5 → dat l4 = sortR (dat L) → dat l5 = sortR (dat L) →
        (Calls Tryz.prog 24 #[.slice A4 n4 c4, .slice A5 n5 c5] W fun e w' => e = .returned (.bool true) ∧ Below W.heap.size W w') ∧ (Calls Tryz.prog 9 #[.slice A4 n4 c4, .slice A5 n5 c5] W fun e w' => e = .returned (.bool true) ∧ Below W.heap.size W w') := fun W A4 n4 c4 l4 A5 n5 c5 l5 b4 b5 o4 o5 d4 d5 => by
      have h1 := psame_any A4 c4 n4 l4 o4.len (SizedD.mem (by rw [d4]; exact hsD)) A5 c5 n5 l5 o5.len W W.heap.size (Nat.le_refl _) o4.nodes o5.nodes
      have h2 := rsame_any A4 c4 n4 l4 o4.len (SizedD.mem (by rw [d4]; exact hsD)) A5 c5 n5 l5 o5.len W W.heap.size (Nat.le_refl _) o4.nodes o5.nodes
      rw [d4, d5, same_refl] at h1 h2
      exact ⟨h1, h2⟩
    have hfin : z = o → ∀ W (A3 : Option Addr) (n3 c3 : Nat) (l3 : List Nm) (b3 : Nat), Below w2.heap.size w2 W → OwnN W b3 A3 n3 c3 l3 → dat l3 = back → Calls Tryz.prog 9 #[.slice A3 n3 c3, .slice A' m c'] W fun e w' => e = .returned (.bool true) ∧ Below W.heap.size W w' := fun hzo W A3 n3 c3 l3 b3 h o3 d3 =>
      rsame_eq A3 c3 n3 l3 o3.len (SizedD.mem (by rw [d3]; exact is_sized hP.bis)) A' c' m L hml W o3.nodes ((HT.out.1.nodes.below h).more h.size) (by rw [d3]; exact hlast hzo)
    have hpl1 : piece.length ≤ 512 := by omega
    have HE1 := Lib.hid hE1
    have HE2 := Lib.hid hE2
    have HCL := Lib.hid hcl
    have HCUT := Lib.hid hcut
    have HGR := Lib.hid hgr
    have HS1 := Lib.hid hs1
    have HS2 := Lib.hid hs2
    have HCK := Lib.hid hck
    have HSA := Lib.hid hsa
    have HFIN := Lib.hid hfin
    have HPX := Lib.hid (And.intro hpx hpp)
    have hx2 := hcl w2 (Below.refl _ _)
    have hB2s : w.heap.size ≤ w2.heap.size := HB2.out.size
    subst eA
    clear hen hE1 hE2 hcl hcut hgr hs1 hs2 hck hsa hfin hlast hsD hpb hw0' hP hpx hpp hIs hiD hDl hml hIe hz ho hst
    refine (HE1.out w2 (Below.refl _ _)).mono ?_
    rintro e w3 ⟨rfl, hb3⟩
    have HBC := Lib.hid hb3
    have hx3 := HCL.out w3 hb3
    clear hb3 HE1
    have hz120 : z ≤ 120 := by omega
    by_cases hzo : z = o
    · have HFN := Lib.hid (HFIN.out hzo)
      have ezo : ((z : Int) != (o : Int)) = false := by rw [hzo]; exact bne_self_eq_false _
      clear hzo HFIN
      go_wp2_with (first
        | (go_at_call 9
           refine (HFN.out w11 A3 n3 c3 l3 w5.heap.size HBC.out O3.out D3.out).mono ?_
           rintro e w12 ⟨rfl, hb12⟩
           have HBC := Lib.hid (HBC.out.trans (hb12.mono HBC.out.size))
           clear hb12 HFN)
        | (go_at_call 9
           refine ((HSA.out w10 A4 n4 c4 l4 A5 n5 c5 l5 w6.heap.size w7.heap.size O4.out O5.out D4.out D5.out).2).mono ?_
           rintro e w11 ⟨rfl, hb11⟩
           have HBC := Lib.hid (HBC.out.trans (hb11.mono HBC.out.size))
           have O3 := Lib.hid (O3.out.below hb11)
           clear hb11 HSA)
        | (go_at_call 24
           refine ((HSA.out w9 A4 n4 c4 l4 A5 n5 c5 l5 w6.heap.size w7.heap.size O4.out O5.out D4.out D5.out).1).mono ?_
           rintro e w10 ⟨rfl, hb10⟩
           have HBC := Lib.hid (HBC.out.trans (hb10.mono HBC.out.size))
           have O3 := Lib.hid (O3.out.below hb10)
           have O4 := Lib.hid (O4.out.below hb10)
           have O5 := Lib.hid (O5.out.below hb10)
           clear hb10)
        | (go_at_call 23
           refine (HCK.out w8 A1 n1 c1 l1 w4.heap.size O1.out D1.out).mono ?_
           rintro e w9 ⟨rfl, hb9⟩
           have HBC := Lib.hid (HBC.out.trans (hb9.mono HBC.out.size))
           have O3 := Lib.hid (O3.out.below hb9)
           have O4 := Lib.hid (O4.out.below hb9)
           have O5 := Lib.hid (O5.out.below hb9)
           clear hb9 HCK)
        | (go_at_call 8
           refine (HS2.out w7 A3 n3 c3 l3 w5.heap.size O3.out D3.out).mono ?_
           rintro e w8 ⟨A5, c5, n5, l5, rfl, o5, d5, hb8⟩
           have HBC := Lib.hid (HBC.out.trans (hb8.mono HBC.out.size))
           have O1 := Lib.hid (O1.out.below hb8)
           have O3 := Lib.hid (O3.out.below hb8)
           have O4 := Lib.hid (O4.out.below hb8)
           have O5 := Lib.hid o5
           have D5 := Lib.hid d5
           clear hb8 HS2 o5 d5)
        | (go_at_call 8
           refine (HS1.out w6 HBC.out).mono ?_
           rintro e w7 ⟨A4, c4, n4, l4, rfl, o4, d4, hb7⟩
           have HBC := Lib.hid (HBC.out.trans (hb7.mono HBC.out.size))
           have O1 := Lib.hid (O1.out.below hb7)
           have O3 := Lib.hid (O3.out.below hb7)
           have O4 := Lib.hid o4
           have D4 := Lib.hid d4
           clear hb7 HS1 o4 d4)
        | (go_at_call 22
           refine (HGR.out w5 A1 n1 c1 l1 _ n2 c2 l2 w4.heap.size w4.heap.size O1.out O2.out D1.out D2.out).mono ?_
           rintro e w6 ⟨A3, n3, c3, l3, rfl, o3, d3, hb6⟩
           have HBC := Lib.hid (HBC.out.trans (hb6.mono HBC.out.size))
           have O1 := Lib.hid (O1.out.below hb6)
           have O3 := Lib.hid o3
           have D3 := Lib.hid d3
           have hx62 := (hb6.cell (p := ⟨g2, off2, none⟩) (World.block_lt_of_cell? _ _ hx52)).trans hx52
           clear hb6 HGR o3 d3)
        | (go_at_call 21
           refine (HCUT.out w4 HBC.out).mono ?_
           rintro e w5 ⟨A1, n1, c1, l1, A2, n2, c2, l2, rfl, o1, o2, d1, d2, hb5⟩
           have HBC := Lib.hid (HBC.out.trans (hb5.mono HBC.out.size))
           have hl2 : n2 = piece.length := by rw [o2.len, ← d2, dat_len]
           have hl1 : n1 = rest.length := by rw [o1.len, ← d1, dat_len]
           obtain ⟨hpx, hpp⟩ := HPX.out
           have hl20 : 0 < l2.length := by
             rw [← o2.len, hl2, hpx]
             exact Nat.succ_pos _
           obtain ⟨g2, off2, eA2, hg2, hx52, hrest⟩ := o2.nodes.at_ (k := 0) hl20
           have hpm : l2[0].d.p = -1 := by
             have e : (dat l2)[0]? = some px := by rw [d2, hpx]; rfl
             rw [List.getElem?_eq_getElem (by rw [dat_len]; exact hl20), dat_get l2 hl20] at e
             injection e with e
             rw [e]
             exact hpp
           rw [hpm, Nat.zero_mul, Nat.add_zero] at hx52
           have hsub : (z : Int) - (I : Int) = (n2 : Int) := by omega
           have hadd : (n1 : Int) + (n2 : Int) = (m : Int) := by omega
           have hn2 : n2 ≤ 60 := by omega
           have hn20 : (0 : Int) < (n2 : Int) := by have := o2.len; omega
           have hn1 : n1 ≤ 60 := by omega
           have O1 := Lib.hid o1
           have O2 := Lib.hid o2
           have D1 := Lib.hid d1
           have D2 := Lib.hid d2
           have hx5 := HCL.out w5 HBC.out
           subst eA2
           clear hrest hb5 HCUT o1 o2 d1 d2 hpx hpp hl20 hpm hl1 hl2 hplen hrlen)
        | (go_at_call 20
           refine (HE2.out w3 HBC.out).mono ?_
           rintro e w4 ⟨rfl, hb4⟩
           have HBC := Lib.hid (HBC.out.trans (hb4.mono HBC.out.size))
           clear hb4 HE2))
      go_ret
      exact ⟨rfl, HB2.out.trans (HBC.out.mono hB2s)⟩
    · have ezo : ((z : Int) != (o : Int)) = true := by rw [bne_iff_ne]; omega
      clear hzo HFIN
      go_wp2_with (first
        | (go_at_call 9
           refine ((HSA.out w10 A4 n4 c4 l4 A5 n5 c5 l5 w6.heap.size w7.heap.size O4.out O5.out D4.out D5.out).2).mono ?_
           rintro e w11 ⟨rfl, hb11⟩
           have HBC := Lib.hid (HBC.out.trans (hb11.mono HBC.out.size))
           have O3 := Lib.hid (O3.out.below hb11)
           clear hb11 HSA)
        | (go_at_call 24
           refine ((HSA.out w9 A4 n4 c4 l4 A5 n5 c5 l5 w6.heap.size w7.heap.size O4.out O5.out D4.out D5.out).1).mono ?_
           rintro e w10 ⟨rfl, hb10⟩
           have HBC := Lib.hid (HBC.out.trans (hb10.mono HBC.out.size))
           have O3 := Lib.hid (O3.out.below hb10)
           have O4 := Lib.hid (O4.out.below hb10)
           have O5 := Lib.hid (O5.out.below hb10)
           clear hb10)
        | (go_at_call 23
           refine (HCK.out w8 A1 n1 c1 l1 w4.heap.size O1.out D1.out).mono ?_
           rintro e w9 ⟨rfl, hb9⟩
           have HBC := Lib.hid (HBC.out.trans (hb9.mono HBC.out.size))
           have O3 := Lib.hid (O3.out.below hb9)
           have O4 := Lib.hid (O4.out.below hb9)
           have O5 := Lib.hid (O5.out.below hb9)
           clear hb9 HCK)
        | (go_at_call 8
           refine (HS2.out w7 A3 n3 c3 l3 w5.heap.size O3.out D3.out).mono ?_
           rintro e w8 ⟨A5, c5, n5, l5, rfl, o5, d5, hb8⟩
           have HBC := Lib.hid (HBC.out.trans (hb8.mono HBC.out.size))
           have O1 := Lib.hid (O1.out.below hb8)
           have O3 := Lib.hid (O3.out.below hb8)
           have O4 := Lib.hid (O4.out.below hb8)
           have O5 := Lib.hid o5
           have D5 := Lib.hid d5
           clear hb8 HS2 o5 d5)
        | (go_at_call 8
           refine (HS1.out w6 HBC.out).mono ?_
           rintro e w7 ⟨A4, c4, n4, l4, rfl, o4, d4, hb7⟩
           have HBC := Lib.hid (HBC.out.trans (hb7.mono HBC.out.size))
           have O1 := Lib.hid (O1.out.below hb7)
           have O3 := Lib.hid (O3.out.below hb7)
           have O4 := Lib.hid o4
           have D4 := Lib.hid d4
           clear hb7 HS1 o4 d4)
        | (go_at_call 22
           refine (HGR.out w5 A1 n1 c1 l1 _ n2 c2 l2 w4.heap.size w4.heap.size O1.out O2.out D1.out D2.out).mono ?_
           rintro e w6 ⟨A3, n3, c3, l3, rfl, o3, d3, hb6⟩
           have HBC := Lib.hid (HBC.out.trans (hb6.mono HBC.out.size))
           have O1 := Lib.hid (O1.out.below hb6)
           have O3 := Lib.hid o3
           have D3 := Lib.hid d3
           have hx62 := (hb6.cell (p := ⟨g2, off2, none⟩) (World.block_lt_of_cell? _ _ hx52)).trans hx52
           clear hb6 HGR o3 d3)
        | (go_at_call 21
           refine (HCUT.out w4 HBC.out).mono ?_
           rintro e w5 ⟨A1, n1, c1, l1, A2, n2, c2, l2, rfl, o1, o2, d1, d2, hb5⟩
           have HBC := Lib.hid (HBC.out.trans (hb5.mono HBC.out.size))
           have hl2 : n2 = piece.length := by rw [o2.len, ← d2, dat_len]
           have hl1 : n1 = rest.length := by rw [o1.len, ← d1, dat_len]
           obtain ⟨hpx, hpp⟩ := HPX.out
           have hl20 : 0 < l2.length := by
             rw [← o2.len, hl2, hpx]
             exact Nat.succ_pos _
           obtain ⟨g2, off2, eA2, hg2, hx52, hrest⟩ := o2.nodes.at_ (k := 0) hl20
           have hpm : l2[0].d.p = -1 := by
             have e : (dat l2)[0]? = some px := by rw [d2, hpx]; rfl
             rw [List.getElem?_eq_getElem (by rw [dat_len]; exact hl20), dat_get l2 hl20] at e
             injection e with e
             rw [e]
             exact hpp
           rw [hpm, Nat.zero_mul, Nat.add_zero] at hx52
           have hsub : (z : Int) - (I : Int) = (n2 : Int) := by omega
           have hadd : (n1 : Int) + (n2 : Int) = (m : Int) := by omega
           have hn2 : n2 ≤ 60 := by omega
           have hn20 : (0 : Int) < (n2 : Int) := by have := o2.len; omega
           have hn1 : n1 ≤ 60 := by omega
           have O1 := Lib.hid o1
           have O2 := Lib.hid o2
           have D1 := Lib.hid d1
           have D2 := Lib.hid d2
           have hx5 := HCL.out w5 HBC.out
           subst eA2
           clear hrest hb5 HCUT o1 o2 d1 d2 hpx hpp hl20 hpm hl1 hl2 hplen hrlen)
        | (go_at_call 20
           refine (HE2.out w3 HBC.out).mono ?_
           rintro e w4 ⟨rfl, hb4⟩
           have HBC := Lib.hid (HBC.out.trans (hb4.mono HBC.out.size))
           clear hb4 HE2))
      go_ret
      exact ⟨rfl, HB2.out.trans (HBC.out.mono hB2s)⟩
end Go.Proofs.YtmdnbajbfnhecaaGreatDoor
