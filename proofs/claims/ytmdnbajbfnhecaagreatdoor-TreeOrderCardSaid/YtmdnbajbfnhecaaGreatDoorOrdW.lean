/- The walk of TreeOrder. -/
import Derived.Test.YtmdnbajbfnhecaaGreatDoorTurnW
set_option linter.unusedVariables false
namespace Go.Proofs.YtmdnbajbfnhecaaGreatDoor
open Go.RowKit
theorem splitC_len (c : UInt8) : ∀ s : List UInt8, (splitC c s).length ≤ s.length + 1
  | [] => by simp [splitC]
  | b :: r => by
    have ih := splitC_len c r
    rw [splitC]
    split
    · simp only [List.length_cons]; omega
    · split
      · simp
      · rename_i h t he
        rw [he] at ih
        simp only [List.length_cons] at ih ⊢
        omega
theorem texts_len {v : List UInt8} {ts : List (List UInt8)} (h : textsL v = some ts) : ts.length ≤ v.length := by
  unfold textsL at h
  split at h
  · injection h with h; subst h; simp
  · split at h
    · injection h with h
      subst h
      have := splitC_len 0 v
      unfold headsC
      rw [List.length_dropLast]
      omega
    · cases h
theorem comp_len {l : List Nm} (i : Int) : (compL (dat l) i).length ≤ 1048576 := by
  unfold compL
  split
  · rename_i h0
    obtain ⟨hf, h5, k, rfl, hk⟩ := wrong_zero h0
    have hkl : k < l.length := by rwa [dat_len] at hk
    rw [Int.toNat_natCast, props_dat hkl]
    unfold saysL
    cases hT : textsL (valS l[k].d.ps kCo).data.toList with
    | none => simp
    | some ts =>
      have := texts_len hT
      have h2 := val_le (k := kCo) (fine_vals hf _ (List.getElem_mem hkl))
      rw [data_len] at this
      show ts.length ≤ _
      omega
  · simp
theorem TxAt.len {w : World} {A : Option Addr} {m : Nat} {ts : List (List UInt8)} (h : TxAt w A m ts) : m = ts.length := by
  obtain ⟨bs, h1, _, h3⟩ := h
  rw [h1, ← h3, List.length_map]
theorem Is.size {l : List Nd} (h : Is l) : ∀ i : Nat, i < l.length → (pathB l i).size ≤ 32 * i + 1 := by
  intro i
  induction i using Nat.strongRecOn with
  | ind i ih =>
    intro hi
    have hs : ∀ s : ByteArray, s.size = s.data.toList.length := fun s => by rw [Array.length_toList]; rfl
    rcases Nat.eq_zero_or_pos i with rfl | h0
    · rw [pathB_root]; decide
    · obtain ⟨p, hp, hpi⟩ := h.par h0 hi
      have hn := fine_name h.fine hi
      rcases Nat.eq_zero_or_pos p with rfl | hp0
      · rw [hs, h.path_root h0 hi hp, List.length_cons]
        omega
      · rw [hs, h.path_deep h0 hi hp hp0, List.length_append, List.length_cons, ← hs]
        have := ih p hpi (by omega)
        omega
set_option maxRecDepth 100000 in
set_option maxHeartbeats 8000000 in
theorem treeOrder_walk (A : Option Addr) (cap n : Nat) (l : List Nm) (hn : n = l.length) (hsz : Sized l) (w : World) (hv0 : Var0 w) (hw0 : 0 < w.heap.size) (hs : Nodes w w.heap.size A l) :
    Calls Tryz.prog 3 #[.slice A n cap] w fun e w' => e = .returned (.bool true) ∧ Below w.heap.size w w' := by
  have hwk := works_any w hv0 hw0
  have HN := Lib.hid hn
  have HS := Lib.hid hs
  have HZ := Lib.hid hsz
  have HWK := Lib.hid hwk
  have HV := Lib.hid hv0
  clear hn hs hsz hwk hv0
  go_enter Tryz.func3, Tryz.ntmps3
  go_wp2_with (first
    | (go_at_call 6
       refine (tame_any A cap n l HN.out HZ.out w1 w.heap.size HB1.out.size (HS.out.below HB1.out)).mono ?_
       rintro e w2 ⟨A', m, c', L, rfl, ht, hb2⟩
       have HT := Lib.hid ht
       have HB2 := Lib.hid (HB1.out.trans (hb2.mono HB1.out.size))
       have hm6 := ht.1.few
       clear ht hb2)
    | (go_at_call 5
       refine HWK.out.mono ?_
       rintro e w1 ⟨rfl, hb1⟩
       have HB1 := Lib.hid hb1
       clear hb1))
  have hml := HT.out.1.len
  have hIs := is_tree HT.out.1.ok
  have hDl : (dat L).length = m := by rw [dat_len, ← hml]
  have hm0 : 0 < m := by rw [← hDl]; exact hIs.pos
  obtain ⟨T, hT⟩ := turned_law hIs
  have hTl : T.length = m := by rw [hT.len, hDl]
  have hnd : ∀ W, Below w2.heap.size w2 W → Nodes W w2.heap.size A' L := fun W h => HT.out.1.nodes.below h
  have hVW : ∀ W, Below w2.heap.size w2 W → Var0 W ∧ 0 < W.heap.size := fun W h => ⟨HV.out.below (HB2.out.trans (h.mono HB2.out.size)) hw0, Nat.lt_of_lt_of_le hw0 (Nat.le_trans HB2.out.size h.size)⟩
  have hsD : SizedD (sortR (dat L)) := is_sized hT.ord
  have htn := turned_any A' c' m L hml HT.out.1.sized hm0 hT (by omega) w2 HT.out.1.nodes
  have hs1 : ∀ W, Below w2.heap.size w2 W → Calls Tryz.prog 8 #[.slice A' m c'] W fun e w' => ∃ (A4 : Option Addr) (c4 n4 : Nat) (l4 : List Nm), e = .returned (.tuple #[.slice A4 n4 c4, .int .i64 0]) ∧ OwnN w' W.heap.size A4 n4 c4 l4 ∧ dat l4 = sortR (dat L) ∧ Below W.heap.size W w' := fun W h => by
    refine (psorted_any A' c' m L hml HT.out.1.sized W w2.heap.size h.size (hnd W h)).mono ?_
    rintro e w' ⟨⟨A4, c4, n4, l4, he, o4, d4⟩, hb⟩
    rw [hIs.ok] at he
    exact ⟨A4, c4, n4, l4, he, o4, d4, hb⟩
  have hs2 : ∀ W (A3 : Option Addr) (n3 c3 : Nat) (l3 : List Nm) (b3 : Nat), OwnN W b3 A3 n3 c3 l3 → dat l3 = T → Calls Tryz.prog 8 #[.slice A3 n3 c3] W fun e w' => ∃ (A4 : Option Addr) (c4 n4 : Nat) (l4 : List Nm), e = .returned (.tuple #[.slice A4 n4 c4, .int .i64 0]) ∧ OwnN w' W.heap.size A4 n4 c4 l4 ∧ dat l4 = sortR (dat L) ∧ Below W.heap.size W w' := fun W A3 n3 c3 l3 b3 o3 d3 => by
    refine (psorted_any A3 c3 n3 l3 o3.len (SizedD.mem (by rw [d3]; exact is_sized hT.ist)) W W.heap.size (Nat.le_refl _) o3.nodes).mono ?_
    rintro e w' ⟨⟨A4, c4, n4, l4, he, o4, d4⟩, hb⟩
    rw [d3, hT.ist.ok] at he
    rw [d3, hT.same] at d4
    exact ⟨A4, c4, n4, l4, he, o4, d4, hb⟩
  have hs3 : ∀ W (A3 : Option Addr) (n3 c3 : Nat) (l3 : List Nm) (b3 : Nat), OwnN W b3 A3 n3 c3 l3 → dat l3 = sortR (dat L) → Calls Tryz.prog 8 #[.slice A3 n3 c3] W fun e w' => ∃ (A4 : Option Addr) (c4 n4 : Nat) (l4 : List Nm), e = .returned (.tuple #[.slice A4 n4 c4, .int .i64 0]) ∧ OwnN w' W.heap.size A4 n4 c4 l4 ∧ dat l4 = sortR (dat L) ∧ Below W.heap.size W w' := fun W A3 n3 c3 l3 b3 o3 d3 => by
    refine (psorted_any A3 c3 n3 l3 o3.len (SizedD.mem (by rw [d3]; exact hsD)) W W.heap.size (Nat.le_refl _) o3.nodes).mono ?_
    rintro e w' ⟨⟨A4, c4, n4, l4, he, o4, d4⟩, hb⟩
    rw [d3, hT.ord.ok] at he
    rw [d3, hT.twice] at d4
    exact ⟨A4, c4, n4, l4, he, o4, d4, hb⟩
  have hsa : ∀ W (A4 : Option Addr) (n4 c4 : Nat) (l4 : List Nm) (A5 : Option Addr) (n5 c5 : Nat) (l5 : List Nm) (b4 b5 : Nat), OwnN W b4 A4 n4 c4 l4 → OwnN W b5 A5 n5 c5 l5 → dat l4 = sortR (dat L) → dat l5 = sortR (dat L) →
      (Calls Tryz.prog 9 #[.slice A4 n4 c4, .slice A5 n5 c5] W fun e w' => e = .returned (.bool true) ∧ Below W.heap.size W w') := fun W A4 n4 c4 l4 A5 n5 c5 l5 b4 b5 o4 o5 d4 d5 => by
    have h2 := rsame_any A4 c4 n4 l4 o4.len (SizedD.mem (by rw [d4]; exact hsD)) A5 c5 n5 l5 o5.len W W.heap.size (Nat.le_refl _) o4.nodes o5.nodes
    rw [d4, d5, same_refl] at h2
    exact h2
  have HTN := Lib.hid htn
  have HS1 := Lib.hid hs1
  have HS2 := Lib.hid hs2
  have HS3 := Lib.hid hs3
  have HSA := Lib.hid hsa
  have HTU := Lib.hid hT
  have HIS := Lib.hid hIs
  have HND := Lib.hid hnd
  have HVW := Lib.hid hVW
  have HML := Lib.hid hml
  have HDL := Lib.hid hDl
  have HTL := Lib.hid hTl
  have hB2s : w.heap.size ≤ w2.heap.size := HB2.out.size
  clear htn hs1 hs2 hs3 hsa hT hIs hnd hVW hml hDl hTl hsD
  refine HTN.out.mono ?_
  rintro e w3 ⟨A3, m3, c3, l3, rfl, o3, d3, hb3⟩
  have hl3 : m3 = m := by rw [o3.len, ← HTL.out, ← d3, dat_len]
  subst hl3
  have O3 := Lib.hid o3
  have O3' := Lib.hid o3
  have D3 := Lib.hid d3
  have HBC := Lib.hid hb3
  have HC3 := Lib.hid (Below.refl w3.heap.size w3)
  clear o3 d3 hb3 HTN
  go_wp2_with (first
    | (go_at_call 9
       refine (HSA.out w7 A4 n4 c4 l4 A6 n6 c6 l6 w3.heap.size w5.heap.size O4.out O6.out D4.out D6.out).mono ?_
       rintro e w8 ⟨rfl, hb8⟩
       have HBC := Lib.hid (HBC.out.trans (hb8.mono HBC.out.size))
       have HC3 := Lib.hid (HC3.out.trans (hb8.mono HC3.out.size))
       clear hb8 HSA)
    | (go_at_call 9
       refine (HSA.out w6 A4 n4 c4 l4 A5 n5 c5 l5 w3.heap.size w4.heap.size O4.out O5.out D4.out D5.out).mono ?_
       rintro e w7 ⟨rfl, hb7⟩
       have HBC := Lib.hid (HBC.out.trans (hb7.mono HBC.out.size))
       have HC3 := Lib.hid (HC3.out.trans (hb7.mono HC3.out.size))
       have O4 := Lib.hid (O4.out.below hb7)
       have O6 := Lib.hid (O6.out.below hb7)
       clear hb7)
    | (go_at_call 8
       refine (HS3.out w5 A4 n4 c4 l4 w3.heap.size O4.out D4.out).mono ?_
       rintro e w6 ⟨A6, c6, n6, l6, rfl, o6, d6, hb6⟩
       have HBC := Lib.hid (HBC.out.trans (hb6.mono HBC.out.size))
       have HC3 := Lib.hid (HC3.out.trans (hb6.mono HC3.out.size))
       have O4 := Lib.hid (O4.out.below hb6)
       have O5 := Lib.hid (O5.out.below hb6)
       have O6 := Lib.hid o6
       have D6 := Lib.hid d6
       clear hb6 HS3 o6 d6)
    | (go_at_call 8
       refine (HS2.out w4 A3 m3 c3 l3 w2.heap.size O3'.out D3.out).mono ?_
       rintro e w5 ⟨A5, c5, n5, l5, rfl, o5, d5, hb5⟩
       have HBC := Lib.hid (HBC.out.trans (hb5.mono HBC.out.size))
       have HC3 := Lib.hid (HC3.out.trans (hb5.mono HC3.out.size))
       have O4 := Lib.hid (O4.out.below hb5)
       have O5 := Lib.hid o5
       have D5 := Lib.hid d5
       clear hb5 HS2 o5 d5 O3')
    | (go_at_call 8
       refine (HS1.out w3 HBC.out).mono ?_
       rintro e w4 ⟨A4, c4, n4, l4, rfl, o4, d4, hb4⟩
       have HBC := Lib.hid (HBC.out.trans (hb4.mono HBC.out.size))
       have HC3 := Lib.hid (HC3.out.trans (hb4.mono HC3.out.size))
       have O3' := Lib.hid (O3'.out.below hb4)
       have O4 := Lib.hid o4
       have D4 := Lib.hid d4
       clear hb4 HS1 o4 d4))
  have HBC' := HBC
  clear O4 O5 O6 D4 D5 D6
  go_loopw [11] (fun iv wx => ∃ i : Nat, i ≤ m3 ∧ iv = .int .i64 i ∧ Below w2.heap.size w2 wx ∧ Below w3.heap.size w3 wx) (fun iv _ => m3 - (intOf iv).toNat)
  case atStart => exact ⟨0, by omega, rfl, HBC'.out, HC3.out⟩
  case round =>
    obtain ⟨i, hi, rfl, hb, hb3⟩ := hrel
    have HB := Lib.hid hb
    have HC := Lib.hid hb3
    clear hb hb3
    by_cases him : i < m3
    · have hii : (i : Int) < (m3 : Int) := by omega
      have hiD : i < (dat L).length := by rw [HDL.out]; exact him
      obtain ⟨k, hk, hfi, hon, hhd, hpl, hco, hhv⟩ := turned_at HIS.out HTU.out hiD
      have hwi := HIS.out.wrong hiD
      have hwk := HTU.out.ist.wrong hk
      have hszp : (pathB (dat L) i).size ≤ 1048576 := by have := HIS.out.size i hiD; omega
      have hcl : (compL (dat L) (i : Int)).length ≤ 1048576 := comp_len (l := L) (i : Int)
      have hz3 : Sized l3 := SizedD.mem (by rw [D3.out]; exact is_sized HTU.out.ist)
      have hn3 : ∀ W, Below w3.heap.size w3 W → OwnN W w2.heap.size A3 m3 c3 l3 := fun W h => O3.out.below h
      obtain ⟨s, hs⟩ : ∃ s, s = pathB (dat L) i := ⟨_, rfl⟩
      obtain ⟨ob, hob⟩ : ∃ ob, ob = onV (dat L) (i : Int) := ⟨_, rfl⟩
      obtain ⟨pb, hpb⟩ : ∃ pb, pb = plainV (dat L) (i : Int) := ⟨_, rfl⟩
      obtain ⟨C, hC⟩ : ∃ C, C = compL (dat L) (i : Int) := ⟨_, rfl⟩
      obtain ⟨X, E, hXE⟩ : ∃ X E, handofV (dat L) (i : Int) = (X, E) := ⟨_, _, rfl⟩
      rw [← hs] at hfi hszp
      rw [← hob] at hon
      rw [← hpb] at hpl
      rw [← hC] at hco hcl
      rw [hXE] at hhd
      have h10 : ∀ W, Below w2.heap.size w2 W → Below w3.heap.size w3 W → Calls Tryz.prog 10 #[.slice A' m3 c', .int .i64 (i : Int)] W fun e w' => e = .returned (.tuple #[.string s, .int .i64 0]) ∧ Below W.heap.size W w' := fun W h h3 => by
        have := ppath_any A' c' m3 L HML.out HT.out.1.sized (i : Int) W w2.heap.size h.size (HND.out W h)
        rw [HIS.out.path hiD, hwi, ← hs] at this
        exact this
      have h11 : ∀ W, Below w2.heap.size w2 W → Below w3.heap.size w3 W → Calls Tryz.prog 11 #[.slice A3 m3 c3, .string s] W fun e w' => e = .returned (.tuple #[.int .i64 (k : Int), .int .i64 0]) ∧ Below W.heap.size W w' := fun W h h3 => by
        have := pfind_any A3 c3 m3 l3 (hn3 W h3).len hz3 s hszp W (HVW.out W h).1 (HVW.out W h).2 W.heap.size (Nat.le_refl _) (hn3 W h3).nodes
        rw [D3.out, hfi] at this
        exact this
      have h12a : ∀ W, Below w2.heap.size w2 W → Below w3.heap.size w3 W → Calls Tryz.prog 12 #[.slice A' m3 c', .int .i64 (i : Int)] W fun e w' => e = .returned (.tuple #[.bool ob, .int .i64 0]) ∧ Below W.heap.size W w' := fun W h h3 => by
        have := penabled_any A' c' m3 L HML.out HT.out.1.sized (i : Int) W (HVW.out W h).1 (HVW.out W h).2 w2.heap.size h.size (HND.out W h)
        rw [hwi, ← hob] at this
        exact this
      have h12b : ∀ W, Below w2.heap.size w2 W → Below w3.heap.size w3 W → Calls Tryz.prog 12 #[.slice A3 m3 c3, .int .i64 (k : Int)] W fun e w' => e = .returned (.tuple #[.bool ob, .int .i64 0]) ∧ Below W.heap.size W w' := fun W h h3 => by
        have := penabled_any A3 c3 m3 l3 (hn3 W h3).len hz3 (k : Int) W (HVW.out W h).1 (HVW.out W h).2 W.heap.size (Nat.le_refl _) (hn3 W h3).nodes
        rw [D3.out, hwk, hon] at this
        exact this
      have h13a : ∀ W, Below w2.heap.size w2 W → Below w3.heap.size w3 W → Calls Tryz.prog 13 #[.slice A' m3 c', .int .i64 (i : Int)] W fun e w' => e = .returned (.tuple #[.int .u32 (X : Int), .int .i64 E]) ∧ Below W.heap.size W w' := fun W h h3 => by
        have := phandof_any A' c' m3 L HML.out HT.out.1.sized (i : Int) W w2.heap.size h.size (HND.out W h)
        rw [hXE] at this
        exact this
      have h13b : ∀ W, Below w2.heap.size w2 W → Below w3.heap.size w3 W → Calls Tryz.prog 13 #[.slice A3 m3 c3, .int .i64 (k : Int)] W fun e w' => e = .returned (.tuple #[.int .u32 (X : Int), .int .i64 E]) ∧ Below W.heap.size W w' := fun W h h3 => by
        have := phandof_any A3 c3 m3 l3 (hn3 W h3).len hz3 (k : Int) W W.heap.size (Nat.le_refl _) (hn3 W h3).nodes
        rw [D3.out, hhd] at this
        exact this
      have h14a : ∀ W, Below w2.heap.size w2 W → Below w3.heap.size w3 W → Calls Tryz.prog 14 #[.slice A' m3 c', .int .i64 (i : Int)] W fun e w' => e = .returned (.tuple #[.bool pb, .int .i64 0]) ∧ Below W.heap.size W w' := fun W h h3 => by
        have := pplain_any A' c' m3 L HML.out HT.out.1.sized (i : Int) W (HVW.out W h).1 (HVW.out W h).2 w2.heap.size h.size (HND.out W h)
        rw [hwi, ← hpb] at this
        exact this
      have h14b : ∀ W, Below w2.heap.size w2 W → Below w3.heap.size w3 W → Calls Tryz.prog 14 #[.slice A3 m3 c3, .int .i64 (k : Int)] W fun e w' => e = .returned (.tuple #[.bool pb, .int .i64 0]) ∧ Below W.heap.size W w' := fun W h h3 => by
        have := pplain_any A3 c3 m3 l3 (hn3 W h3).len hz3 (k : Int) W (HVW.out W h).1 (HVW.out W h).2 W.heap.size (Nat.le_refl _) (hn3 W h3).nodes
        rw [D3.out, hwk, hpl] at this
        exact this
      have h15a : ∀ W, Below w2.heap.size w2 W → Below w3.heap.size w3 W → Calls Tryz.prog 15 #[.slice A' m3 c', .int .i64 (i : Int)] W fun e w' => ∃ (A7 : Option Addr) (c7 m7 : Nat), e = .returned (.tuple #[.slice A7 m7 c7, .int .i64 0]) ∧ TxAt w' A7 m7 C ∧ Below W.heap.size W w' := fun W h h3 => by
        have := pcompat_any A' c' m3 L HML.out HT.out.1.sized (i : Int) W (HVW.out W h).1 (HVW.out W h).2 w2.heap.size h.size (HND.out W h)
        rw [hwi, ← hC] at this
        refine Calls.mono this ?_
        rintro e w' ⟨⟨A7, c7, m7, he, tx⟩, hb⟩
        exact ⟨A7, c7, m7, he, tx, hb⟩
      have h15b : ∀ W, Below w2.heap.size w2 W → Below w3.heap.size w3 W → Calls Tryz.prog 15 #[.slice A3 m3 c3, .int .i64 (k : Int)] W fun e w' => ∃ (A7 : Option Addr) (c7 m7 : Nat), e = .returned (.tuple #[.slice A7 m7 c7, .int .i64 0]) ∧ TxAt w' A7 m7 C ∧ Below W.heap.size W w' := fun W h h3 => by
        have := pcompat_any A3 c3 m3 l3 (hn3 W h3).len hz3 (k : Int) W (HVW.out W h).1 (HVW.out W h).2 W.heap.size (Nat.le_refl _) (hn3 W h3).nodes
        rw [D3.out, hwk, hco] at this
        refine Calls.mono this ?_
        rintro e w' ⟨⟨A7, c7, m7, he, tx⟩, hb⟩
        exact ⟨A7, c7, m7, he, tx, hb⟩
      have H10 := Lib.hid h10
      have H11 := Lib.hid h11
      have H12a := Lib.hid h12a
      have H12b := Lib.hid h12b
      have H13a := Lib.hid h13a
      have H13b := Lib.hid h13b
      have H14a := Lib.hid h14a
      have H14b := Lib.hid h14b
      have H15a := Lib.hid h15a
      have H15b := Lib.hid h15b
      have HCL := Lib.hid hcl
      have exx : ((X : Int) != (X : Int)) = false := bne_self_eq_false _
      have eee : (E != E) = false := bne_self_eq_false _
      have eob : (ob != ob) = false := bne_self_eq_false _
      have epb : (pb != pb) = false := bne_self_eq_false _
      have hX0 : E = 0 → X ≠ 0 ∧ X < 4294967296 := fun hE => by
        unfold handofV at hXE
        rw [if_pos hwi] at hXE
        split at hXE
        · injection hXE with _ h2
          omega
        · rename_i h0
          injection hXE with h1 _
          refine ⟨by rw [← h1]; exact h0, by rw [← h1]; exact hand_u32 _⟩
      have hone : E = 0 → (dat L).countP (hasH X) = 1 → handV (dat L) X = ((i : Int), 0) ∧ handV T X = ((k : Int), 0) := fun hE hc => hhv X (by rw [hXE, hE]) hc
      clear hfi hon hhd hpl hco hhv hwi hwk hszp hcl hs hob hpb hC hXE hk hiD h10 h11 h12a h12b h13a h13b h14a h14b h15a h15b
      by_cases hE : E = 0
      · obtain ⟨hx0, hx32⟩ := hX0 hE
        have hone2 := hone hE
        subst hE
        have h17 : ∀ W, Below w2.heap.size w2 W → Below w3.heap.size w3 W → Calls Tryz.prog 17 #[.slice A' m3 c', .int .u32 (X : Int)] W fun e w' => e = .returned (.bool ((dat L).countP (hasH X) == 1)) ∧ Below W.heap.size W w' := fun W h h3 => by
          exact lone_any A' c' m3 L HML.out HT.out.1.sized HIS.out (by omega) X hx0 W w2.heap.size h.size (HND.out W h)
        by_cases hc : (dat L).countP (hasH X) = 1
        · obtain ⟨hv1, hv2⟩ := hone2 hc
          rw [hc] at h17
          have H17 := Lib.hid h17
          have h18a : ∀ W, Below w2.heap.size w2 W → Below w3.heap.size w3 W → Calls Tryz.prog 18 #[.slice A' m3 c', .int .u32 (X : Int)] W fun e w' => e = .returned (.tuple #[.int .i64 (i : Int), .int .i64 0]) ∧ Below W.heap.size W w' := fun W h h3 => by
            have := phandle_any A' c' m3 L HML.out HT.out.1.sized X hx32 W w2.heap.size h.size (HND.out W h)
            rw [hv1] at this
            exact this
          have h18b : ∀ W, Below w2.heap.size w2 W → Below w3.heap.size w3 W → Calls Tryz.prog 18 #[.slice A3 m3 c3, .int .u32 (X : Int)] W fun e w' => e = .returned (.tuple #[.int .i64 (k : Int), .int .i64 0]) ∧ Below W.heap.size W w' := fun W h h3 => by
            have := phandle_any A3 c3 m3 l3 (hn3 W h3).len hz3 X hx32 W W.heap.size (Nat.le_refl _) (hn3 W h3).nodes
            rw [D3.out, hv2] at this
            exact this
          have H18a := Lib.hid h18a
          have H18b := Lib.hid h18b
          have ekk : ((k : Int) != (k : Int)) = false := bne_self_eq_false _
          have eii : ((i : Int) != (i : Int)) = false := bne_self_eq_false _
          clear h17 h18a h18b hv1 hv2 hc hone2 hone hX0 hx0 hx32 hz3 hn3
          go_wp2_with (first
                  | (go_at_call 18
                     refine (H18b.out wm HB.out HC.out).mono ?_
                     rintro e wn ⟨rfl, hbwn⟩
                     have HB := Lib.hid (HB.out.trans (hbwn.mono HB.out.size))
                     have HC := Lib.hid (HC.out.trans (hbwn.mono HC.out.size))
                     clear hbwn H18b)
                  | (go_at_call 18
                     refine (H18a.out wl HB.out HC.out).mono ?_
                     rintro e wm ⟨rfl, hbwm⟩
                     have HB := Lib.hid (HB.out.trans (hbwm.mono HB.out.size))
                     have HC := Lib.hid (HC.out.trans (hbwm.mono HC.out.size))
                     clear hbwm H18a)
                  | (go_at_call 17
                     refine (H17.out wk HB.out HC.out).mono ?_
                     rintro e wl ⟨rfl, hbwl⟩
                     have HB := Lib.hid (HB.out.trans (hbwl.mono HB.out.size))
                     have HC := Lib.hid (HC.out.trans (hbwl.mono HC.out.size))
                     clear hbwl H17)
                  | (go_at_call 16
                     refine (sametx_any A8 c8 m8 A9 c9 m9 C wj T8.out T9.out (by have := T8.out.len; have := HCL.out; omega)).mono ?_
                     rintro e wk ⟨rfl, hbwk⟩
                     have HB := Lib.hid (HB.out.trans (hbwk.mono HB.out.size))
                     have HC := Lib.hid (HC.out.trans (hbwk.mono HC.out.size))
                     clear hbwk)
                  | (go_at_call 15
                     refine (H15b.out wi HB.out HC.out).mono ?_
                     rintro e wj ⟨A9, c9, m9, rfl, tx9, hbwj⟩
                     have HB := Lib.hid (HB.out.trans (hbwj.mono HB.out.size))
                     have HC := Lib.hid (HC.out.trans (hbwj.mono HC.out.size))
                     have T8 := Lib.hid (T8.out.below hbwj)
                     have T9 := Lib.hid tx9
                     clear hbwj H15b tx9)
                  | (go_at_call 15
                     refine (H15a.out wh HB.out HC.out).mono ?_
                     rintro e wi ⟨A8, c8, m8, rfl, tx8, hbwi⟩
                     have HB := Lib.hid (HB.out.trans (hbwi.mono HB.out.size))
                     have HC := Lib.hid (HC.out.trans (hbwi.mono HC.out.size))
                     have T8 := Lib.hid tx8
                     clear hbwi H15a tx8)
                  | (go_at_call 14
                     refine (H14b.out wg HB.out HC.out).mono ?_
                     rintro e wh ⟨rfl, hbwh⟩
                     have HB := Lib.hid (HB.out.trans (hbwh.mono HB.out.size))
                     have HC := Lib.hid (HC.out.trans (hbwh.mono HC.out.size))
                     clear hbwh H14b)
                  | (go_at_call 14
                     refine (H14a.out wf HB.out HC.out).mono ?_
                     rintro e wg ⟨rfl, hbwg⟩
                     have HB := Lib.hid (HB.out.trans (hbwg.mono HB.out.size))
                     have HC := Lib.hid (HC.out.trans (hbwg.mono HC.out.size))
                     clear hbwg H14a)
                  | (go_at_call 13
                     refine (H13b.out we HB.out HC.out).mono ?_
                     rintro e wf ⟨rfl, hbwf⟩
                     have HB := Lib.hid (HB.out.trans (hbwf.mono HB.out.size))
                     have HC := Lib.hid (HC.out.trans (hbwf.mono HC.out.size))
                     clear hbwf H13b)
                  | (go_at_call 13
                     refine (H13a.out wd HB.out HC.out).mono ?_
                     rintro e we ⟨rfl, hbwe⟩
                     have HB := Lib.hid (HB.out.trans (hbwe.mono HB.out.size))
                     have HC := Lib.hid (HC.out.trans (hbwe.mono HC.out.size))
                     clear hbwe H13a)
                  | (go_at_call 12
                     refine (H12b.out wc HB.out HC.out).mono ?_
                     rintro e wd ⟨rfl, hbwd⟩
                     have HB := Lib.hid (HB.out.trans (hbwd.mono HB.out.size))
                     have HC := Lib.hid (HC.out.trans (hbwd.mono HC.out.size))
                     clear hbwd H12b)
                  | (go_at_call 12
                     refine (H12a.out wb HB.out HC.out).mono ?_
                     rintro e wc ⟨rfl, hbwc⟩
                     have HB := Lib.hid (HB.out.trans (hbwc.mono HB.out.size))
                     have HC := Lib.hid (HC.out.trans (hbwc.mono HC.out.size))
                     clear hbwc H12a)
                  | (go_at_call 11
                     refine (H11.out wa HB.out HC.out).mono ?_
                     rintro e wb ⟨rfl, hbwb⟩
                     have HB := Lib.hid (HB.out.trans (hbwb.mono HB.out.size))
                     have HC := Lib.hid (HC.out.trans (hbwb.mono HC.out.size))
                     clear hbwb H11)
                  | (go_at_call 10
                     refine (H10.out wr HB.out HC.out).mono ?_
                     rintro e wa ⟨rfl, hbwa⟩
                     have HB := Lib.hid (HB.out.trans (hbwa.mono HB.out.size))
                     have HC := Lib.hid (HC.out.trans (hbwa.mono HC.out.size))
                     clear hbwa H10))
          exact ⟨⟨i + 1, by omega, by go_num, HB.out, HC.out⟩, by simp [intOf]; omega⟩
        · have ec : ((dat L).countP (hasH X) == 1) = false := by rw [beq_eq_false_iff_ne]; exact hc
          rw [ec] at h17
          have H17 := Lib.hid h17
          clear h17 ec hc hone2 hone hX0 hx0 hx32 hz3 hn3
          go_wp2_with (first
                  | (go_at_call 17
                     refine (H17.out wk HB.out HC.out).mono ?_
                     rintro e wl ⟨rfl, hbwl⟩
                     have HB := Lib.hid (HB.out.trans (hbwl.mono HB.out.size))
                     have HC := Lib.hid (HC.out.trans (hbwl.mono HC.out.size))
                     clear hbwl H17)
                  | (go_at_call 16
                     refine (sametx_any A8 c8 m8 A9 c9 m9 C wj T8.out T9.out (by have := T8.out.len; have := HCL.out; omega)).mono ?_
                     rintro e wk ⟨rfl, hbwk⟩
                     have HB := Lib.hid (HB.out.trans (hbwk.mono HB.out.size))
                     have HC := Lib.hid (HC.out.trans (hbwk.mono HC.out.size))
                     clear hbwk)
                  | (go_at_call 15
                     refine (H15b.out wi HB.out HC.out).mono ?_
                     rintro e wj ⟨A9, c9, m9, rfl, tx9, hbwj⟩
                     have HB := Lib.hid (HB.out.trans (hbwj.mono HB.out.size))
                     have HC := Lib.hid (HC.out.trans (hbwj.mono HC.out.size))
                     have T8 := Lib.hid (T8.out.below hbwj)
                     have T9 := Lib.hid tx9
                     clear hbwj H15b tx9)
                  | (go_at_call 15
                     refine (H15a.out wh HB.out HC.out).mono ?_
                     rintro e wi ⟨A8, c8, m8, rfl, tx8, hbwi⟩
                     have HB := Lib.hid (HB.out.trans (hbwi.mono HB.out.size))
                     have HC := Lib.hid (HC.out.trans (hbwi.mono HC.out.size))
                     have T8 := Lib.hid tx8
                     clear hbwi H15a tx8)
                  | (go_at_call 14
                     refine (H14b.out wg HB.out HC.out).mono ?_
                     rintro e wh ⟨rfl, hbwh⟩
                     have HB := Lib.hid (HB.out.trans (hbwh.mono HB.out.size))
                     have HC := Lib.hid (HC.out.trans (hbwh.mono HC.out.size))
                     clear hbwh H14b)
                  | (go_at_call 14
                     refine (H14a.out wf HB.out HC.out).mono ?_
                     rintro e wg ⟨rfl, hbwg⟩
                     have HB := Lib.hid (HB.out.trans (hbwg.mono HB.out.size))
                     have HC := Lib.hid (HC.out.trans (hbwg.mono HC.out.size))
                     clear hbwg H14a)
                  | (go_at_call 13
                     refine (H13b.out we HB.out HC.out).mono ?_
                     rintro e wf ⟨rfl, hbwf⟩
                     have HB := Lib.hid (HB.out.trans (hbwf.mono HB.out.size))
                     have HC := Lib.hid (HC.out.trans (hbwf.mono HC.out.size))
                     clear hbwf H13b)
                  | (go_at_call 13
                     refine (H13a.out wd HB.out HC.out).mono ?_
                     rintro e we ⟨rfl, hbwe⟩
                     have HB := Lib.hid (HB.out.trans (hbwe.mono HB.out.size))
                     have HC := Lib.hid (HC.out.trans (hbwe.mono HC.out.size))
                     clear hbwe H13a)
                  | (go_at_call 12
                     refine (H12b.out wc HB.out HC.out).mono ?_
                     rintro e wd ⟨rfl, hbwd⟩
                     have HB := Lib.hid (HB.out.trans (hbwd.mono HB.out.size))
                     have HC := Lib.hid (HC.out.trans (hbwd.mono HC.out.size))
                     clear hbwd H12b)
                  | (go_at_call 12
                     refine (H12a.out wb HB.out HC.out).mono ?_
                     rintro e wc ⟨rfl, hbwc⟩
                     have HB := Lib.hid (HB.out.trans (hbwc.mono HB.out.size))
                     have HC := Lib.hid (HC.out.trans (hbwc.mono HC.out.size))
                     clear hbwc H12a)
                  | (go_at_call 11
                     refine (H11.out wa HB.out HC.out).mono ?_
                     rintro e wb ⟨rfl, hbwb⟩
                     have HB := Lib.hid (HB.out.trans (hbwb.mono HB.out.size))
                     have HC := Lib.hid (HC.out.trans (hbwb.mono HC.out.size))
                     clear hbwb H11)
                  | (go_at_call 10
                     refine (H10.out wr HB.out HC.out).mono ?_
                     rintro e wa ⟨rfl, hbwa⟩
                     have HB := Lib.hid (HB.out.trans (hbwa.mono HB.out.size))
                     have HC := Lib.hid (HC.out.trans (hbwa.mono HC.out.size))
                     clear hbwa H10))
          exact ⟨⟨i + 1, by omega, by go_num, HB.out, HC.out⟩, by simp [intOf]; omega⟩
      · have eE0 : (E == 0) = false := by rw [beq_eq_false_iff_ne]; exact hE
        clear hE hone hX0 hz3 hn3
        go_wp2_with (first
                | (go_at_call 16
                   refine (sametx_any A8 c8 m8 A9 c9 m9 C wj T8.out T9.out (by have := T8.out.len; have := HCL.out; omega)).mono ?_
                   rintro e wk ⟨rfl, hbwk⟩
                   have HB := Lib.hid (HB.out.trans (hbwk.mono HB.out.size))
                   have HC := Lib.hid (HC.out.trans (hbwk.mono HC.out.size))
                   clear hbwk)
                | (go_at_call 15
                   refine (H15b.out wi HB.out HC.out).mono ?_
                   rintro e wj ⟨A9, c9, m9, rfl, tx9, hbwj⟩
                   have HB := Lib.hid (HB.out.trans (hbwj.mono HB.out.size))
                   have HC := Lib.hid (HC.out.trans (hbwj.mono HC.out.size))
                   have T8 := Lib.hid (T8.out.below hbwj)
                   have T9 := Lib.hid tx9
                   clear hbwj H15b tx9)
                | (go_at_call 15
                   refine (H15a.out wh HB.out HC.out).mono ?_
                   rintro e wi ⟨A8, c8, m8, rfl, tx8, hbwi⟩
                   have HB := Lib.hid (HB.out.trans (hbwi.mono HB.out.size))
                   have HC := Lib.hid (HC.out.trans (hbwi.mono HC.out.size))
                   have T8 := Lib.hid tx8
                   clear hbwi H15a tx8)
                | (go_at_call 14
                   refine (H14b.out wg HB.out HC.out).mono ?_
                   rintro e wh ⟨rfl, hbwh⟩
                   have HB := Lib.hid (HB.out.trans (hbwh.mono HB.out.size))
                   have HC := Lib.hid (HC.out.trans (hbwh.mono HC.out.size))
                   clear hbwh H14b)
                | (go_at_call 14
                   refine (H14a.out wf HB.out HC.out).mono ?_
                   rintro e wg ⟨rfl, hbwg⟩
                   have HB := Lib.hid (HB.out.trans (hbwg.mono HB.out.size))
                   have HC := Lib.hid (HC.out.trans (hbwg.mono HC.out.size))
                   clear hbwg H14a)
                | (go_at_call 13
                   refine (H13b.out we HB.out HC.out).mono ?_
                   rintro e wf ⟨rfl, hbwf⟩
                   have HB := Lib.hid (HB.out.trans (hbwf.mono HB.out.size))
                   have HC := Lib.hid (HC.out.trans (hbwf.mono HC.out.size))
                   clear hbwf H13b)
                | (go_at_call 13
                   refine (H13a.out wd HB.out HC.out).mono ?_
                   rintro e we ⟨rfl, hbwe⟩
                   have HB := Lib.hid (HB.out.trans (hbwe.mono HB.out.size))
                   have HC := Lib.hid (HC.out.trans (hbwe.mono HC.out.size))
                   clear hbwe H13a)
                | (go_at_call 12
                   refine (H12b.out wc HB.out HC.out).mono ?_
                   rintro e wd ⟨rfl, hbwd⟩
                   have HB := Lib.hid (HB.out.trans (hbwd.mono HB.out.size))
                   have HC := Lib.hid (HC.out.trans (hbwd.mono HC.out.size))
                   clear hbwd H12b)
                | (go_at_call 12
                   refine (H12a.out wb HB.out HC.out).mono ?_
                   rintro e wc ⟨rfl, hbwc⟩
                   have HB := Lib.hid (HB.out.trans (hbwc.mono HB.out.size))
                   have HC := Lib.hid (HC.out.trans (hbwc.mono HC.out.size))
                   clear hbwc H12a)
                | (go_at_call 11
                   refine (H11.out wa HB.out HC.out).mono ?_
                   rintro e wb ⟨rfl, hbwb⟩
                   have HB := Lib.hid (HB.out.trans (hbwb.mono HB.out.size))
                   have HC := Lib.hid (HC.out.trans (hbwb.mono HC.out.size))
                   clear hbwb H11)
                | (go_at_call 10
                   refine (H10.out wr HB.out HC.out).mono ?_
                   rintro e wa ⟨rfl, hbwa⟩
                   have HB := Lib.hid (HB.out.trans (hbwa.mono HB.out.size))
                   have HC := Lib.hid (HC.out.trans (hbwa.mono HC.out.size))
                   clear hbwa H10))
        exact ⟨⟨i + 1, by omega, by go_num, HB.out, HC.out⟩, by simp [intOf]; omega⟩
    · obtain rfl : m3 = i := by omega
      go_wp2_with fail
      go_ret
      exact ⟨rfl, HB2.out.trans (HB.out.mono hB2s)⟩
end Go.Proofs.YtmdnbajbfnhecaaGreatDoor
