/- The program's find: the contract. -/
import Derived.Test.YtmdnbajbfnhecaaDoorFAt
import Derived.Test.YtmdnbajbfnhecaaDoorShelf
import Derived.Deep.LoopGhost
import Derived.WalkMore
set_option linter.unusedVariables false
namespace Go.Proofs.YtmdnbajbfnhecaaDoor
open Go.RowKit
def optN (o : Option Nat) : Int := match o with
  | none => 0
  | some i => (i : Int)
theorem kid_no {l : List Nd} {a : Nat} {nm : List UInt8} (h : ∀ j, a < j → j < l.length → ¬ (parAt l j = (a : Int) ∧ nameAt l j = nm)) : kidF l a nm = none := by
  unfold kidF
  rw [List.find?_eq_none]
  intro j hj
  obtain ⟨h1, h2⟩ := mem_drop_range.mp hj
  have := h j (by omega) h2
  simpa using this
theorem kid_yes {l : List Nd} {a i : Nat} {nm : List UInt8} (h1 : a < i) (h2 : i < l.length) (h3 : parAt l i = (a : Int)) (h4 : nameAt l i = nm) (h : ∀ j, a < j → j < i → ¬ (parAt l j = (a : Int) ∧ nameAt l j = nm)) : kidF l a nm = some i := by
  unfold kidF
  rw [List.find?_eq_some_iff_getElem]
  refine ⟨by simp [h3, h4], i - (a + 1), by simp; omega, by simp; omega, fun j hj => ?_⟩
  simp only [List.getElem_drop, List.getElem_range]
  have := h (a + 1 + j) (by omega) (by omega)
  rw [Bool.not_eq_true', Bool.and_eq_false_iff]
  by_cases e : parAt l ((a + 1 + j : Nat) : Int) = (a : Int)
  · right
    simpa using fun e2 => this ⟨e, e2⟩
  · left
    simpa using e
theorem cut_front (s : ByteArray) (l : List Nd) : (Lib.hasPrefix s.data.toList [47] = false ∧ findL l s.data.toList = none) ∨ ∃ r : List UInt8, Lib.hasPrefix s.data.toList [47] = true ∧ Lib.trimPrefix s.data.toList [47] = r ∧ r.length + 1 = s.size ∧
    findL l s.data.toList = if r = [] then some 0 else walkF l 0 (splitL r) := by
  rcases hs : s.data.toList with _ | ⟨c, r⟩
  · exact .inl ⟨rfl, rfl⟩
  · by_cases hc : c = 47
    · subst hc
      right
      have h1 : Lib.hasPrefix (47 :: r) [47] = true := by unfold Lib.hasPrefix; simp
      refine ⟨r, h1, ?_, ?_, by show (if (47 : UInt8) = 47 then (if r = [] then some 0 else walkF l 0 (splitL r)) else none) = _; exact if_pos rfl⟩
      · unfold Lib.trimPrefix
        rw [if_pos h1]
        rfl
      · have : s.data.toList.length = s.size := by rw [Array.length_toList]; rfl
        rw [hs] at this
        simpa using this
    · left
      refine ⟨?_, by show (if c = 47 then _ else none) = none; rw [if_neg hc]⟩
      unfold Lib.hasPrefix
      simp only [List.isPrefixOf, Bool.and_true]
      simpa using fun e => hc e.symm
/-- The parts of a path, as the library cuts them. -/
def cutB (r : ByteArray) : List ByteArray := Lib.splitB ⟨#[47]⟩ 0 (Lib.countB r ⟨#[47]⟩) r
theorem cut_parts (r : ByteArray) : (cutB r).map (·.data.toList) = splitL r.data.toList := by
  unfold cutB
  rw [split_shelf, splitC_47]
theorem cut_len (r : ByteArray) : (cutB r).length = Lib.countB r ⟨#[47]⟩ + 1 := Lib.splitB_all ⟨#[47]⟩ (Nat.le_refl 1) 0 _ r rfl
theorem split_len : ∀ s : List UInt8, (splitL s).length ≤ s.length + 1
  | [] => Nat.le_refl _
  | c :: r => by
    have ih := split_len r
    rw [splitL]
    split
    · simp only [List.length_cons]; omega
    · split
      · simp
      · rename_i h t he
        rw [he] at ih
        simp only [List.length_cons] at ih ⊢
        omega
/-- A library's variable that holds some integer. -/
def Var0 (w : World) : Prop := ∃ m, w.cell? ⟨0, 0, none⟩ = some (.int .i64 m)
theorem Var0.below {w w' : World} {B : Nat} (h : Var0 w) (hb : Below B w w') (h0 : 0 < B) : Var0 w' := by
  obtain ⟨m, hm⟩ := h
  exact ⟨m, (hb.cell (p := ⟨0, 0, none⟩) h0).trans hm⟩
set_option maxRecDepth 100000 in
set_option maxHeartbeats 4000000 in
theorem find_any (A : Option Addr) (cap n : Nat) (l : List Nm) (hn : n = l.length) (hn5 : n ≤ 512) (h0 : 0 < n) (s : ByteArray) (hz : s.size ≤ 1048576) (w : World) (hv : Var0 w) (hw0 : 0 < w.heap.size) (B : Nat) (hB : B ≤ w.heap.size) (hs : Nodes w B A l) :
    Calls Tryd.prog 32 #[.slice A n cap, .string s] w fun e w' => e = .returned (.tuple #[.int .i64 (optN (findL (dat l) s.data.toList)), .bool (findL (dat l) s.data.toList).isSome]) ∧ Below w.heap.size w w' := by
  have hcp := Tryd.strings_CutPrefix s ⟨#[47]⟩ w
  rcases cut_front s (dat l) with ⟨h1, h2⟩ | ⟨r, h1, h2, h3, h4⟩
  · have h1' : Lib.hasPrefix s.data.toList (⟨#[47]⟩ : ByteArray).data.toList = false := h1
    rw [h1'] at hcp
    rw [h2]
    have HCP := Lib.hid hcp
    clear hcp h1 h1' h2 hs hn
    go_enter Tryd.func32, Tryd.ntmps32
    go_wp2_with fail
    go_step3
    go_wp2_with (first
      | (go_at_call 64; refine HCP.out.mono ?_; rintro e w1 ⟨rfl, rfl⟩))
    try rw [Exit.noGoto_ret]
    go_ret2
    exact ⟨rfl, Below.refl _ _⟩
  · have h1' : Lib.hasPrefix s.data.toList (⟨#[47]⟩ : ByteArray).data.toList = true := h1
    have h2' : Lib.trimPrefix s.data.toList (⟨#[47]⟩ : ByteArray).data.toList = r := h2
    rw [h1', h2'] at hcp
    rw [h4]
    clear h1 h1' h2 h2' h4
    obtain ⟨R, hR⟩ : ∃ R : ByteArray, R = ⟨r.toArray⟩ := ⟨_, rfl⟩
    have hRr : R.data.toList = r := by rw [hR]
    rw [← hR] at hcp
    by_cases hr0 : r = []
    · have hRe : R = ByteArray.empty := by rw [hR, hr0]; rfl
      rw [if_pos hr0]
      subst hRe
      have HCP := Lib.hid hcp
      clear hcp hs hn hRr hr0 hR h3
      go_enter Tryd.func32, Tryd.ntmps32
      go_wp2_with fail
      go_step3
      go_wp2_with (first
        | (go_at_call 64; refine HCP.out.mono ?_; rintro e w1 ⟨rfl, rfl⟩))
      try rw [Exit.noGoto_ret]
      go_ret2
      exact ⟨rfl, Below.refl _ _⟩
    · rw [if_neg hr0]
      have hne : R.toList.isEmpty = false := by
        rw [ByteArray.toList_eq, hRr]
        cases r with
        | nil => exact absurd rfl hr0
        | cons x y => rfl
      obtain ⟨mv, hmv⟩ := hv
      have hRz : R.size = r.length := by rw [hR]; simp [ByteArray.size]
      have hsp := Tryd.strings_Split R ⟨#[47]⟩ mv w (by omega) hmv (by show 1 ≤ 1; omega)
      have hcl := cut_len R
      have hcp2 := cut_parts R
      rw [hRr] at hcp2
      rw [show Lib.splitB ⟨#[47]⟩ 0 (Lib.countB R ⟨#[47]⟩) R = cutB R from rfl, ← hcl] at hsp
      rw [← hcp2]
      have hsl := split_len r
      rw [← hcp2, List.length_map] at hsl
      generalize cutB R = ps at *
      obtain ⟨K, hK⟩ : ∃ K, K = ps.length := ⟨_, rfl⟩
      rw [← hK] at hsp
      have hKz : K ≤ 1048577 := by omega
      obtain ⟨W, hW⟩ : ∃ W, W = walkF (dat l) 0 (ps.map (·.data.toList)) := ⟨_, rfl⟩
      rw [← hW]
      have HCP := Lib.hid hcp
      have HSP := Lib.hid hsp
      have HN := Lib.hid hn
      have HS := Lib.hid hs
      have HK := Lib.hid hK
      have HW := Lib.hid hW
      clear hcp hsp hn hs hK hW hmv hcl hcp2 hRr hR hr0 h3 hRz hsl
      obtain ⟨w2, hw2⟩ : ∃ w2, w2 = w.alloc (.cells (ps.map Value.string).toArray 9) := ⟨_, rfl⟩
      have hb2 : Below w.heap.size w w2 := by rw [hw2]; exact (Below.refl _ w).alloc (Nat.le_refl _) _
      have hpc : ∀ k (hk : k < ps.length), w2.cell? ⟨w.heap.size, k, none⟩ = some (.string ps[k]) := fun k hk => by
        rw [hw2, cell_of_row _ _ _ _ _ (0, 0) (heap_alloc_new w _)]
        simp [hk]
      have HB2 := Lib.hid hb2
      have HPC := Lib.hid hpc
      have HW2 := Lib.hid hw2
      clear hb2 hpc hw2
      go_enter Tryd.func32, Tryd.ntmps32
      go_wp2_with fail
      go_step3
      go_wp2_with (first
        | (go_at_call 64; refine HCP.out.mono ?_; rintro e w1 ⟨rfl, rfl⟩))
      go_step3
      go_wp2_with (first
        | (go_at_call 65; refine HSP.out.mono ?_; rintro e w1 ⟨rfl, rfl⟩; rw [← HW2.out]))
      go_loopg [8, 25] K (fun gi av kv wx => ∃ (a k : Nat), av = .int .i64 a ∧ kv = .int .i64 k ∧ a < n ∧ k ≤ K ∧ walkF (dat l) a ((ps.drop k).map (·.data.toList)) = W ∧ K - k ≤ gi ∧ wx = w2)
      case atStart => exact ⟨0, 0, rfl, rfl, h0, by omega, by rw [List.drop_zero]; exact HW.out.symm, by omega, rfl⟩
      case round =>
        obtain ⟨a, k, rfl, rfl, ha, hk, hwk, hgk, rfl⟩ := hrel
        by_cases hlt : k < K
        · have hkp : k < ps.length := by rw [← HK.out]; exact hlt
          have hki : (k : Int) < (K : Int) := by omega
          have y0 := HPC.out k hkp
          have hdr : ps.drop k = ps[k] :: ps.drop (k + 1) := List.drop_eq_getElem_cons hkp
          rw [hdr, List.map_cons, walkF] at hwk
          obtain ⟨nm, hnm⟩ : ∃ nm, nm = ps[k] := ⟨_, rfl⟩
          rw [← hnm] at y0 hwk
          have hkno := fun h => kid_no (l := dat l) (a := a) (nm := nm.data.toList) h
          have hkyes := fun i h1 h2 h3 h4 h => kid_yes (l := dat l) (a := a) (i := i) (nm := nm.data.toList) h1 h2 h3 h4 h
          generalize kidF (dat l) a nm.data.toList = kf at *
          have HWK := Lib.hid hwk
          have HKN := Lib.hid hkno
          have HKY := Lib.hid hkyes
          clear hdr hnm hwk hkno hkyes
          go_wp2_with fail
          obtain ⟨w3, hw3⟩ : ∃ w3 : World, w3 = wr := ⟨_, rfl⟩
          go_loopg [8, 11] n (fun gi av iv wx => ∃ i : Nat, av = .int .i64 a ∧ iv = .int .i64 i ∧ a < i ∧ i ≤ n ∧ (∀ j, a < j → j < i → ¬ (parAt (dat l) j = (a : Int) ∧ nameAt (dat l) j = nm.data.toList)) ∧ n - i ≤ gi ∧ wx = w3)
          case atStart => exact ⟨a + 1, rfl, by go_num, by omega, by omega, fun j h1 h2 => by omega, by omega, hw3.symm⟩
          case round =>
            subst hw3
            obtain ⟨i, rfl, rfl, hai, hin, hno, hgi, rfl⟩ := hrel
            have HNO := Lib.hid hno
            clear hno
            by_cases hilt : i < n
            · have hil : i < l.length := by rw [← HN.out]; exact hilt
              have hii : (i : Int) < (n : Int) := by omega
              obtain ⟨b, off, eA, _, x0, x1, _, _⟩ := (HS.out.below (HB2.out.mono hB)).at_ hil
              subst eA
              have hpar : parAt (dat l) i = l[i].d.p := by
                unfold parAt
                rw [Int.toNat_natCast, List.getElem?_eq_getElem (by rw [dat_len]; exact hil)]
                simp only [dat_get l hil]
              have hnam := nameAt_dat hil
              generalize l[i].d.p = P at *
              generalize l[i].d.n = xn at *
              have HPAR := Lib.hid hpar
              have HNAM := Lib.hid hnam
              clear hpar hnam
              by_cases hp : P = (a : Int)
              · by_cases hx : xn = nm
                · have hkf := HKY.out i hai (by rw [dat_len]; exact hil) (by rw [HPAR.out, hp]) (by rw [HNAM.out, hx]) HNO.out
                  have hwk := HWK.out
                  rw [hkf] at hwk
                  subst hp hx
                  have HWK2 := Lib.hid hwk
                  clear hkf hwk HKY HKN HWK
                  go_wp2_with fail
                  go_roundg (K - (k + 1))
                  case measure => omega
                  case rel => exact ⟨i, k + 1, rfl, by go_num, hilt, by omega, HWK2.out, by omega, rfl⟩
                · have hx1 := str_ne hx
                  subst hp
                  have hno2 : ∀ j, a < j → j < i + 1 → ¬ (parAt (dat l) j = (a : Int) ∧ nameAt (dat l) j = nm.data.toList) := fun j h1 h2 => by
                    by_cases e : j = i
                    · subst e
                      rintro ⟨_, h4⟩
                      rw [HNAM.out] at h4
                      exact hx (bytes_eq h4)
                    · exact HNO.out j h1 (by omega)
                  have HNO2 := Lib.hid hno2
                  clear hx hno2
                  go_wp2_with fail
                  go_roundg (n - (i + 1))
                  case measure => omega
                  case rel => exact ⟨i + 1, rfl, by go_num, by omega, by omega, HNO2.out, by omega, rfl⟩
              · have hp1 : (P == (a : Int)) = false := by simpa using hp
                have hno2 : ∀ j, a < j → j < i + 1 → ¬ (parAt (dat l) j = (a : Int) ∧ nameAt (dat l) j = nm.data.toList) := fun j h1 h2 => by
                  by_cases e : j = i
                  · subst e
                    rintro ⟨h3, _⟩
                    rw [HPAR.out] at h3
                    exact hp h3
                  · exact HNO.out j h1 (by omega)
                have HNO2 := Lib.hid hno2
                clear hp hno2
                go_wp2_with fail
                go_roundg (n - (i + 1))
                case measure => omega
                case rel => exact ⟨i + 1, rfl, by go_num, by omega, by omega, HNO2.out, by omega, rfl⟩
            · obtain rfl : i = n := by omega
              have hf0 : ¬ (i : Int) < (i : Int) := by omega
              have hkf := HKN.out fun j h1 h2 => HNO.out j h1 (by rw [HN.out, ← dat_len]; exact h2)
              have hwk := HWK.out
              rw [hkf] at hwk
              subst hwk
              go_wp2_with fail
              try rw [Exit.noGoto_ret]
              go_ret2
              exact ⟨rfl, HB2.out⟩
        · obtain rfl : k = K := by omega
          have hf0 : ¬ (k : Int) < (k : Int) := by omega
          rw [List.drop_of_length_le (by rw [HK.out]; exact Nat.le_refl _)] at hwk
          have hW2 : W = some a := hwk.symm
          subst hW2
          go_wp2_with fail
          try rw [Exit.noGoto_ret]
          go_ret2
          exact ⟨rfl, HB2.out⟩
end Go.Proofs.YtmdnbajbfnhecaaDoor
