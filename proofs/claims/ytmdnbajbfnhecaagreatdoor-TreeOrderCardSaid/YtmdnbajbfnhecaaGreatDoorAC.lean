/- A node's path: the contracts. Path, Depth and End: the contracts of both sides. A node's kids: the contracts of both sides. A node's props asked: value, handle, whether it is on, plain: the contracts of both sides. A place's props asked: the contracts of both sides. What a node says that it is; lists compared: the contracts. -/
import Derived.Test.YtmdnbajbfnhecaaGreatDoorFText
import Derived.Test.YtmdnbajbfnhecaaGreatDoorPlace
import Derived.Test.YtmdnbajbfnhecaaGreatDoorFPre
import Derived.Laws.IdiomCopy
import Derived.Lib.RowBridge
import Derived.Test.YtmdnbajbfnhecaaGreatDoorSortLaw
import Derived.Test.YtmdnbajbfnhecaaGreatDoorFTop2
set_option linter.unusedVariables false
namespace Go.Proofs.YtmdnbajbfnhecaaGreatDoor
open Go.RowKit Go.Lib Go.Sort
def strV (xs : List ByteArray) : List Value := xs.map .string
theorem below_cells {B b : Nat} {a : World} (hb : B ≤ b) : ∀ (vs : List Value) (o : Nat) (w : World), Below B a w → Below B a (w.setCells b o vs)
  | [], _, _, h => h
  | v :: r, o, w, h => below_cells hb r (o + 1) _ (h.setCell hb v)
theorem size_cells (b : Nat) : ∀ (vs : List Value) (o : Nat) (w : World), w.heap.size ≤ (w.setCells b o vs).heap.size
  | [], _, _ => Nat.le_refl _
  | v :: r, o, w => Nat.le_trans (by simp [World.setCell]) (size_cells b r (o + 1) _)
theorem bytes_back (x : ByteArray) : (⟨x.data.toList.toArray⟩ : ByteArray) = x := bytes_eq (by simp)
/-- slices.Reverse over a row of texts of the call's own. -/
theorem rev_strs (base : Nat) (A : Option Addr) (c m : Nat) (xs : List ByteArray) (hm : m = xs.length) (w : World) (hb : base ≤ w.heap.size) (h : w.ownsRow base 9 1 (.slice A m c) m (strV xs)) :
    Calls Tryz.prog 55 #[.slice A m c] w fun e w' => e = .returned (.tuple #[]) ∧ Seg w' w'.heap.size A (strV xs.reverse) ∧ Below base w w' := by
  subst hm
  rcases Nat.eq_zero_or_pos xs.length with h0 | h0
  · obtain rfl : xs = [] := List.eq_nil_of_length_eq_zero h0
    exact (Tryz.slices_Reverse_string_empty A c w).mono fun e w' hh => ⟨hh.1, Seg.nil, by rw [hh.2]; exact Below.refl _ _⟩
  · obtain ⟨g, rfl, hg1, hg2, hr⟩ := RowAt.of_own h h0
    have hlen : (strV xs).length = xs.length := by unfold strV; simp
    have hbig : xs.length ≤ 9223372036854775807 := by
      rcases h.2 with ⟨_, h⟩ | ⟨g, cap, cur, hv, h1, h2, h3, h4, _⟩
      · omega
      · unfold maxLen at h4; omega
    have hcell : ∀ j (hj : j < xs.length), w.cell? ⟨g, 0 + j, none⟩ = some (.string xs[j]) := fun j hj => by
      rw [Nat.zero_add, hr.cell (by rw [hlen]; exact hj)]
      unfold strV
      rw [List.getElem?_map, List.getElem?_eq_getElem hj]
      rfl
    have hH : Holds encStr w g 0 (xs.map (·.data.toList)).toArray := fun j hj => by
      have hj2 : j < xs.length := by simpa using hj
      refine ⟨?_, by rw [Nat.zero_add]; exact hr.frozen _⟩
      rw [hcell j hj2, getElem!_pos _ j hj]
      simp [encStr]
    have hl : (xs.map (·.data.toList)).length = xs.length := by simp
    have hc := Tryz.slices_Reverse_string g 0 c (xs.map (·.data.toList)) w hH (by rw [hl]; exact hbig)
    rw [hl] at hc
    refine hc.mono fun e w' hh => ?_
    obtain ⟨rfl, q, rfl⟩ := hh
    rw [Lib.putRow_eq_setCells _ w g 0 _ _ q hH (by simp)]
    have hl2 : (xs.map (·.data.toList)).reverse.map encStr = strV xs.reverse := by
      rw [← List.map_reverse, List.map_map]
      unfold strV
      refine List.map_congr_left fun x hx => ?_
      simp [encStr]
    rw [hl2]
    have hl3 : (strV xs.reverse).length = xs.length := by unfold strV; simp
    refine ⟨rfl, fun _ => ⟨g, 0, rfl, ?_, fun j u hu => ?_⟩, below_cells hg1 _ _ _ (below_drewN (Below.refl _ _) q)⟩
    · exact Nat.lt_of_lt_of_le hg2 (size_cells g (strV xs.reverse) 0 (w.drewN q))
    · have hj : j < (strV xs.reverse).length := (List.getElem?_eq_some_iff.1 hu).1
      rw [World.cell?_setCells_in g (strV xs.reverse) 0 (w.drewN q) (fun j hj => by
        have := hcell j (by omega)
        have h2 : (w.drewN q).cell? ⟨g, 0 + j, none⟩ = some _ := this
        rw [h2]; rfl) j hj]
      rw [← hu, List.getElem?_eq_getElem hj]
theorem join_len : ∀ (xs : List (List UInt8)), (∀ x ∈ xs, x.length ≤ 31) → (Lib.join xs [47]).length ≤ xs.length * 32
  | [], _ => by simp [Lib.join]
  | x :: r, h => by
    have h1 := join_strokes (x :: r) (by simp)
    have h2 := strokes_len (x :: r) 31 h
    have h3 := congrArg List.length h1
    rw [List.length_cons] at h3
    omega
theorem join_seg (A : Option Addr) (c : Nat) (xs : List ByteArray) (h0 : 0 < xs.length) (h5 : xs.length ≤ 512) (hc : xs.length ≤ c) (hz : ∀ x ∈ xs, x.data.toList.length ≤ 31) (w : World) (hs : Seg w w.heap.size A (strV xs)) :
    Calls Tryz.prog 56 #[.slice A xs.length c, .string ⟨#[47]⟩] w fun e w' => e = .returned (.string ⟨(Lib.join (xs.map (·.data.toList)) [47]).toArray⟩) ∧ Below w.heap.size w w' := by
  obtain ⟨b, off, rfl, hb, hcell⟩ := hs (by unfold strV; intro e; simp at e; subst e; simp at h0)
  have hl := join_len (xs.map (·.data.toList)) (fun x hx => by obtain ⟨y, hy, rfl⟩ := List.mem_map.1 hx; exact hz y hy)
  rw [List.length_map] at hl
  exact Tryz.strings_Join b off c xs ⟨#[47]⟩ w (fun j x hx => hcell j _ (by unfold strV; rw [List.getElem?_map, hx]; rfl)) hb (by omega) hc (by show (Lib.join _ [47]).length ≤ _; omega)
/-- A path as a text. -/
def pathB (l : List Nd) (i : Nat) : ByteArray := ⟨(pathL l i).toArray⟩
theorem path_bytes {l : List Nd} {i : Nat} {s : ByteArray} (h : s.data.toList = pathL l i) : s = pathB l i := bytes_eq (by rw [h]; rfl)
theorem up_zero (l : List Nd) (f : Nat) : upG l f 0 = [] := by cases f <;> rfl
theorem up_step (l : List Nd) {f i : Nat} (hf : 0 < f) (h0 : 0 < i) : upG l f i = nameAt l i :: upG l (f - 1) (parM l i) := by
  obtain ⟨f, rfl⟩ : ∃ g, f = g + 1 := ⟨f - 1, by omega⟩
  rw [upG, if_neg (by omega)]
  rfl
theorem up_len (l : List Nd) (f i : Nat) : (upG l f i).length ≤ f := by
  have := segG_len l f i
  rw [← up_seg] at this
  simpa using this
theorem name_at (l : List Nm) {k : Nat} (hk : k < l.length) : nameAt (dat l) k = l[k].d.n.data.toList := nameAt_dat hk
theorem up_names {l : List Nd} (hf : Fine l l.length) : ∀ (f i : Nat), i < l.length → ∀ x ∈ upG l f i, x.length ≤ 31
  | 0, _, _, x, hx => by simp [upG] at hx
  | f + 1, i, hi, x, hx => by
    rw [upG] at hx
    split at hx
    · simp at hx
    · rename_i h0
      rcases List.mem_cons.1 hx with rfl | hx
      · exact fine_name hf hi
      · have := (fine_tr hf).par (i := i) (by omega) hi
        exact up_names hf f (parM l i) (by omega) x hx
set_option maxRecDepth 100000 in
set_option maxHeartbeats 4000000 in
theorem ppath0_any (A : Option Addr) (cap n : Nat) (l : List Nm) (hn : n = l.length) (hn5 : n ≤ 512) (hf : Fine (dat l) (dat l).length) (i : Nat) (hi : i < n) (w : World) (B : Nat) (hB : B ≤ w.heap.size) (hs : Nodes w B A l) :
    Calls Tryz.prog 35 #[.slice A n cap, .int .i64 i] w fun e w' => e = .returned (.string (pathB (dat l) i)) ∧ Below w.heap.size w w' := by
  by_cases h0 : i = 0
  · subst h0
    clear hf hs
    go_enter Tryz.func35, Tryz.ntmps35
    go_wp2_with fail
    go_ret
    exact ⟨rfl, Below.refl _ _⟩
  have hip : 0 < i := by omega
  have hdl : (dat l).length = n := by rw [dat_len, hn]
  have ht := fine_tr hf
  obtain ⟨U, hU⟩ : ∃ U, U = upG (dat l) i i := ⟨_, rfl⟩
  have hpj := path_join ht hip (by rw [hdl]; exact hi)
  have hUl := up_len (dat l) i i
  have hUn := up_names hf i i (by rw [hdl]; exact hi)
  rw [← hU] at hpj hUl hUn
  obtain ⟨i0, fi, fz0, fz1, fz2⟩ := info_parts info9
  have HN := Lib.hid hn
  have HS := Lib.hid hs
  have HT := Lib.hid ht
  have HPJ := Lib.hid hpj
  have HUN := Lib.hid hUn
  have HU := Lib.hid hU
  have HDL := Lib.hid hdl
  have hi0 : ((i : Int) == 0) = false := by simpa using h0
  clear hn hs ht hpj hUn hU hf hdl
  go_enter Tryz.func35, Tryz.ntmps35
  go_wp2_with fail
  go_loopw [1, 5] (fun kv sv wx => ∃ (k f c : Nat) (A' : Option Addr) (xs : List ByteArray), k ≤ i ∧ k ≤ f ∧ kv = .int .i64 k ∧ sv = .slice A' xs.length c ∧ xs.map (·.data.toList) ++ upG (dat l) f k = U ∧ wx.ownsRow w.heap.size 9 1 (.slice A' xs.length c) xs.length (strV xs) ∧ Below w.heap.size w wx) (fun kv _ _ => (RowKit.intOf kv).toNat)
  case atStart => exact ⟨i, i, 0, none, [], Nat.le_refl _, Nat.le_refl _, rfl, rfl, by rw [HU.out]; rfl, World.ownsRow_nil _ _ _ _, Below.refl _ _⟩
  case round =>
    obtain ⟨k, f, c, A', xs, hk1, hk2, rfl, rfl, hx, hown, hb⟩ := hrel
    have hxl : xs.length ≤ i := by have := congrArg List.length hx; rw [List.length_append, List.length_map] at this; omega
    have HX := Lib.hid hx
    have HO := Lib.hid hown
    have HB := Lib.hid hb
    obtain ⟨m, hm⟩ : ∃ m, m = xs.length := ⟨_, rfl⟩
    have HM := Lib.hid hm
    by_cases hk0 : 0 < k
    · have hkl : k < l.length := by rw [← HN.out]; omega
      have hki : (k : Int) < (n : Int) := by omega
      have hk0i : (0 : Int) < (k : Int) := by omega
      obtain ⟨b, off, eA, hbB, x0, x1, _, _⟩ := (HS.out.below (hb.mono hB)).at_ hkl
      subst eA
      have hpar := HT.out.par hk0 (by rw [HDL.out]; omega)
      have hpg := par_get l hkl
      rw [hpar.2] at hpg
      rw [← hpg] at x0
      have hup := up_step (dat l) (f := f) (by omega) hk0
      rw [name_at l hkl] at hup
      obtain ⟨nm, hnm⟩ : ∃ nm, nm = l[k].d.n := ⟨_, rfl⟩
      rw [← hnm] at x1 hup
      have hpl := hpar.1
      have HPG := Lib.hid hpg.symm
      generalize parM (dat l) k = p at *
      have HUP := Lib.hid hup
      have hbw := hb.size
      rw [← hm] at hown
      have HO := Lib.hid hown
      rw [← hm] at hxl
      rw [← hm]
      clear hx hown hb hpar hpg hnm hup hm
      go_wp2_with (first
        | (at_builtin; refine wpList_push rfl (.tmp 15) (.tmp 21) 39 rfl w.heap.size 9 i0 _ 1 16 Tryz.underlying39 fi fz0 fz1 fz2 rfl (by decide) _ m (strV xs) rfl HO.out #[.string nm] rfl rfl ?_ ?_ ?_ ?_ ?_))
      · first | rfl | (intro u hu; simp at hu; subst hu; rfl)
      · unfold maxLen; omega
      · omega
      · exact hbw
      intro A5 c5 w5 hown5 hp5
      have ho : w5.ownsRow w.heap.size 9 1 (.slice A5 (xs ++ [nm]).length c5) (xs ++ [nm]).length (strV (xs ++ [nm])) := by
        have e1 : (xs ++ [nm]).length = m + 1 := by rw [List.length_append, ← HM.out]; rfl
        rw [e1]
        have : strV (xs ++ [nm]) = strV xs ++ [.string nm] := by unfold strV; simp
        rw [this]
        simpa using hown5
      have hsm : m + 1 = (xs ++ [nm]).length := by rw [List.length_append, ← HM.out]; rfl
      have HO5 := Lib.hid ho
      have HB5 := Lib.hid (HB.out.trans hp5.low)
      have hx2 : (xs ++ [nm]).map (·.data.toList) ++ upG (dat l) (f - 1) p = U := by
        rw [← HX.out, HUP.out]; simp
      have HX2 := Lib.hid hx2
      obtain ⟨b', off', eA, _, y0, _⟩ := (HS.out.below (HB5.out.mono hB)).at_ hkl
      injection eA with eA
      injection eA with e1 e2 e3
      subst e1; subst e2
      rw [HPG.out] at y0
      have HSM := Lib.hid hsm
      clear hown5 hp5 ho hx2 hsm
      go_wp2_with fail
      refine ⟨⟨p, f - 1, c5, A5, xs ++ [nm], by omega, by omega, rfl, by rw [HSM.out], HX2.out, HO5.out, HB5.out⟩, by simp [RowKit.intOf]; omega⟩
    · obtain rfl : k = 0 := by omega
      rw [up_zero, List.append_nil] at hx
      have hpos : 0 < xs.length := by
        rcases Nat.eq_zero_or_pos xs.length with h | h
        · obtain rfl : xs = [] := List.eq_nil_of_length_eq_zero h
          exfalso
          have := HU.out
          rw [← hx, up_step _ hip hip] at this
          simp at this
        · exact h
      have hcc : xs.length ≤ c := by
        rcases hown.2 with ⟨h, _⟩ | ⟨g, cap', cur, hv, h1, h2, h3, h4, _⟩
        · injection h; omega
        · injection hv with _ _ h; omega
      have hsz : ∀ x ∈ xs.reverse, x.data.toList.length ≤ 31 := fun x hx' => HUN.out _ (by rw [← hx]; exact List.mem_map_of_mem (List.mem_reverse.1 hx'))
      have hrev := rev_strs w.heap.size A' c m xs hm wr hb.size (by rw [hm]; exact hown)
      have hjn : ∀ w1, Seg w1 w1.heap.size A' (strV xs.reverse) → Calls Tryz.prog 56 #[.slice A' m c, .string ⟨#[47]⟩] w1 fun e w' => e = .returned (.string ⟨(Lib.join (xs.reverse.map (·.data.toList)) [47]).toArray⟩) ∧ Below w1.heap.size w1 w' := fun w1 hs1 => by
        rw [hm, show xs.length = xs.reverse.length by simp]
        exact join_seg A' c xs.reverse (by simpa using hpos) (by simp; omega) (by simpa using hcc) hsz w1 hs1
      have hfin : (⟨#[47]⟩ : ByteArray) ++ ⟨(Lib.join (xs.reverse.map (·.data.toList)) [47]).toArray⟩ = pathB (dat l) i := by
        refine bytes_eq ?_
        rw [List.map_reverse, hx]
        have e : (pathB (dat l) i).data.toList = pathL (dat l) i := rfl
        rw [e, ← HPJ.out]
        simp [ByteArray.data_append]
      have hJz : (⟨(Lib.join (xs.reverse.map (·.data.toList)) [47]).toArray⟩ : ByteArray).size ≤ 16384 := by
        have hl := join_len (xs.reverse.map (·.data.toList)) (fun x hx => by obtain ⟨y, hy, rfl⟩ := List.mem_map.1 hx; exact hsz y hy)
        rw [List.length_map, List.length_reverse] at hl
        show (Lib.join _ [47]).length ≤ _
        omega
      rw [← hm]
      generalize (⟨(Lib.join (xs.reverse.map (·.data.toList)) [47]).toArray⟩ : ByteArray) = J at *
      have HJ := Lib.hid hjn
      have HR := Lib.hid hrev
      have HFIN := Lib.hid hfin
      clear hx hown hb hm hxl hjn hrev hfin hsz HUN hpos hcc
      go_wp2_with (first
        | (go_at_call 55; refine HR.out.mono ?_; rintro e w1 ⟨rfl, hsg, hb1⟩; have HSG := Lib.hid hsg; have HB1 := Lib.hid (HB.out.trans hb1); clear hsg hb1)
        | (go_at_call 56; refine (HJ.out w1 HSG.out).mono ?_; rintro e w2 ⟨rfl, hb2⟩; have HB2 := Lib.hid (below_next HB1.out hb2); clear hb2))
      go_ret
      exact ⟨by rw [← HFIN.out]; rfl, HB2.out⟩
end Go.Proofs.YtmdnbajbfnhecaaGreatDoor

set_option linter.unusedVariables false
namespace Go.Proofs.YtmdnbajbfnhecaaGreatDoor
open Go.RowKit
def pathS (l : List Nd) (i : Int) : ByteArray := if wrongF l i = 0 then pathB l i.toNat else ByteArray.empty
def depthI (l : List Nd) (i : Int) : Int := if wrongF l i = 0 then ((above l i).length : Nat) else 0
/-- Where what is beneath a node ends. -/
noncomputable def endN (l : List Nd) (i : Nat) : Nat := if h : i < l.length then (end_exists l h).choose else 0
theorem endN_at {l : List Nd} {i : Nat} (h : i < l.length) : EndAt l i (endN l i) := by
  unfold endN
  rw [dif_pos h]
  exact (end_exists l h).choose_spec
noncomputable def endI (l : List Nd) (i : Int) : Int := if wrongF l i = 0 then (endN l i.toNat : Nat) else 0
set_option maxRecDepth 100000 in
set_option maxHeartbeats 2000000 in
theorem ppath_any (A : Option Addr) (cap n : Nat) (l : List Nm) (hn : n = l.length) (hz : Sized l) (i : Int) (w : World) (B : Nat) (hB : B ≤ w.heap.size) (hs : Nodes w B A l) :
    Calls Tryz.prog 10 #[.slice A n cap, .int .i64 i] w fun e w' => e = .returned (.tuple #[.string (pathS (dat l) i), .int .i64 (wrongF (dat l) i)]) ∧ Below w.heap.size w w' := by
  have hp := place_any A cap n l hn hz i w B hB hs
  by_cases h0 : wrongF (dat l) i = 0
  · obtain ⟨hf, h5, k, rfl, hk⟩ := wrong_zero h0
    have hkd := hk
    rw [dat_len, ← hn] at h5 hk
    have e0 : pathS (dat l) (k : Int) = pathB (dat l) k := by unfold pathS; rw [if_pos h0]; rfl
    rw [e0, h0]
    rw [h0] at hp
    have hin : ∀ w1, Below w.heap.size w w1 → Calls Tryz.prog 35 #[.slice A n cap, .int .i64 (k : Int)] w1 fun e w' => e = .returned (.string (pathB (dat l) k)) ∧ Below w1.heap.size w1 w' := fun w1 hb => ppath0_any A cap n l hn h5 hf k hk w1 B (Nat.le_trans hB hb.size) (hs.below (hb.mono hB))
    generalize pathB (dat l) k = V at *
    have HP := Lib.hid hp
    have HIN := Lib.hid hin
    clear hp hin hn hs hz hf h0 e0
    go_enter Tryz.func10, Tryz.ntmps10
    go_wp2_with (first
      | (go_at_call 34; refine HP.out.mono ?_; rintro e w1 ⟨rfl, hb1⟩; have HB1 := Lib.hid hb1; clear hb1)
      | (go_at_call 35; refine (HIN.out w1 HB1.out).mono ?_; rintro e w2 ⟨rfl, hb2⟩; have HB2 := Lib.hid (below_next HB1.out hb2); clear hb2))
    go_ret2
    exact ⟨rfl, HB2.out⟩
  · have e0 : pathS (dat l) i = ByteArray.empty := by unfold pathS; rw [if_neg h0]
    rw [e0]
    generalize wrongF (dat l) i = E at *
    have hE : (E != 0) = true := by simpa using h0
    have HP := Lib.hid hp
    clear hp hn hs hz e0
    go_enter Tryz.func10, Tryz.ntmps10
    go_wp2_with (first
      | (go_at_call 34; refine HP.out.mono ?_; rintro e w1 ⟨rfl, hb1⟩; have HB1 := Lib.hid hb1; clear hb1))
    go_ret2
    exact ⟨rfl, HB1.out⟩
set_option maxRecDepth 100000 in
set_option maxHeartbeats 2000000 in
theorem pend_any (A : Option Addr) (cap n : Nat) (l : List Nm) (hn : n = l.length) (hz : Sized l) (i : Int) (w : World) (B : Nat) (hB : B ≤ w.heap.size) (hs : Nodes w B A l) :
    Calls Tryz.prog 20 #[.slice A n cap, .int .i64 i] w fun e w' => e = .returned (.tuple #[.int .i64 (endI (dat l) i), .int .i64 (wrongF (dat l) i)]) ∧ Below w.heap.size w w' := by
  have hp := place_any A cap n l hn hz i w B hB hs
  by_cases h0 : wrongF (dat l) i = 0
  · obtain ⟨hf, h5, k, rfl, hk⟩ := wrong_zero h0
    have hkd := hk
    rw [dat_len, ← hn] at h5 hk
    have e0 : endI (dat l) (k : Int) = ((endN (dat l) k : Nat) : Int) := by unfold endI; rw [if_pos h0]; rfl
    rw [e0, h0]
    rw [h0] at hp
    have hin : ∀ w1, Below w.heap.size w w1 → Calls Tryz.prog 42 #[.slice A n cap, .int .i64 (k : Int)] w1 fun e w' => e = .returned (.int .i64 (((endN (dat l) k : Nat) : Int))) ∧ Below w1.heap.size w1 w' := fun w1 hb => end_any A cap n l hn h5 k _ (endN_at hkd) w1 B (Nat.le_trans hB hb.size) (hs.below (hb.mono hB))
    generalize ((endN (dat l) k : Nat) : Int) = V at *
    have HP := Lib.hid hp
    have HIN := Lib.hid hin
    clear hp hin hn hs hz hf h0 e0
    go_enter Tryz.func20, Tryz.ntmps20
    go_wp2_with (first
      | (go_at_call 34; refine HP.out.mono ?_; rintro e w1 ⟨rfl, hb1⟩; have HB1 := Lib.hid hb1; clear hb1)
      | (go_at_call 42; refine (HIN.out w1 HB1.out).mono ?_; rintro e w2 ⟨rfl, hb2⟩; have HB2 := Lib.hid (below_next HB1.out hb2); clear hb2))
    go_ret2
    exact ⟨rfl, HB2.out⟩
  · have e0 : endI (dat l) i = 0 := by unfold endI; rw [if_neg h0]
    rw [e0]
    generalize wrongF (dat l) i = E at *
    have hE : (E != 0) = true := by simpa using h0
    have HP := Lib.hid hp
    clear hp hn hs hz e0
    go_enter Tryz.func20, Tryz.ntmps20
    go_wp2_with (first
      | (go_at_call 34; refine HP.out.mono ?_; rintro e w1 ⟨rfl, hb1⟩; have HB1 := Lib.hid hb1; clear hb1))
    go_ret2
    exact ⟨rfl, HB1.out⟩
theorem above_down {l : List Nd} (hf : Fine l l.length) {k : Nat} (hk : k < l.length) : (above l k).length = (above l (parAt l k)).length + 1 := by
  rw [above_step hf (Nat.le_refl _) hk]; rfl
end Go.Proofs.YtmdnbajbfnhecaaGreatDoor

set_option linter.unusedVariables false
namespace Go.Proofs.YtmdnbajbfnhecaaGreatDoor
open Go.RowKit
def natsV (l : List Nat) : List Value := l.map fun (k : Nat) => .int .i64 (k : Int)
def kidsU (l : List Nd) (i k : Nat) : List Nat := ((List.range k).drop (i + 1)).filter fun (j : Nat) => parAt l j == (i : Int)
theorem kidsU_start (l : List Nd) (i : Nat) : kidsU l i (i + 1) = [] := by
  unfold kidsU
  rw [List.drop_of_length_le (by simp)]
  rfl
theorem kidsU_step (l : List Nd) (i k : Nat) (h : i + 1 ≤ k) : kidsU l i (k + 1) = if parAt l k = (i : Int) then kidsU l i k ++ [k] else kidsU l i k := by
  unfold kidsU
  rw [List.range_succ, List.drop_append_of_le_length (by simpa using h), List.filter_append]
  by_cases hp : parAt l k = (i : Int)
  · rw [if_pos hp]; simp [hp]
  · rw [if_neg hp]; simp [hp]
theorem kidsU_len (l : List Nd) (i k : Nat) : (kidsU l i k).length ≤ k := by
  unfold kidsU
  refine Nat.le_trans (List.length_filter_le ..) ?_
  rw [List.length_drop, List.length_range]
  omega
/-- A node's kids, if it is one. -/
def kidsV (l : List Nd) (i : Int) : List Nat := if wrongF l i = 0 then kidsN l i.toNat else []
theorem kidsN_le {l : List Nm} {i : Nat} : (kidsN (dat l) i).length ≤ l.length := by
  unfold kidsN
  refine Nat.le_trans (List.length_filter_le ..) ?_
  rw [List.length_drop, List.length_range, dat_len]
  omega
end Go.Proofs.YtmdnbajbfnhecaaGreatDoor

set_option linter.unusedVariables false
namespace Go.Proofs.YtmdnbajbfnhecaaGreatDoor
open Go.RowKit
def kSt : ByteArray := ⟨#[115, 116, 97, 116, 117, 115]⟩
def kOk : ByteArray := ⟨#[111, 107, 97, 121]⟩
def kCo : ByteArray := ⟨#[99, 111, 109, 112, 97, 116, 105, 98, 108, 101]⟩
/-- Does a node's own word let it be on? -/
def onN (ps : List Pr) : Bool := !valB ps kSt || decide (textB (valS ps kSt) = (kOk, 0))
def onB (l : List Nd) (i : Int) : Bool := (above l i).all fun k => onN (holdF.propsAt l k.toNat)
def onV (l : List Nd) (i : Int) : Bool := if wrongF l i = 0 then onB l i else false
def valueV (l : List Nd) (i : Int) (k : ByteArray) : ByteArray × Int := if wrongF l i = 0 then (if valB (holdF.propsAt l i.toNat) k = true then (valS (holdF.propsAt l i.toNat) k, 0) else (ByteArray.empty, 6)) else (ByteArray.empty, wrongF l i)
def handofV (l : List Nd) (i : Int) : Nat × Int := if wrongF l i = 0 then (if handF (holdF.propsAt l i.toNat) = 0 then (0, 6) else (handF (holdF.propsAt l i.toNat), 0)) else (0, wrongF l i)
def plainV (l : List Nd) (i : Int) : Bool := if wrongF l i = 0 then !valB (holdF.propsAt l i.toNat) kCo && onB l i else false
theorem on_cases (ps : List Pr) : (valB ps kSt = false ∧ onN ps = true) ∨ (valB ps kSt = true ∧ textB (valS ps kSt) = (kOk, 0) ∧ onN ps = true) ∨ (valB ps kSt = true ∧ (∃ t, textB (valS ps kSt) = (t, 0) ∧ t ≠ kOk) ∧ onN ps = false) ∨ (valB ps kSt = true ∧ (∃ t, textB (valS ps kSt) = (t, 4)) ∧ onN ps = false) := by
  unfold onN
  cases hv : valB ps kSt with
  | false => exact .inl ⟨rfl, rfl⟩
  | true =>
    rcases ht : textB (valS ps kSt) with ⟨t, e⟩
    have h2 := text_two (valS ps kSt)
    rw [ht] at h2
    simp only at h2
    rcases h2 with rfl | rfl
    · by_cases hk : t = kOk
      · subst hk; exact .inr (.inl ⟨rfl, rfl, by simp⟩)
      · refine .inr (.inr (.inl ⟨rfl, ⟨t, rfl, hk⟩, ?_⟩))
        simp [hk]
    · exact .inr (.inr (.inr ⟨rfl, ⟨t, rfl⟩, by simp⟩))
theorem on_step {l : List Nd} (hf : Fine l l.length) {k : Nat} (hk : k < l.length) : onB l k = (onN (holdF.propsAt l k) && onB l (parAt l k)) := by
  unfold onB
  rw [above_step hf (Nat.le_refl _) hk]
  simp
theorem ok_list : kOk.toList = [111, 107, 97, 121] := by rw [ByteArray.toList_eq]; rfl
theorem str_no {s t : ByteArray} (h : s ≠ t) : (s.toList == t.toList) = false := str_ne h
set_option maxRecDepth 100000 in
set_option maxHeartbeats 4000000 in
theorem enabled_any (A : Option Addr) (cap n : Nat) (l : List Nm) (hn : n = l.length) (hn5 : n ≤ 512) (hz : Sized l) (hf : Fine (dat l) (dat l).length) (i : Nat) (hi : i < n) (w : World) (hv0 : Var0 w) (hw0 : 0 < w.heap.size) (B : Nat) (hB : B ≤ w.heap.size) (hs : Nodes w B A l) :
    Calls Tryz.prog 37 #[.slice A n cap, .int .i64 i] w fun e w' => e = .returned (.bool (onB (dat l) i)) ∧ Below w.heap.size w w' := by
  have hv := fine_vals hf
  have hdn : ∀ j : Nat, (hj : j < l.length) → onB (dat l) j = (onN l[j].d.ps && onB (dat l) l[j].d.p) ∧ -1 ≤ l[j].d.p ∧ l[j].d.p < j := fun j hj => by
    have hj2 : j < (dat l).length := by rw [dat_len]; exact hj
    have h1 := fine_par hf hj2 hj2
    have h2 := on_step hf hj2
    rw [par_get l hj] at h1 h2
    rw [props_dat hj] at h2
    exact ⟨h2, h1.2.1, h1.1⟩
  obtain ⟨R, hR⟩ : ∃ R, R = onB (dat l) i := ⟨_, rfl⟩
  rw [← hR]
  have HR := Lib.hid hR
  have HN := Lib.hid hn
  have HS := Lib.hid hs
  have HZ := Lib.hid hz
  have HV := Lib.hid hv
  have HDN := Lib.hid hdn
  have HV0 := Lib.hid hv0
  clear hn hs hz hv hdn hR hv0 hf
  go_enter Tryz.func37, Tryz.ntmps37
  go_wp2_with fail
  go_loopw [1] (fun xv wx => ∃ x : Int, -1 ≤ x ∧ x < n ∧ xv = .int .i64 x ∧ onB (dat l) x = R ∧ Below w.heap.size w wx) (fun xv _ => (intOf xv + 1).toNat)
  case atStart => exact ⟨i, by omega, by omega, rfl, HR.out.symm, Below.refl _ _⟩
  case round =>
    obtain ⟨x, hx1, hx2, rfl, hx, hb⟩ := hrel
    have HX := Lib.hid hx
    have HB := Lib.hid hb
    have hbs := hb.size
    by_cases hx0 : 0 ≤ x
    · obtain ⟨j, rfl⟩ : ∃ j : Nat, x = (j : Int) := ⟨x.toNat, by omega⟩
      have hjl : j < l.length := by rw [← HN.out]; omega
      obtain ⟨b, off, eA, hbB, x0, x1, x2, _⟩ := (HS.out.below (hb.mono hB)).at_ hjl
      subst eA
      obtain ⟨h1, h2, h3⟩ := HDN.out j hjl
      rw [hx] at h1
      have hva := fun w1 (hb1 : Below w.heap.size w w1) => value_any l[j].d.p l[j].d.n l[j].A l[j].c _ l[j].d.ps rfl (HZ.out.props _ (List.getElem_mem hjl)) kSt w1 B (Nat.le_trans hB hb1.size) ((HS.out.below (hb1.mono hB)).props _ (List.getElem_mem hjl))
      have htx := fun w1 (hb1 : Below w.heap.size w w1) => ptext_any (valS l[j].d.ps kSt) (val_le (HV.out _ (List.getElem_mem hjl))) w1 (HV0.out.below hb1 hw0)
      have hpc : ∀ w1, Below w.heap.size w w1 → w1.cell? ⟨b, off + j * 3, none⟩ = some (.int .i64 l[j].d.p) := fun w1 hb1 => by
        obtain ⟨b', off', eA, _, y0, _⟩ := (HS.out.below (hb1.mono hB)).at_ hjl
        injection eA with eA
        injection eA with e1 e2 e3
        subst e1; subst e2
        exact y0
      have hoc := on_cases l[j].d.ps
      generalize onN l[j].d.ps = O at *
      generalize valS l[j].d.ps kSt = vs at *
      generalize valB l[j].d.ps kSt = vb at *
      generalize l[j].d.ps.length = m at *
      generalize l[j].d.p = P at *
      generalize l[j].d.n = nm at *
      generalize l[j].A = xA at *
      generalize l[j].c = xc at *
      have HVA := Lib.hid hva
      have HPC := Lib.hid hpc
      have H1 := Lib.hid h1
      rcases hoc with ⟨rfl, rfl⟩ | ⟨rfl, ht, rfl⟩ | ⟨rfl, ⟨t, ht, hne⟩, rfl⟩ | ⟨rfl, ⟨t, ht⟩, rfl⟩
      · clear hx hb hva htx hpc h1
        go_wp2_with (first
          | (go_at_call 39; refine (HVA.out wr HB.out).mono ?_; rintro e w1 ⟨rfl, hb1⟩; have HB1 := Lib.hid (below_next HB.out hb1); have y0 := HPC.out w1 HB1.out; clear hb1))
        exact ⟨⟨P, h2, by omega, rfl, by rw [H1.out]; simp, HB1.out⟩, by simp [intOf]; omega⟩
      · rw [ht] at htx
        have HTX := Lib.hid htx
        have hok1 : (kOk.toList == [111, 107, 97, 121]) = true := by rw [ok_list]; rfl
        clear hx hb hva htx hpc h1 ht
        go_wp2_with (first
          | (go_at_call 39; refine (HVA.out wr HB.out).mono ?_; rintro e w1 ⟨rfl, hb1⟩; have HB1 := Lib.hid (below_next HB.out hb1); clear hb1)
          | (go_at_call 50; refine (HTX.out w1 HB1.out).mono ?_; rintro e w2 ⟨rfl, hb2⟩; have HB2 := Lib.hid (below_next HB1.out hb2); have y0 := HPC.out w2 HB2.out; clear hb2))
        exact ⟨⟨P, h2, by omega, rfl, by rw [H1.out]; simp, HB2.out⟩, by simp [intOf]; omega⟩
      · rw [ht] at htx
        have HTX := Lib.hid htx
        have hne1 : (t.toList == [111, 107, 97, 121]) = false := by rw [← ok_list]; exact str_no hne
        obtain rfl : R = false := by rw [H1.out]; rfl
        clear hx hb hva htx hpc h1 ht hne
        go_wp2_with (first
          | (go_at_call 39; refine (HVA.out wr HB.out).mono ?_; rintro e w1 ⟨rfl, hb1⟩; have HB1 := Lib.hid (below_next HB.out hb1); clear hb1)
          | (go_at_call 50; refine (HTX.out w1 HB1.out).mono ?_; rintro e w2 ⟨rfl, hb2⟩; have HB2 := Lib.hid (below_next HB1.out hb2); have y0 := HPC.out w2 HB2.out; clear hb2))
        go_ret
        exact ⟨rfl, HB2.out⟩
      · rw [ht] at htx
        have HTX := Lib.hid htx
        obtain rfl : R = false := by rw [H1.out]; rfl
        clear hx hb hva htx hpc h1 ht
        go_wp2_with (first
          | (go_at_call 39; refine (HVA.out wr HB.out).mono ?_; rintro e w1 ⟨rfl, hb1⟩; have HB1 := Lib.hid (below_next HB.out hb1); clear hb1)
          | (go_at_call 50; refine (HTX.out w1 HB1.out).mono ?_; rintro e w2 ⟨rfl, hb2⟩; have HB2 := Lib.hid (below_next HB1.out hb2); have y0 := HPC.out w2 HB2.out; clear hb2))
        go_ret
        exact ⟨rfl, HB2.out⟩
    · obtain rfl : x = -1 := by omega
      obtain rfl : R = true := by rw [← hx]; unfold onB; rw [above_neg _ (by omega)]; rfl
      clear hx hb
      go_wp2_with fail
      go_ret
      exact ⟨rfl, HB.out⟩
end Go.Proofs.YtmdnbajbfnhecaaGreatDoor

set_option linter.unusedVariables false
namespace Go.Proofs.YtmdnbajbfnhecaaGreatDoor
open Go.RowKit
set_option maxRecDepth 100000 in
set_option maxHeartbeats 4000000 in
theorem phandof_any (A : Option Addr) (cap n : Nat) (l : List Nm) (hn : n = l.length) (hz : Sized l) (i : Int) (w : World) (B : Nat) (hB : B ≤ w.heap.size) (hs : Nodes w B A l) :
    Calls Tryz.prog 13 #[.slice A n cap, .int .i64 i] w fun e w' => e = .returned (.tuple #[.int .u32 ((handofV (dat l) i).1 : Nat), .int .i64 (handofV (dat l) i).2]) ∧ Below w.heap.size w w' := by
  have hp := place_any A cap n l hn hz i w B hB hs
  by_cases h0 : wrongF (dat l) i = 0
  · obtain ⟨hf, h5, k, rfl, hk⟩ := wrong_zero h0
    have hkd := hk
    rw [dat_len, ← hn] at h5 hk
    have hv := fine_vals hf
    have hkl : k < l.length := by rw [← hn]; exact hk
    have hki : (k : Int) < (n : Int) := by omega
    obtain ⟨b, off, eA, _, _⟩ := hs.at_ hkl
    subst eA
    have hna : ∀ w1, Below w.heap.size w w1 → w1.cell? ⟨b, off + k * 3, none⟩ = some (.int .i64 l[k].d.p) ∧ w1.cell? ⟨b, off + k * 3 + 1, none⟩ = some (.string l[k].d.n) ∧ w1.cell? ⟨b, off + k * 3 + 2, none⟩ = some (.slice l[k].A l[k].d.ps.length l[k].c) := fun w1 hb => by
      obtain ⟨b', off', eA, _, x0, x1, x2, hseg⟩ := (hs.below (hb.mono hB)).at_ hkl
      injection eA with eA
      injection eA with e1 e2 e3
      subst e1; subst e2
      exact ⟨x0, x1, x2⟩
    have hva := fun w1 (hb : Below w.heap.size w w1) => handle_any l[k].d.p l[k].d.n l[k].A l[k].c _ l[k].d.ps rfl (hz.props _ (List.getElem_mem hkl)) (hv _ (List.getElem_mem hkl)) w1 B (Nat.le_trans hB hb.size) ((hs.below (hb.mono hB)).props _ (List.getElem_mem hkl))
    have e0 : handofV (dat l) (k : Int) = if handF l[k].d.ps = 0 then (0, 6) else (handF l[k].d.ps, 0) := by unfold handofV; rw [if_pos h0, Int.toNat_natCast, props_dat hkl]
    rw [e0]
    rw [h0] at hp
    generalize handF l[k].d.ps = H at *
    generalize l[k].d.ps.length = m at *
    generalize l[k].d.p = P at *
    generalize l[k].d.n = nm at *
    generalize l[k].A = xA at *
    generalize l[k].c = xc at *
    have HP := Lib.hid hp
    have HVA := Lib.hid hva
    have HNA := Lib.hid hna
    clear hp hva hna hn hs hz hf h0 e0 hv
    by_cases hh : H = 0
    · rw [if_pos hh]
      subst hh
      go_enter Tryz.func13, Tryz.ntmps13
      go_wp2_with (first
        | (go_at_call 34; refine HP.out.mono ?_; rintro e w1 ⟨rfl, hb1⟩; have HB1 := Lib.hid hb1; obtain ⟨x0, x1, x2⟩ := HNA.out w1 HB1.out; clear hb1)
        | (go_at_call 38; refine (HVA.out w1 HB1.out).mono ?_; rintro e w2 ⟨rfl, hb2⟩; have HB2 := Lib.hid (below_next HB1.out hb2); clear hb2))
      go_ret2
      exact ⟨rfl, HB2.out⟩
    · rw [if_neg hh]
      have hh1 : ((H : Int) == 0) = false := by simpa using hh
      go_enter Tryz.func13, Tryz.ntmps13
      go_wp2_with (first
        | (go_at_call 34; refine HP.out.mono ?_; rintro e w1 ⟨rfl, hb1⟩; have HB1 := Lib.hid hb1; obtain ⟨x0, x1, x2⟩ := HNA.out w1 HB1.out; clear hb1)
        | (go_at_call 38; refine (HVA.out w1 HB1.out).mono ?_; rintro e w2 ⟨rfl, hb2⟩; have HB2 := Lib.hid (below_next HB1.out hb2); clear hb2))
      go_ret2
      exact ⟨rfl, HB2.out⟩
  · have e0 : handofV (dat l) i = (0, wrongF (dat l) i) := by unfold handofV; rw [if_neg h0]
    rw [e0]
    clear e0
    generalize wrongF (dat l) i = E at *
    have hE : (E != 0) = true := by simpa using h0
    have hE2 : (E == 0) = false := by simpa using h0
    have HP := Lib.hid hp
    clear hp hn hs hz
    go_enter Tryz.func13, Tryz.ntmps13
    go_wp2_with (first
      | (go_at_call 34; refine HP.out.mono ?_; rintro e w1 ⟨rfl, hb1⟩; have HB1 := Lib.hid hb1; clear hb1))
    go_ret2
    exact ⟨rfl, HB1.out⟩
set_option maxRecDepth 100000 in
set_option maxHeartbeats 4000000 in
theorem penabled_any (A : Option Addr) (cap n : Nat) (l : List Nm) (hn : n = l.length) (hz : Sized l) (i : Int) (w : World) (hv0 : Var0 w) (hw0 : 0 < w.heap.size) (B : Nat) (hB : B ≤ w.heap.size) (hs : Nodes w B A l) :
    Calls Tryz.prog 12 #[.slice A n cap, .int .i64 i] w fun e w' => e = .returned (.tuple #[.bool (onV (dat l) i), .int .i64 (wrongF (dat l) i)]) ∧ Below w.heap.size w w' := by
  have hp := place_any A cap n l hn hz i w B hB hs
  by_cases h0 : wrongF (dat l) i = 0
  · obtain ⟨hf, h5, k, rfl, hk⟩ := wrong_zero h0
    have hkd := hk
    rw [dat_len, ← hn] at h5 hk
    have hv := fine_vals hf
    have hva := fun w1 (hb : Below w.heap.size w w1) => enabled_any A cap n l hn h5 hz hf k hk w1 (hv0.below hb hw0) (Nat.lt_of_lt_of_le hw0 hb.size) B (Nat.le_trans hB hb.size) (hs.below (hb.mono hB))
    have e0 : onV (dat l) (k : Int) = onB (dat l) k := by unfold onV; rw [if_pos h0]
    rw [e0, h0]
    rw [h0] at hp
    generalize onB (dat l) k = R at *
    have HP := Lib.hid hp
    have HVA := Lib.hid hva
    clear hp hva hn hs hz hf h0 e0 hv hv0
    go_enter Tryz.func12, Tryz.ntmps12
    go_wp2_with (first
      | (go_at_call 34; refine HP.out.mono ?_; rintro e w1 ⟨rfl, hb1⟩; have HB1 := Lib.hid hb1; clear hb1)
      | (go_at_call 37; refine (HVA.out w1 HB1.out).mono ?_; rintro e w2 ⟨rfl, hb2⟩; have HB2 := Lib.hid (below_next HB1.out hb2); clear hb2))
    go_ret2
    exact ⟨rfl, HB2.out⟩
  · have e0 : onV (dat l) i = false := by unfold onV; rw [if_neg h0]
    rw [e0]
    clear e0
    generalize wrongF (dat l) i = E at *
    have hE : (E != 0) = true := by simpa using h0
    have hE2 : (E == 0) = false := by simpa using h0
    have HP := Lib.hid hp
    clear hp hn hs hz
    go_enter Tryz.func12, Tryz.ntmps12
    go_wp2_with (first
      | (go_at_call 34; refine HP.out.mono ?_; rintro e w1 ⟨rfl, hb1⟩; have HB1 := Lib.hid hb1; clear hb1))
    go_ret2
    exact ⟨rfl, HB1.out⟩
set_option maxRecDepth 100000 in
set_option maxHeartbeats 4000000 in
theorem pplain_any (A : Option Addr) (cap n : Nat) (l : List Nm) (hn : n = l.length) (hz : Sized l) (i : Int) (w : World) (hv0 : Var0 w) (hw0 : 0 < w.heap.size) (B : Nat) (hB : B ≤ w.heap.size) (hs : Nodes w B A l) :
    Calls Tryz.prog 14 #[.slice A n cap, .int .i64 i] w fun e w' => e = .returned (.tuple #[.bool (plainV (dat l) i), .int .i64 (wrongF (dat l) i)]) ∧ Below w.heap.size w w' := by
  have hp := place_any A cap n l hn hz i w B hB hs
  by_cases h0 : wrongF (dat l) i = 0
  · obtain ⟨hf, h5, k, rfl, hk⟩ := wrong_zero h0
    have hkd := hk
    rw [dat_len, ← hn] at h5 hk
    have hv := fine_vals hf
    have hon := fun w1 (hb : Below w.heap.size w w1) => enabled_any A cap n l hn h5 hz hf k hk w1 (hv0.below hb hw0) (Nat.lt_of_lt_of_le hw0 hb.size) B (Nat.le_trans hB hb.size) (hs.below (hb.mono hB))
    have hkl : k < l.length := by rw [← hn]; exact hk
    have hki : (k : Int) < (n : Int) := by omega
    obtain ⟨b, off, eA, _, _⟩ := hs.at_ hkl
    subst eA
    have hna : ∀ w1, Below w.heap.size w w1 → w1.cell? ⟨b, off + k * 3, none⟩ = some (.int .i64 l[k].d.p) ∧ w1.cell? ⟨b, off + k * 3 + 1, none⟩ = some (.string l[k].d.n) ∧ w1.cell? ⟨b, off + k * 3 + 2, none⟩ = some (.slice l[k].A l[k].d.ps.length l[k].c) := fun w1 hb => by
      obtain ⟨b', off', eA, _, x0, x1, x2, hseg⟩ := (hs.below (hb.mono hB)).at_ hkl
      injection eA with eA
      injection eA with e1 e2 e3
      subst e1; subst e2
      exact ⟨x0, x1, x2⟩
    have hva := fun w1 (hb : Below w.heap.size w w1) => value_any l[k].d.p l[k].d.n l[k].A l[k].c _ l[k].d.ps rfl (hz.props _ (List.getElem_mem hkl)) kCo w1 B (Nat.le_trans hB hb.size) ((hs.below (hb.mono hB)).props _ (List.getElem_mem hkl))
    have e0 : plainV (dat l) (k : Int) = (!valB l[k].d.ps kCo && onB (dat l) k) := by unfold plainV; rw [if_pos h0, Int.toNat_natCast, props_dat hkl]
    rw [e0, h0]
    rw [h0] at hp
    generalize onB (dat l) k = R at *
    generalize valS l[k].d.ps kCo = vs at *
    generalize valB l[k].d.ps kCo = vb at *
    generalize l[k].d.ps.length = m at *
    generalize l[k].d.p = P at *
    generalize l[k].d.n = nm at *
    generalize l[k].A = xA at *
    generalize l[k].c = xc at *
    have HP := Lib.hid hp
    have HVA := Lib.hid hva
    have HNA := Lib.hid hna
    have HON := Lib.hid hon
    clear hp hva hna hon hn hs hz hf h0 e0 hv hv0
    rcases vb with _ | _
    · go_enter Tryz.func14, Tryz.ntmps14
      go_wp2_with (first
        | (go_at_call 34; refine HP.out.mono ?_; rintro e w1 ⟨rfl, hb1⟩; have HB1 := Lib.hid hb1; obtain ⟨x0, x1, x2⟩ := HNA.out w1 HB1.out; clear hb1)
        | (go_at_call 39; refine (HVA.out w1 HB1.out).mono ?_; rintro e w2 ⟨rfl, hb2⟩; have HB2 := Lib.hid (below_next HB1.out hb2); clear hb2)
        | (go_at_call 37; refine (HON.out w2 HB2.out).mono ?_; rintro e w3 ⟨rfl, hb3⟩; have HB3 := Lib.hid (below_next HB2.out hb3); clear hb3))
      go_ret2
      exact ⟨rfl, HB3.out⟩
    · go_enter Tryz.func14, Tryz.ntmps14
      go_wp2_with (first
        | (go_at_call 34; refine HP.out.mono ?_; rintro e w1 ⟨rfl, hb1⟩; have HB1 := Lib.hid hb1; obtain ⟨x0, x1, x2⟩ := HNA.out w1 HB1.out; clear hb1)
        | (go_at_call 39; refine (HVA.out w1 HB1.out).mono ?_; rintro e w2 ⟨rfl, hb2⟩; have HB2 := Lib.hid (below_next HB1.out hb2); clear hb2))
      go_ret2
      exact ⟨rfl, HB2.out⟩
  · have e0 : plainV (dat l) i = false := by unfold plainV; rw [if_neg h0]
    rw [e0]
    clear e0
    generalize wrongF (dat l) i = E at *
    have hE : (E != 0) = true := by simpa using h0
    have hE2 : (E == 0) = false := by simpa using h0
    have HP := Lib.hid hp
    clear hp hn hs hz
    go_enter Tryz.func14, Tryz.ntmps14
    go_wp2_with (first
      | (go_at_call 34; refine HP.out.mono ?_; rintro e w1 ⟨rfl, hb1⟩; have HB1 := Lib.hid hb1; clear hb1))
    go_ret2
    exact ⟨rfl, HB1.out⟩
end Go.Proofs.YtmdnbajbfnhecaaGreatDoor

set_option linter.unusedVariables false
namespace Go.Proofs.YtmdnbajbfnhecaaGreatDoor
open Go.RowKit
/-- What a node says that it is. -/
def saysL (ps : List Pr) : List (List UInt8) := (textsL (valS ps kCo).data.toList).getD []
def compL (l : List Nd) (i : Int) : List (List UInt8) := if wrongF l i = 0 then saysL (holdF.propsAt l i.toNat) else []
/-- A list of texts, as it lies. -/
def TxAt (w : World) (A : Option Addr) (m : Nat) (ts : List (List UInt8)) : Prop := ∃ bs : List ByteArray, m = bs.length ∧ Seg w w.heap.size A (strV bs) ∧ bs.map (·.data.toList) = ts
theorem TxAt.nil (w : World) (A : Option Addr) : TxAt w A 0 [] := ⟨[], rfl, Seg.nil, rfl⟩
theorem TxAt.below {w w' : World} {A : Option Addr} {m : Nat} {ts : List (List UInt8)} (h : TxAt w A m ts) (hb : Below w.heap.size w w') : TxAt w' A m ts := by
  obtain ⟨bs, h1, h2, h3⟩ := h
  exact ⟨bs, h1, (h2.below hb).more hb.size, h3⟩
theorem bytes_inj : ∀ {a b : List ByteArray}, a.map (·.data.toList) = b.map (·.data.toList) → a = b
  | [], [], _ => rfl
  | [], _ :: _, h => by simp at h
  | _ :: _, [], h => by simp at h
  | x :: a, y :: b, h => by
    simp only [List.map_cons, List.cons.injEq] at h
    rw [bytes_eq h.1, bytes_inj h.2]
theorem texts_none {v : ByteArray} {F : Nat} {w : World} (hT : textsL v.data.toList = none) (H : Calls Tryz.prog F #[.string v] w fun e w' => TextsR v e w' ∧ Below w.heap.size w w') :
    Calls Tryz.prog F #[.string v] w fun e w' => e = .returned (.tuple #[.slice none 0 0, .int .i64 4]) ∧ Below w.heap.size w w' := by
  unfold TextsR at H
  rw [hT] at H
  exact H
theorem texts_some {v : ByteArray} {F : Nat} {w : World} {ts : List (List UInt8)} (hT : textsL v.data.toList = some ts) (H : Calls Tryz.prog F #[.string v] w fun e w' => TextsR v e w' ∧ Below w.heap.size w w') :
    Calls Tryz.prog F #[.string v] w fun e w' => (∃ (A : Option Addr) (c m : Nat), e = .returned (.tuple #[.slice A m c, .int .i64 0]) ∧ TxAt w' A m ts) ∧ Below w.heap.size w w' := by
  unfold TextsR at H
  rw [hT] at H
  refine H.mono fun e w' h => ?_
  obtain ⟨⟨A, c, m, bs, he, hm, hs, hd⟩, hb⟩ := h
  exact ⟨⟨A, c, m, he, bs, hm, hs, hd⟩, hb⟩
theorem val_no {ps : List Pr} {k : ByteArray} (h : valB ps k = false) : valS ps k = ByteArray.empty := by
  unfold valB at h
  unfold valS
  cases hv : valF ps k with
  | none => rfl
  | some x => rw [hv] at h; cases h
set_option maxRecDepth 100000 in
set_option maxHeartbeats 4000000 in
theorem pcompat_any (A : Option Addr) (cap n : Nat) (l : List Nm) (hn : n = l.length) (hz : Sized l) (i : Int) (w : World) (hv0 : Var0 w) (hw0 : 0 < w.heap.size) (B : Nat) (hB : B ≤ w.heap.size) (hs : Nodes w B A l) :
    Calls Tryz.prog 15 #[.slice A n cap, .int .i64 i] w fun e w' => (∃ (A' : Option Addr) (c' m' : Nat), e = .returned (.tuple #[.slice A' m' c', .int .i64 (wrongF (dat l) i)]) ∧ TxAt w' A' m' (compL (dat l) i)) ∧ Below w.heap.size w w' := by
  have hp := place_any A cap n l hn hz i w B hB hs
  by_cases h0 : wrongF (dat l) i = 0
  · obtain ⟨hf, h5, k, rfl, hk⟩ := wrong_zero h0
    have hkd := hk
    rw [dat_len, ← hn] at h5 hk
    have hv := fine_vals hf
    have hkl : k < l.length := by rw [← hn]; exact hk
    have hki : (k : Int) < (n : Int) := by omega
    obtain ⟨b, off, eA, _, _⟩ := hs.at_ hkl
    subst eA
    have hna : ∀ w1, Below w.heap.size w w1 → w1.cell? ⟨b, off + k * 3, none⟩ = some (.int .i64 l[k].d.p) ∧ w1.cell? ⟨b, off + k * 3 + 1, none⟩ = some (.string l[k].d.n) ∧ w1.cell? ⟨b, off + k * 3 + 2, none⟩ = some (.slice l[k].A l[k].d.ps.length l[k].c) := fun w1 hb => by
      obtain ⟨b', off', eA, _, x0, x1, x2, hseg⟩ := (hs.below (hb.mono hB)).at_ hkl
      injection eA with eA
      injection eA with e1 e2 e3
      subst e1; subst e2
      exact ⟨x0, x1, x2⟩
    have hva := fun w1 (hb : Below w.heap.size w w1) => value_any l[k].d.p l[k].d.n l[k].A l[k].c _ l[k].d.ps rfl (hz.props _ (List.getElem_mem hkl)) kCo w1 B (Nat.le_trans hB hb.size) ((hs.below (hb.mono hB)).props _ (List.getElem_mem hkl))
    have htt := fun w1 (hb : Below w.heap.size w w1) => ptexts_any (valS l[k].d.ps kCo) (val_le (hv _ (List.getElem_mem hkl))) w1 (hv0.below hb hw0)
    have e0 : compL (dat l) (k : Int) = (textsL (valS l[k].d.ps kCo).data.toList).getD [] := by unfold compL; rw [if_pos h0, Int.toNat_natCast, props_dat hkl]; rfl
    rw [e0, h0]
    rw [h0] at hp
    generalize valS l[k].d.ps kCo = vs at *
    generalize valB l[k].d.ps kCo = vb at *
    generalize l[k].d.ps.length = m at *
    generalize l[k].d.p = P at *
    generalize l[k].d.n = nm at *
    generalize l[k].A = xA at *
    generalize l[k].c = xc at *
    have HP := Lib.hid hp
    have HVA := Lib.hid hva
    have HNA := Lib.hid hna
    clear hp hva hna hn hs hz hf h0 e0 hv hv0
    cases hT : textsL vs.data.toList with
    | none =>
      have ht := fun w1 (hb : Below w.heap.size w w1) => texts_none hT (htt w1 hb)
      have HT := Lib.hid ht
      clear ht htt hT
      show Calls _ _ _ _ fun e w' => (∃ (A' : Option Addr) (c' m' : Nat), e = .returned (.tuple #[.slice A' m' c', .int .i64 0]) ∧ TxAt w' A' m' []) ∧ _
      go_enter Tryz.func15, Tryz.ntmps15
      go_wp2_with (first
        | (go_at_call 34; refine HP.out.mono ?_; rintro e w1 ⟨rfl, hb1⟩; have HB1 := Lib.hid hb1; obtain ⟨x0, x1, x2⟩ := HNA.out w1 HB1.out; clear hb1)
        | (go_at_call 39; refine (HVA.out w1 HB1.out).mono ?_; rintro e w2 ⟨rfl, hb2⟩; have HB2 := Lib.hid (below_next HB1.out hb2); clear hb2)
        | (go_at_call 40; refine (HT.out w2 HB2.out).mono ?_; rintro e w3 ⟨rfl, hb3⟩; have HB3 := Lib.hid (below_next HB2.out hb3); clear hb3))
      go_ret2
      exact ⟨⟨none, 0, 0, rfl, TxAt.nil _ _⟩, HB3.out⟩
    | some ts =>
      have ht := fun w1 (hb : Below w.heap.size w w1) => texts_some hT (htt w1 hb)
      have HT := Lib.hid ht
      clear ht htt hT
      show Calls _ _ _ _ fun e w' => (∃ (A' : Option Addr) (c' m' : Nat), e = .returned (.tuple #[.slice A' m' c', .int .i64 0]) ∧ TxAt w' A' m' ts) ∧ _
      go_enter Tryz.func15, Tryz.ntmps15
      go_wp2_with (first
        | (go_at_call 34; refine HP.out.mono ?_; rintro e w1 ⟨rfl, hb1⟩; have HB1 := Lib.hid hb1; obtain ⟨x0, x1, x2⟩ := HNA.out w1 HB1.out; clear hb1)
        | (go_at_call 39; refine (HVA.out w1 HB1.out).mono ?_; rintro e w2 ⟨rfl, hb2⟩; have HB2 := Lib.hid (below_next HB1.out hb2); clear hb2)
        | (go_at_call 40; refine (HT.out w2 HB2.out).mono ?_; rintro e w3 ⟨⟨A', c', m', rfl, htx⟩, hb3⟩; have HB3 := Lib.hid (below_next HB2.out hb3); have HTX := Lib.hid htx; clear hb3 htx))
      go_ret2
      exact ⟨⟨A', c', m', rfl, HTX.out⟩, HB3.out⟩
  · have e0 : compL (dat l) i = [] := by unfold compL; rw [if_neg h0]
    rw [e0]
    clear e0
    generalize wrongF (dat l) i = E at *
    have hE : (E != 0) = true := by simpa using h0
    have hE2 : (E == 0) = false := by simpa using h0
    have HP := Lib.hid hp
    clear hp hn hs hz
    go_enter Tryz.func15, Tryz.ntmps15
    go_wp2_with (first
      | (go_at_call 34; refine HP.out.mono ?_; rintro e w1 ⟨rfl, hb1⟩; have HB1 := Lib.hid hb1; clear hb1))
    go_ret2
    exact ⟨⟨none, 0, 0, rfl, TxAt.nil _ _⟩, HB1.out⟩
theorem Seg.str {w : World} {B : Nat} {a : Option Addr} {zs : List ByteArray} (h : Seg w B a (strV zs)) {k : Nat} (hk : k < zs.length) :
   ∃ b off, a = some ⟨b, off, none⟩ ∧ b < B ∧ w.cell? ⟨b, off + k, none⟩ = some (.string zs[k]) := by
  obtain ⟨b, off, e, hb, hc⟩ := h (by unfold strV; intro e; simp at e; subst e; simp at hk)
  exact ⟨b, off, e, hb, hc k _ (by unfold strV; simp [hk])⟩
theorem Seg.nat {w : World} {B : Nat} {a : Option Addr} {zs : List Nat} (h : Seg w B a (natsV zs)) {k : Nat} (hk : k < zs.length) :
   ∃ b off, a = some ⟨b, off, none⟩ ∧ b < B ∧ w.cell? ⟨b, off + k, none⟩ = some (.int .i64 (zs[k] : Nat)) := by
  obtain ⟨b, off, e, hb, hc⟩ := h (by unfold natsV; intro e; simp at e; subst e; simp at hk)
  exact ⟨b, off, e, hb, hc k _ (by unfold natsV; simp [hk])⟩
set_option maxRecDepth 100000 in
set_option maxHeartbeats 4000000 in
theorem sametexts_any (A : Option Addr) (c : Nat) (A' : Option Addr) (c' m : Nat) (xs : List ByteArray) (hm : m = xs.length) (h5 : m ≤ 281474976710656) (w : World) (B : Nat) (hB : B ≤ w.heap.size) (hs : Seg w B A (strV xs)) (hs' : Seg w B A' (strV xs)) :
    Calls Tryz.prog 16 #[.slice A m c, .slice A' m c'] w fun e w' => e = .returned (.bool true) ∧ Below w.heap.size w w' := by
  have HM := Lib.hid hm
  have HS := Lib.hid hs
  have HS' := Lib.hid hs'
  clear hm hs hs'
  go_enter Tryz.func16, Tryz.ntmps16
  go_wp2_with fail
  go_loopw [5] (fun iv wx => ∃ j : Nat, j ≤ m ∧ iv = .int .i64 j ∧ Below w.heap.size w wx) (fun iv _ => m - (intOf iv).toNat)
  case atStart => exact ⟨0, by omega, rfl, Below.refl _ _⟩
  case round =>
    obtain ⟨j, hj, rfl, hb⟩ := hrel
    have HB := Lib.hid hb
    by_cases hlt : j < m
    · have hji : (j : Int) < (m : Int) := by omega
      have hjx : j < xs.length := by rw [← HM.out]; exact hlt
      obtain ⟨b, off, eA, _, x0⟩ := Seg.str (HS.out.below (hb.mono hB)) hjx
      subst eA
      obtain ⟨b', off', eA, _, y0⟩ := Seg.str (HS'.out.below (hb.mono hB)) hjx
      subst eA
      generalize xs[j] = x at *
      have hxx : (x.toList == x.toList) = true := by simp
      have hx2 : (x.toList != x.toList) = false := by simp
      clear hb
      go_wp2_with fail
      go_quiet (fail)
      go_wp2_with fail
      exact ⟨⟨j + 1, by omega, by go_num, below_drewN HB.out _⟩, by simp [intOf]; omega⟩
    · obtain rfl : j = m := by omega
      have hf0 : ¬ (j : Int) < (j : Int) := by omega
      clear hb
      go_wp2_with fail
      go_ret
      exact ⟨rfl, HB.out⟩
/-- Two lists of one stock of texts. -/
theorem sametx_any (A : Option Addr) (c m : Nat) (A' : Option Addr) (c' m' : Nat) (ts : List (List UInt8)) (w : World) (h : TxAt w A m ts) (h' : TxAt w A' m' ts) (h5 : m ≤ 281474976710656) :
    Calls Tryz.prog 16 #[.slice A m c, .slice A' m' c'] w fun e w' => e = .returned (.bool true) ∧ Below w.heap.size w w' := by
  obtain ⟨bs, hm, hs, hd⟩ := h
  obtain ⟨bs', hm', hs', hd'⟩ := h'
  obtain rfl := bytes_inj (hd.trans hd'.symm)
  obtain rfl : m' = m := hm'.trans hm.symm
  exact sametexts_any A c A' c' m' bs hm h5 w _ (Nat.le_refl _) hs hs'
end Go.Proofs.YtmdnbajbfnhecaaGreatDoor
