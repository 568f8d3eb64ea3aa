/- A node's path: the contracts. -/
import Derived.Test.YtmdnbajbfnhecaaDoorFRef
import Derived.Test.YtmdnbajbfnhecaaDoorFText
import Derived.Test.YtmdnbajbfnhecaaDoorPlace
import Derived.Test.YtmdnbajbfnhecaaDoorFPre
import Derived.Laws.IdiomCopy
import Derived.Lib.RowBridge
set_option linter.unusedVariables false
namespace Go.Proofs.YtmdnbajbfnhecaaDoor
open Go.RowKit Go.Lib Go.Sort
def strV (xs : List ByteArray) : List Value := xs.map .string
theorem below_cells {B b : Nat} {a : World} (hb : B ≤ b) : ∀ (vs : List Value) (o : Nat) (w : World), Below B a w → Below B a (w.setCells b o vs)
  | [], _, _, h => h
  | v :: r, o, w, h => below_cells hb r (o + 1) _ (h.setCell hb v)
theorem size_cells (b : Nat) : ∀ (vs : List Value) (o : Nat) (w : World), w.heap.size ≤ (w.setCells b o vs).heap.size
  | [], _, _ => Nat.le_refl _
  | v :: r, o, w => Nat.le_trans (by simp [World.setCell]) (size_cells b r (o + 1) _)
theorem bytes_back (x : ByteArray) : (⟨x.data.toList.toArray⟩ : ByteArray) = x := bytes_eq (by simp)
/-- slices.Reverse over a row of texts of the call's own. -/
theorem rev_strs (base : Nat) (A : Option Addr) (c m : Nat) (xs : List ByteArray) (hm : m = xs.length) (w : World) (hb : base ≤ w.heap.size) (h : w.ownsRow base 9 1 (.slice A m c) m (strV xs)) :
    Calls Tryd.prog 70 #[.slice A m c] w fun e w' => e = .returned (.tuple #[]) ∧ Seg w' w'.heap.size A (strV xs.reverse) ∧ Below base w w' := by
  subst hm
  rcases Nat.eq_zero_or_pos xs.length with h0 | h0
  · obtain rfl : xs = [] := List.eq_nil_of_length_eq_zero h0
    exact (Tryd.slices_Reverse_string_empty A c w).mono fun e w' hh => ⟨hh.1, Seg.nil, by rw [hh.2]; exact Below.refl _ _⟩
  · obtain ⟨g, rfl, hg1, hg2, hr⟩ := RowAt.of_own h h0
    have hlen : (strV xs).length = xs.length := by unfold strV; simp
    have hbig : xs.length ≤ 9223372036854775807 := by
      rcases h.2 with ⟨_, h⟩ | ⟨g, cap, cur, hv, h1, h2, h3, h4, _⟩
      · omega
      · unfold maxLen at h4; omega
    have hcell : ∀ j (hj : j < xs.length), w.cell? ⟨g, 0 + j, none⟩ = some (.string xs[j]) := fun j hj => by
      rw [Nat.zero_add, hr.cell (by rw [hlen]; exact hj)]
      unfold strV
      rw [List.getElem?_map, List.getElem?_eq_getElem hj]
      rfl
    have hH : Holds encStr w g 0 (xs.map (·.data.toList)).toArray := fun j hj => by
      have hj2 : j < xs.length := by simpa using hj
      refine ⟨?_, by rw [Nat.zero_add]; exact hr.frozen _⟩
      rw [hcell j hj2, getElem!_pos _ j hj]
      simp [encStr]
    have hl : (xs.map (·.data.toList)).length = xs.length := by simp
    have hc := Tryd.slices_Reverse_string g 0 c (xs.map (·.data.toList)) w hH (by rw [hl]; exact hbig)
    rw [hl] at hc
    refine hc.mono fun e w' hh => ?_
    obtain ⟨rfl, q, rfl⟩ := hh
    rw [Lib.putRow_eq_setCells _ w g 0 _ _ q hH (by simp)]
    have hl2 : (xs.map (·.data.toList)).reverse.map encStr = strV xs.reverse := by
      rw [← List.map_reverse, List.map_map]
      unfold strV
      refine List.map_congr_left fun x hx => ?_
      simp [encStr]
    rw [hl2]
    have hl3 : (strV xs.reverse).length = xs.length := by unfold strV; simp
    refine ⟨rfl, fun _ => ⟨g, 0, rfl, ?_, fun j u hu => ?_⟩, below_cells hg1 _ _ _ (below_drewN (Below.refl _ _) q)⟩
    · exact Nat.lt_of_lt_of_le hg2 (size_cells g (strV xs.reverse) 0 (w.drewN q))
    · have hj : j < (strV xs.reverse).length := (List.getElem?_eq_some_iff.1 hu).1
      rw [World.cell?_setCells_in g (strV xs.reverse) 0 (w.drewN q) (fun j hj => by
        have := hcell j (by omega)
        have h2 : (w.drewN q).cell? ⟨g, 0 + j, none⟩ = some _ := this
        rw [h2]; rfl) j hj]
      rw [← hu, List.getElem?_eq_getElem hj]
theorem join_len : ∀ (xs : List (List UInt8)), (∀ x ∈ xs, x.length ≤ 31) → (Lib.join xs [47]).length ≤ xs.length * 32
  | [], _ => by simp [Lib.join]
  | x :: r, h => by
    have h1 := join_strokes (x :: r) (by simp)
    have h2 := strokes_len (x :: r) 31 h
    have h3 := congrArg List.length h1
    rw [List.length_cons] at h3
    omega
theorem join_seg (A : Option Addr) (c : Nat) (xs : List ByteArray) (h0 : 0 < xs.length) (h5 : xs.length ≤ 512) (hc : xs.length ≤ c) (hz : ∀ x ∈ xs, x.data.toList.length ≤ 31) (w : World) (hs : Seg w w.heap.size A (strV xs)) :
    Calls Tryd.prog 71 #[.slice A xs.length c, .string ⟨#[47]⟩] w fun e w' => e = .returned (.string ⟨(Lib.join (xs.map (·.data.toList)) [47]).toArray⟩) ∧ Below w.heap.size w w' := by
  obtain ⟨b, off, rfl, hb, hcell⟩ := hs (by unfold strV; intro e; simp at e; subst e; simp at h0)
  have hl := join_len (xs.map (·.data.toList)) (fun x hx => by obtain ⟨y, hy, rfl⟩ := List.mem_map.1 hx; exact hz y hy)
  rw [List.length_map] at hl
  exact Tryd.strings_Join b off c xs ⟨#[47]⟩ w (fun j x hx => hcell j _ (by unfold strV; rw [List.getElem?_map, hx]; rfl)) hb (by omega) hc (by show (Lib.join _ [47]).length ≤ _; omega)
/-- A path as a text. -/
def pathB (l : List Nd) (i : Nat) : ByteArray := ⟨(pathL l i).toArray⟩
theorem path_bytes {l : List Nd} {i : Nat} {s : ByteArray} (h : s.data.toList = pathL l i) : s = pathB l i := bytes_eq (by rw [h]; rfl)
theorem up_zero (l : List Nd) (f : Nat) : upG l f 0 = [] := by cases f <;> rfl
theorem up_step (l : List Nd) {f i : Nat} (hf : 0 < f) (h0 : 0 < i) : upG l f i = nameAt l i :: upG l (f - 1) (parM l i) := by
  obtain ⟨f, rfl⟩ : ∃ g, f = g + 1 := ⟨f - 1, by omega⟩
  rw [upG, if_neg (by omega)]
  rfl
theorem up_len (l : List Nd) (f i : Nat) : (upG l f i).length ≤ f := by
  have := segG_len l f i
  rw [← up_seg] at this
  simpa using this
theorem name_at (l : List Nm) {k : Nat} (hk : k < l.length) : nameAt (dat l) k = l[k].d.n.data.toList := nameAt_dat hk
theorem up_names {l : List Nd} (hf : Fine l l.length) : ∀ (f i : Nat), i < l.length → ∀ x ∈ upG l f i, x.length ≤ 31
  | 0, _, _, x, hx => by simp [upG] at hx
  | f + 1, i, hi, x, hx => by
    rw [upG] at hx
    split at hx
    · simp at hx
    · rename_i h0
      rcases List.mem_cons.1 hx with rfl | hx
      · exact fine_name hf hi
      · have := (fine_tr hf).par (i := i) (by omega) hi
        exact up_names hf f (parM l i) (by omega) x hx
set_option maxRecDepth 100000 in
set_option maxHeartbeats 4000000 in
theorem ppath0_any (A : Option Addr) (cap n : Nat) (l : List Nm) (hn : n = l.length) (hn5 : n ≤ 512) (hf : Fine (dat l) (dat l).length) (i : Nat) (hi : i < n) (w : World) (B : Nat) (hB : B ≤ w.heap.size) (hs : Nodes w B A l) :
    Calls Tryd.prog 41 #[.slice A n cap, .int .i64 i] w fun e w' => e = .returned (.string (pathB (dat l) i)) ∧ Below w.heap.size w w' := by
  by_cases h0 : i = 0
  · subst h0
    clear hf hs
    go_enter Tryd.func41, Tryd.ntmps41
    go_wp2_with fail
    go_ret
    exact ⟨rfl, Below.refl _ _⟩
  have hip : 0 < i := by omega
  have hdl : (dat l).length = n := by rw [dat_len, hn]
  have ht := fine_tr hf
  obtain ⟨U, hU⟩ : ∃ U, U = upG (dat l) i i := ⟨_, rfl⟩
  have hpj := path_join ht hip (by rw [hdl]; exact hi)
  have hUl := up_len (dat l) i i
  have hUn := up_names hf i i (by rw [hdl]; exact hi)
  rw [← hU] at hpj hUl hUn
  obtain ⟨i0, fi, fz0, fz1, fz2⟩ := info_parts info9
  have HN := Lib.hid hn
  have HS := Lib.hid hs
  have HT := Lib.hid ht
  have HPJ := Lib.hid hpj
  have HUN := Lib.hid hUn
  have HU := Lib.hid hU
  have HDL := Lib.hid hdl
  have hi0 : ((i : Int) == 0) = false := by simpa using h0
  clear hn hs ht hpj hUn hU hf hdl
  go_enter Tryd.func41, Tryd.ntmps41
  go_wp2_with fail
  go_loopw [1, 5] (fun kv sv wx => ∃ (k f c : Nat) (A' : Option Addr) (xs : List ByteArray), k ≤ i ∧ k ≤ f ∧ kv = .int .i64 k ∧ sv = .slice A' xs.length c ∧ xs.map (·.data.toList) ++ upG (dat l) f k = U ∧ wx.ownsRow w.heap.size 9 1 (.slice A' xs.length c) xs.length (strV xs) ∧ Below w.heap.size w wx) (fun kv _ _ => (RowKit.intOf kv).toNat)
  case atStart => exact ⟨i, i, 0, none, [], Nat.le_refl _, Nat.le_refl _, rfl, rfl, by rw [HU.out]; rfl, World.ownsRow_nil _ _ _ _, Below.refl _ _⟩
  case round =>
    obtain ⟨k, f, c, A', xs, hk1, hk2, rfl, rfl, hx, hown, hb⟩ := hrel
    have hxl : xs.length ≤ i := by have := congrArg List.length hx; rw [List.length_append, List.length_map] at this; omega
    have HX := Lib.hid hx
    have HO := Lib.hid hown
    have HB := Lib.hid hb
    obtain ⟨m, hm⟩ : ∃ m, m = xs.length := ⟨_, rfl⟩
    have HM := Lib.hid hm
    by_cases hk0 : 0 < k
    · have hkl : k < l.length := by rw [← HN.out]; omega
      have hki : (k : Int) < (n : Int) := by omega
      have hk0i : (0 : Int) < (k : Int) := by omega
      obtain ⟨b, off, eA, hbB, x0, x1, _, _⟩ := (HS.out.below (hb.mono hB)).at_ hkl
      subst eA
      have hpar := HT.out.par hk0 (by rw [HDL.out]; omega)
      have hpg := par_get l hkl
      rw [hpar.2] at hpg
      rw [← hpg] at x0
      have hup := up_step (dat l) (f := f) (by omega) hk0
      rw [name_at l hkl] at hup
      obtain ⟨nm, hnm⟩ : ∃ nm, nm = l[k].d.n := ⟨_, rfl⟩
      rw [← hnm] at x1 hup
      have hpl := hpar.1
      have HPG := Lib.hid hpg.symm
      generalize parM (dat l) k = p at *
      have HUP := Lib.hid hup
      have hbw := hb.size
      rw [← hm] at hown
      have HO := Lib.hid hown
      rw [← hm] at hxl
      rw [← hm]
      clear hx hown hb hpar hpg hnm hup hm
      go_wp2_with (first
        | (at_builtin; refine wpList_push rfl (.tmp 15) (.tmp 21) 71 rfl w.heap.size 9 i0 _ 1 16 Tryd.underlying71 fi fz0 fz1 fz2 rfl (by decide) _ m (strV xs) rfl HO.out #[.string nm] rfl rfl ?_ ?_ ?_ ?_ ?_))
      · first | rfl | (intro u hu; simp at hu; subst hu; rfl)
      · unfold maxLen; omega
      · omega
      · exact hbw
      intro A5 c5 w5 hown5 hp5
      have ho : w5.ownsRow w.heap.size 9 1 (.slice A5 (xs ++ [nm]).length c5) (xs ++ [nm]).length (strV (xs ++ [nm])) := by
        have e1 : (xs ++ [nm]).length = m + 1 := by rw [List.length_append, ← HM.out]; rfl
        rw [e1]
        have : strV (xs ++ [nm]) = strV xs ++ [.string nm] := by unfold strV; simp
        rw [this]
        simpa using hown5
      have hsm : m + 1 = (xs ++ [nm]).length := by rw [List.length_append, ← HM.out]; rfl
      have HO5 := Lib.hid ho
      have HB5 := Lib.hid (HB.out.trans hp5.low)
      have hx2 : (xs ++ [nm]).map (·.data.toList) ++ upG (dat l) (f - 1) p = U := by
        rw [← HX.out, HUP.out]; simp
      have HX2 := Lib.hid hx2
      obtain ⟨b', off', eA, _, y0, _⟩ := (HS.out.below (HB5.out.mono hB)).at_ hkl
      injection eA with eA
      injection eA with e1 e2 e3
      subst e1; subst e2
      rw [HPG.out] at y0
      have HSM := Lib.hid hsm
      clear hown5 hp5 ho hx2 hsm
      go_wp2_with fail
      refine ⟨⟨p, f - 1, c5, A5, xs ++ [nm], by omega, by omega, rfl, by rw [HSM.out], HX2.out, HO5.out, HB5.out⟩, by simp [RowKit.intOf]; omega⟩
    · obtain rfl : k = 0 := by omega
      rw [up_zero, List.append_nil] at hx
      have hpos : 0 < xs.length := by
        rcases Nat.eq_zero_or_pos xs.length with h | h
        · obtain rfl : xs = [] := List.eq_nil_of_length_eq_zero h
          exfalso
          have := HU.out
          rw [← hx, up_step _ hip hip] at this
          simp at this
        · exact h
      have hcc : xs.length ≤ c := by
        rcases hown.2 with ⟨h, _⟩ | ⟨g, cap', cur, hv, h1, h2, h3, h4, _⟩
        · injection h; omega
        · injection hv with _ _ h; omega
      have hsz : ∀ x ∈ xs.reverse, x.data.toList.length ≤ 31 := fun x hx' => HUN.out _ (by rw [← hx]; exact List.mem_map_of_mem (List.mem_reverse.1 hx'))
      have hrev := rev_strs w.heap.size A' c m xs hm wr hb.size (by rw [hm]; exact hown)
      have hjn : ∀ w1, Seg w1 w1.heap.size A' (strV xs.reverse) → Calls Tryd.prog 71 #[.slice A' m c, .string ⟨#[47]⟩] w1 fun e w' => e = .returned (.string ⟨(Lib.join (xs.reverse.map (·.data.toList)) [47]).toArray⟩) ∧ Below w1.heap.size w1 w' := fun w1 hs1 => by
        rw [hm, show xs.length = xs.reverse.length by simp]
        exact join_seg A' c xs.reverse (by simpa using hpos) (by simp; omega) (by simpa using hcc) hsz w1 hs1
      have hfin : (⟨#[47]⟩ : ByteArray) ++ ⟨(Lib.join (xs.reverse.map (·.data.toList)) [47]).toArray⟩ = pathB (dat l) i := by
        refine bytes_eq ?_
        rw [List.map_reverse, hx]
        have e : (pathB (dat l) i).data.toList = pathL (dat l) i := rfl
        rw [e, ← HPJ.out]
        simp [ByteArray.data_append]
      have hJz : (⟨(Lib.join (xs.reverse.map (·.data.toList)) [47]).toArray⟩ : ByteArray).size ≤ 16384 := by
        have hl := join_len (xs.reverse.map (·.data.toList)) (fun x hx => by obtain ⟨y, hy, rfl⟩ := List.mem_map.1 hx; exact hsz y hy)
        rw [List.length_map, List.length_reverse] at hl
        show (Lib.join _ [47]).length ≤ _
        omega
      rw [← hm]
      generalize (⟨(Lib.join (xs.reverse.map (·.data.toList)) [47]).toArray⟩ : ByteArray) = J at *
      have HJ := Lib.hid hjn
      have HR := Lib.hid hrev
      have HFIN := Lib.hid hfin
      clear hx hown hb hm hxl hjn hrev hfin hsz HUN hpos hcc
      go_wp2_with (first
        | (go_at_call 70; refine HR.out.mono ?_; rintro e w1 ⟨rfl, hsg, hb1⟩; have HSG := Lib.hid hsg; have HB1 := Lib.hid (HB.out.trans hb1); clear hsg hb1)
        | (go_at_call 71; refine (HJ.out w1 HSG.out).mono ?_; rintro e w2 ⟨rfl, hb2⟩; have HB2 := Lib.hid (below_next HB1.out hb2); clear hb2))
      go_ret
      exact ⟨by rw [← HFIN.out]; rfl, HB2.out⟩
end Go.Proofs.YtmdnbajbfnhecaaDoor
