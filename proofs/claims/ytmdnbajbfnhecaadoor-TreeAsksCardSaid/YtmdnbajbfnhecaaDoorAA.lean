/- A place asked by both sides: the contract. -/
import Derived.Test.YtmdnbajbfnhecaaDoorAC
set_option linter.unusedVariables false
namespace Go.Proofs.YtmdnbajbfnhecaaDoor
open Go.RowKit
theorem splitC_len (c : UInt8) : ∀ s : List UInt8, (splitC c s).length ≤ s.length + 1
  | [] => by simp [splitC]
  | b :: r => by
    have ih := splitC_len c r
    rw [splitC]
    split
    · simp only [List.length_cons]; omega
    · split
      · simp
      · rename_i h t he
        rw [he] at ih
        simp only [List.length_cons] at ih ⊢
        omega
theorem texts_len {v : List UInt8} {ts : List (List UInt8)} (h : textsL v = some ts) : ts.length ≤ v.length := by
  unfold textsL at h
  split at h
  · injection h with h; subst h; simp
  · split at h
    · injection h with h
      subst h
      have := splitC_len 0 v
      unfold headsC
      rw [List.length_dropLast]
      omega
    · cases h
theorem comp_len {l : List Nm} (i : Int) : (compL (dat l) i).length ≤ 1048576 := by
  unfold compL
  split
  · rename_i h0
    obtain ⟨hf, h5, k, rfl, hk⟩ := wrong_zero h0
    have hkl : k < l.length := by rwa [dat_len] at hk
    rw [Int.toNat_natCast, props_dat hkl]
    unfold saysL
    cases hT : textsL (valS l[k].d.ps kCo).data.toList with
    | none => simp
    | some ts =>
      have := texts_len hT
      have h2 := val_le (k := kCo) (fine_vals hf _ (List.getElem_mem hkl))
      rw [data_len] at this
      show ts.length ≤ _
      omega
  · simp
theorem TxAt.len {w : World} {A : Option Addr} {m : Nat} {ts : List (List UInt8)} (h : TxAt w A m ts) : m = ts.length := by
  obtain ⟨bs, h1, _, h3⟩ := h
  rw [h1, ← h3, List.length_map]
set_option maxRecDepth 100000 in
set_option maxHeartbeats 8000000 in
theorem asks_any (A1 : Option Addr) (c1 n : Nat) (l1 : List Nm) (hn1 : n = l1.length) (hz1 : Sized l1) (A : Option Addr) (c : Nat) (la : List Nm) (hn : n = la.length) (hz : Sized la) (hd : dat l1 = dat la) (i : Int) (key : ByteArray) (w : World) (hv0 : Var0 w) (hw0 : 0 < w.heap.size) (hs1 : Nodes w w.heap.size A1 l1) (hs : Nodes w w.heap.size A la) :
    Calls Tryd.prog 25 #[.slice A1 n c1, .slice A n c, .int .i64 i, .string key] w fun e w' => e = .returned (.bool true) ∧ Below w.heap.size w w' := by
  have hcl := comp_len (l := la) i
  have h47 := fun w1 (hb : Below w.heap.size w w1) => pvalue_any A1 c1 n l1 hn1 hz1 i key w1  w.heap.size hb.size (hs1.below hb)
  have h48 := fun w1 (hb : Below w.heap.size w w1) => rvalue2_any A c n la hn hz i key w1  w.heap.size hb.size (hs.below hb)
  have h49 := fun w1 (hb : Below w.heap.size w w1) => phandof_any A1 c1 n l1 hn1 hz1 i  w1  w.heap.size hb.size (hs1.below hb)
  have h50 := fun w1 (hb : Below w.heap.size w w1) => rhandof_any A c n la hn hz i  w1  w.heap.size hb.size (hs.below hb)
  have h51 := fun w1 (hb : Below w.heap.size w w1) => penabled_any A1 c1 n l1 hn1 hz1 i  w1 (hv0.below hb hw0) (Nat.lt_of_lt_of_le hw0 hb.size) w.heap.size hb.size (hs1.below hb)
  have h52 := fun w1 (hb : Below w.heap.size w w1) => renabled_any A c n la hn hz i  w1  w.heap.size hb.size (hs.below hb)
  have h53 := fun w1 (hb : Below w.heap.size w w1) => pplain_any A1 c1 n l1 hn1 hz1 i  w1 (hv0.below hb hw0) (Nat.lt_of_lt_of_le hw0 hb.size) w.heap.size hb.size (hs1.below hb)
  have h54 := fun w1 (hb : Below w.heap.size w w1) => rplain_any A c n la hn hz i  w1  w.heap.size hb.size (hs.below hb)
  have h55 := fun w1 (hb : Below w.heap.size w w1) => pcompat_any A1 c1 n l1 hn1 hz1 i  w1 (hv0.below hb hw0) (Nat.lt_of_lt_of_le hw0 hb.size) w.heap.size hb.size (hs1.below hb)
  have h56 := fun w1 (hb : Below w.heap.size w w1) => rcompat_any A c n la hn hz i  w1  w.heap.size hb.size (hs.below hb)
  rw [hd] at h47 h49 h51 h53 h55
  generalize valueV (dat la) i key = V at *
  generalize handofV (dat la) i = H at *
  generalize onV (dat la) i = O at *
  generalize plainV (dat la) i = P at *
  generalize compL (dat la) i = C at *
  generalize wrongF (dat la) i = W at *
  obtain ⟨V1, V2⟩ := V
  obtain ⟨H1, H2⟩ := H
  simp only at h47 h48 h49 h50
  have K47 := Lib.hid h47
  have K48 := Lib.hid h48
  have K49 := Lib.hid h49
  have K50 := Lib.hid h50
  have K51 := Lib.hid h51
  have K52 := Lib.hid h52
  have K53 := Lib.hid h53
  have K54 := Lib.hid h54
  have K55 := Lib.hid h55
  have K56 := Lib.hid h56
  clear h47 h48 h49 h50 h51 h52 h53 h54 h55 h56 hn1 hn hz1 hz hd hv0 hs1 hs
  have e1 : (V1.toList == V1.toList) = true := by simp
  have e2 : (V1.toList != V1.toList) = false := by simp
  go_enter Tryd.func25, Tryd.ntmps25
  go_wp2_with (first
    | (go_at_call 57
       refine (sametx_any A3 c3 m3 A4 c4 m4 C _ (HT3.out.below HB10b.out) HT4.out (by rw [HT3.out.len]; omega)).mono ?_
       rintro e w11 ⟨rfl, hb11⟩
       have HB11 := Lib.hid (below_next HB10.out hb11)
       clear hb11)
    | (go_at_call 56; refine (K56.out w9 HB9.out).mono ?_; rintro e w10 ⟨⟨A4, c4, m4, rfl, ht4⟩, hb10⟩; have HT4 := Lib.hid ht4; have HB10b := Lib.hid hb10; clear ht4; have HB10 := Lib.hid (below_next HB9.out hb10); clear hb10)
    | (go_at_call 55; refine (K55.out w8 HB8.out).mono ?_; rintro e w9 ⟨⟨A3, c3, m3, rfl, ht3⟩, hb9⟩; have HT3 := Lib.hid ht3; clear ht3; have HB9 := Lib.hid (below_next HB8.out hb9); clear hb9)
    | (go_at_call 54; refine (K54.out w7 HB7.out).mono ?_; rintro e w8 ⟨rfl, hb8⟩; have HB8 := Lib.hid (below_next HB7.out hb8); clear hb8)
    | (go_at_call 53; refine (K53.out w6 HB6.out).mono ?_; rintro e w7 ⟨rfl, hb7⟩; have HB7 := Lib.hid (below_next HB6.out hb7); clear hb7)
    | (go_at_call 52; refine (K52.out w5 HB5.out).mono ?_; rintro e w6 ⟨rfl, hb6⟩; have HB6 := Lib.hid (below_next HB5.out hb6); clear hb6)
    | (go_at_call 51; refine (K51.out w4 HB4.out).mono ?_; rintro e w5 ⟨rfl, hb5⟩; have HB5 := Lib.hid (below_next HB4.out hb5); clear hb5)
    | (go_at_call 50; refine (K50.out w3 HB3.out).mono ?_; rintro e w4 ⟨rfl, hb4⟩; have HB4 := Lib.hid (below_next HB3.out hb4); clear hb4)
    | (go_at_call 49; refine (K49.out w2 HB2.out).mono ?_; rintro e w3 ⟨rfl, hb3⟩; have HB3 := Lib.hid (below_next HB2.out hb3); clear hb3)
    | (go_at_call 48; refine (K48.out w1 HB1.out).mono ?_; rintro e w2 ⟨rfl, hb2⟩; have HB2 := Lib.hid (below_next HB1.out hb2); clear hb2)
    | (go_at_call 47; refine (K47.out w (Below.refl _ _)).mono ?_; rintro e w1 ⟨rfl, hb1⟩; have HB1 := Lib.hid hb1; clear hb1))
  go_ret
  exact ⟨rfl, HB11.out⟩
end Go.Proofs.YtmdnbajbfnhecaaDoor
