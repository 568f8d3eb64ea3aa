/- The walk of ClocksRest: gets, as many puts in whatever order, all is off. Conditions: the lengths' bounds that every row says. -/
import Derived.Test.YtbahclnpgdejlaaRestA
import Derived.Test.YtbahclnpgdejlaaDelete
import Derived.Test.YtbahclnpgdejlaaAwake
import Derived.Lib.OwnKind
import Derived.Deep.CutRange
import Derived.Deep.DeepCutAuto
import Derived.Deep.RegionLaw
set_option linter.unusedVariables false
namespace Go.Proofs.Ytbahclnpgdejlaa
open Go.RowKit
theorem own_front {w : World} {base n c : Nat} {A : Option Addr} {xs ys : List Value} (h : w.ownsRow base 30 7 (.slice A (n + 1 : Nat) c) (n + 1) (xs ++ ys)) : Seg w w.heap.size A xs := fun hx => by
  obtain ⟨b, off, e1, e2, e3⟩ := own_seg h (by simp [hx])
  exact ⟨b, off, e1, e2, fun j u hu => e3 j u (by rw [List.getElem?_append_left (List.getElem?_eq_some_iff.1 hu).1]; exact hu)⟩
theorem Rest.keep {w w' : World} {B nb n gu gh cc cr cu ch : Nat} {Ac Ar : Option Addr} {l : List Clk} {rs : List Int} {held : List Nat} (h : Rest w B nb n Ac Ar gu gh cc cr cu ch l rs held)
    (hk : ∀ g cur e, w.heap[g]? = some (.cells cur e (0, 0)) → (e ≠ 3 ∨ g = gu ∨ g = gh) → w'.heap[g]? = w.heap[g]?) : Rest w' B nb n Ac Ar gu gh cc cr cu ch l rs held := by
  obtain ⟨us, hs, h1, h2⟩ := h
  have kv : ∀ A e xs, (e ≠ 3 ∨ A = some ⟨gu, 0, none⟩ ∨ A = some ⟨gh, 0, none⟩) → Vec w B A e xs → Vec w' B A e xs := fun A e xs he hv hx => by
    obtain ⟨g, rfl, hb, hrg⟩ := hv hx
    obtain ⟨cur, hh, _⟩ := id hrg
    refine ⟨g, rfl, hb, hrg.keep (hk g cur e hh ?_)⟩
    rcases he with he | he | he
    · exact .inl he
    · injection he with he; injection he with he; exact .inr (.inl he)
    · injection he with he; injection he with he; exact .inr (.inr he)
  exact ⟨us, hs, ⟨h1.low, h1.len, h1.lenr, h1.lenu, h1.lenh, (hk nb _ _ h1.box (.inl (by decide))).trans h1.box, kv _ _ _ (.inl (by decide)) h1.vc, kv _ _ _ (.inl (by decide)) h1.vr, kv _ _ _ (.inr (.inl rfl)) h1.vu, kv _ _ _ (.inr (.inr rfl)) h1.vh, h1.ne⟩, h2⟩
/-- What an append to the call's own row leaves of the net. -/
theorem Rest.grown {w w' : World} {B nb n gu gh cc cr cu ch m base : Nat} {Ac Ar : Option Addr} {l : List Clk} {rs : List Int} {held : List Nat} {v : Value} {xs : List Value} {o : Obj} (h : Rest w B nb n Ac Ar gu gh cc cr cu ch l rs held)
    (ho : w.ownsRow base 3 1 v m xs) (h1 : gu < base) (h2 : gh < base) (hg : (w.alloc o).grownBy w' v.ownBlock) : Rest w' B nb n Ac Ar gu gh cc cr cu ch l rs held := by
  refine h.keep fun g cur e hh he => ?_
  have hlt := lt_of_heap hh
  refine (hg.block g (by simp; omega) (fun e2 => ?_)).trans (Below.heap_alloc _ _ _ hlt)
  obtain ⟨c, fz, hk⟩ := Go.Lib.ownsRow_kind ho g e2.symm
  have hlow := (ho.lt g e2.symm).1
  rw [hk] at hh
  injection hh with hh
  injection hh with _ ht _
  rcases he with he | he | he
  · exact he ht.symm
  · omega
  · omega
theorem count_erase (l : List Nat) (k : Nat) (h : k < l.length) (j : Nat) : l.count j = (l.take k ++ l.drop (k + 1)).count j + (if j = l[k] then 1 else 0) := by
  have e : l = l.take k ++ l[k] :: l.drop (k + 1) := by rw [← List.drop_eq_getElem_cons h, List.take_append_drop]
  have := congrArg (List.count j) e
  rw [this, List.count_append, List.count_append, List.count_cons]
  by_cases h2 : j = l[k]
  · rw [if_pos h2, if_pos (by simp [h2])]; omega
  · rw [if_neg h2, if_neg (by simpa using fun h => h2 h.symm)]; omega
theorem heap_setCells_ne (g : Nat) : ∀ (vs : List Value) (o : Nat) (w : World) (k : Nat), k ≠ g → (w.setCells g o vs).heap[k]? = w.heap[k]?
  | [], _, _, _, _ => rfl
  | v :: vs, o, w, k, h => (heap_setCells_ne g vs (o + 1) (w.setCell ⟨g, o, none⟩ v) k h).trans (Below.heap_setCell _ _ _ _ h)
theorem below_setCells {B : Nat} {w0 : World} (g : Nat) (hg : B ≤ g) : ∀ (vs : List Value) (o : Nat) (w : World), Below B w0 w → Below B w0 (w.setCells g o vs)
  | [], _, _, h => h
  | v :: vs, o, w, h => below_setCells g hg vs (o + 1) (w.setCell ⟨g, o, none⟩ v) (h.setCell (p := ⟨g, o, none⟩) hg v)
theorem size_setCells (g : Nat) : ∀ (vs : List Value) (o : Nat) (w : World), (w.setCells g o vs).heap.size = w.heap.size
  | [], _, _ => rfl
  | v :: vs, o, w => (size_setCells g vs (o + 1) (w.setCell ⟨g, o, none⟩ v)).trans (by simp [World.setCell])
theorem Rest.deleted {w : World} {B nb n gu gh cc cr cu ch cap h base g o : Nat} {Ac Ar : Option Addr} {l : List Clk} {rs : List Int} {held : List Nat} {xs vs : List Value} (hr : Rest w B nb n Ac Ar gu gh cc cr cu ch l rs held)
    (ho : w.ownsRow base 3 1 (.slice (some ⟨g, 0, none⟩) h cap) h xs) (h0 : 0 < h) (h1 : gu < base) (h2 : gh < base) : Rest (w.setCells g o vs) B nb n Ac Ar gu gh cc cr cu ch l rs held := by
  obtain ⟨g', hg', hb, _, hrow⟩ := RowAt.of_own ho h0
  obtain rfl : g = g' := by injection hg' with hg'; injection hg'
  obtain ⟨cur0, hc0, _⟩ := hrow
  refine hr.keep fun k cur e hh he => heap_setCells_ne g vs o w k ?_
  rintro rfl
  rw [hc0] at hh
  injection hh with hh
  injection hh with _ ht _
  rcases he with he | he | he
  · exact he ht.symm
  · omega
  · omega
def u8s (zs : List Int) : List Value := zs.map (.int .u8)
set_option maxRecDepth 100000 in
set_option maxHeartbeats 4000000 in
theorem rest_walk (A A1 A2 : Option Addr) (cap cap1 cap2 n m1 m2 : Nat) (l : List Clk) (z1 z2 : List Int) (hn : n = l.length) (hm1 : m1 = z1.length) (hm2 : m2 = z2.length) (w : World)
    (hs : Seg w w.heap.size A (clkCells l)) (hs1 : Seg w w.heap.size A1 (u8s z1)) (hs2 : Seg w w.heap.size A2 (u8s z2)) (hl : n ≤ 2513169434843) (hb1 : ∀ z ∈ z1, 0 ≤ z ∧ z ≤ 255) (hb2 : ∀ z ∈ z2, 0 ≤ z ∧ z ≤ 255)
    (hl1 : m1 ≤ 140737488351232) (hl2 : m2 ≤ 140737488351232) :
    Calls Try.prog 4 #[.slice A n cap, .slice A1 m1 cap1, .slice A2 m2 cap2] w fun e w' => e = .returned (.bool true) ∧ Below w.heap.size w w' := by
  have hown := own_any A cap l n hn w w.heap.size (Nat.le_refl _) hs hl
  have HN := Lib.hid hn
  have HM1 := Lib.hid hm1
  have HM2 := Lib.hid hm2
  have HB1 := Lib.hid hb1
  have HB2 := Lib.hid hb2
  have HO := Lib.hid hown
  clear hn hm1 hm2 hb1 hb2 hown
  rcases hm : mayB l with _ | _
  · have HM := Lib.hid hm
    clear hm
    go_enter Try.func4, Try.ntmps4
    go_wp2_with (first
      | (go_at_call 11; refine HO.out.mono ?_; rintro e w1 ⟨A', c', rfl, hrow, hb⟩; have hB := Lib.hid hb; have hR := Lib.hid hrow; clear hb hrow)
      | (go_at_call 7; refine (new_no A' c' l n HN.out w1 w1.heap.size (Nat.le_refl _) (own_front hR.out) (by omega) HM.out).mono ?_; rintro e w2 ⟨rfl, hb2⟩; have hB2 := Lib.hid hb2; clear hb2)
      | (go_at_call 10; refine (awake_any _).mono ?_; rintro e w3 ⟨rfl, hb3⟩))
    go_ret
    exact ⟨rfl, (hB.out.trans (hB2.out.mono hB.out.size)).trans (hb3.mono (Nat.le_trans hB.out.size hB2.out.size))⟩
  by_cases hf : ∃ j, j < n ∧ fitsAt l j = false
  · have HM := Lib.hid hm
    have HF := Lib.hid hf
    clear hm hf
    go_enter Try.func4, Try.ntmps4
    go_wp2_with (first
      | (go_at_call 11; refine HO.out.mono ?_; rintro e w1 ⟨A', c', rfl, hrow, hb⟩; have hB := Lib.hid hb; have hR := Lib.hid hrow; clear hb hrow)
      | (go_at_call 7; refine (new_out A' c' l n HN.out w1 w1.heap.size (Nat.le_refl _) (own_front hR.out) (by omega) HM.out HF.out).mono ?_; rintro e w2 ⟨rfl, hb2⟩; have hB2 := Lib.hid hb2; clear hb2)
      | (go_at_call 10; refine (awake_any _).mono ?_; rintro e w3 ⟨rfl, hb3⟩))
    go_ret
    exact ⟨rfl, (hB.out.trans (hB2.out.mono hB.out.size)).trans (hb3.mono (Nat.le_trans hB.out.size hB2.out.size))⟩
  have hfit : ∀ j, j < n → fitsAt l j = true := fun j hj => by
    rcases h : fitsAt l j with _ | _
    · exact absurd ⟨j, hj, h⟩ hf
    · rfl
  have hgood : Good l := (mayB_iff.1 hm).2
  have hn5 : n ≤ 512 := by rw [HN.out]; exact (mayB_iff.1 hm).1
  have HM := Lib.hid hm
  have HF := Lib.hid hfit
  have HG := Lib.hid hgood
  clear hm hf hfit hgood
  by_cases h0 : n = 0
  · subst h0
    go_enter Try.func4, Try.ntmps4
    go_wp2_with (first
      | (go_at_call 11; refine HO.out.mono ?_; rintro e w1 ⟨A', c', rfl, hrow, hb⟩; have hB := Lib.hid hb; have hR := Lib.hid hrow; clear hb hrow)
      | (go_at_call 7; refine (new_ok A' c' l 0 HN.out w1 w1.heap.size (Nat.le_refl _) (own_front hR.out) (by omega) HM.out HF.out).mono ?_; rintro e w2 ⟨nb, rfl, _, hb2⟩; have hB2 := Lib.hid hb2; clear hb2)
      | (go_at_call 10; refine (awake_any _).mono ?_; rintro e w3 ⟨rfl, hb3⟩))
    go_ret
    exact ⟨rfl, (hB.out.trans (hB2.out.mono hB.out.size)).trans (hb3.mono (Nat.le_trans hB.out.size hB2.out.size))⟩
  have hnp : 0 < n := by omega
  obtain ⟨i3, fi, fz0, fz1, fz2⟩ := info_parts Try.info3
  have hnz : ((n : Int) == 0) = false := by simp; omega
  clear h0
  go_enter Try.func4, Try.ntmps4
  go_wp2_with (first
    | (go_at_call 11; refine HO.out.mono ?_; rintro e w1 ⟨A', c', rfl, hrow, hb⟩; have hB := Lib.hid hb; have hR := Lib.hid hrow; clear hb hrow)
    | (go_at_call 7; refine (new_ok A' c' l n HN.out w1 w1.heap.size (Nat.le_refl _) (own_front hR.out) (by omega) HM.out HF.out).mono ?_; rintro e w2 ⟨nb, rfl, hnet, hb2⟩; have hB2 := Lib.hid (hB.out.trans (hb2.mono hB.out.size)); have hNET := Lib.hid hnet; clear hb2 hnet))
  obtain ⟨Ac, Ar, gu, gh, cc, cr, cu, ch, hrest, q1, q2, q3, q4⟩ := rest_new hNET.out hnp
  have HR := Lib.hid hrest
  have hw1 := hB.out.size
  clear hrest
  go_loopw [9, 10] (fun hv iv wr => ∃ (i : Nat) (held : List Nat), i ≤ m1 ∧ i ≤ 40 ∧ iv = .int .i64 i ∧ held.length = i ∧ (∀ x ∈ held, x < n) ∧ (∃ A c, hv = .slice A i c) ∧ wr.ownsRow w2.heap.size 3 1 hv i (i64s (held.map Int.ofNat)) ∧
    Rest wr w1.heap.size nb n Ac Ar gu gh cc cr cu ch l (ratesOf l) held ∧ Below w.heap.size w wr ∧ w2.heap.size ≤ wr.heap.size) (fun _ iv _ => 40 - (intOf iv).toNat)
  case atStart => exact ⟨0, [], by omega, by omega, rfl, rfl, by simp, ⟨none, 0, rfl⟩, World.ownsRow_nil _ _ _ _, HR.out, hB2.out, Nat.le_refl _⟩
  case round =>
    obtain ⟨i, held, hi1, hi2, rfl, hhl, hhn, ⟨Ah, cah, rfl⟩, hown, hrest, hbw, hsz⟩ := hrel
    have HHL := Lib.hid hhl
    have HHN := Lib.hid hhn
    have HO2 := Lib.hid hown
    have HRS := Lib.hid hrest
    have HBW := Lib.hid hbw
    clear hhl hhn hown hrest hbw
    by_cases hlt : i < m1 ∧ i < 40
    · obtain ⟨lt1, lt2⟩ := hlt
      have hiz : i < z1.length := by rw [← HM1.out]; exact lt1
      obtain ⟨b1, off1, rfl, hbb1, hcells1⟩ := (hs1.below HBW.out) (by intro e; have := congrArg List.length e; simp [u8s] at this; rw [this] at hiz; simp at hiz)
      have hz := hcells1 i (.int .u8 z1[i]) (by simp [u8s, hiz])
      obtain ⟨zz1, zz2⟩ := HB1.out z1[i] (List.getElem_mem hiz)
      obtain ⟨z, hzz⟩ : ∃ z, z = z1[i] := ⟨_, rfl⟩
      rw [← hzz] at hz zz1 zz2
      obtain ⟨kk, hkk⟩ := Int.eq_ofNat_of_zero_le (Int.emod_nonneg z (show (n : Int) ≠ 0 by omega))
      have hkn : kk < n := by have := Int.emod_lt_of_pos z (show (0 : Int) < n by omega); omega
      have hkt : z.tmod n = kk := by rw [Int.tmod_eq_emod_of_nonneg zz1, hkk]
      have hkk2 : z % (n : Int) = (kk : Int) := hkk
      have hnn : ¬ (n : Int) = 0 := by omega
      have hi1' : (i : Int) < (m1 : Int) := by omega
      clear hkk hzz hcells1
      go_wp2_with (first
        | (go_at_call 12; refine (rest_get HRS.out HG.out hn5 (by rw [HHL.out]; omega) hkn).mono ?_; rintro e w3 ⟨A3, m3, c3, rfl, hr3, hf3⟩; have HR3 := Lib.hid hr3; have HO3 := Lib.hid (own_frame HO2.out hf3 (fun g hg => by have := (HO2.out.lt g hg).1; show ¬ (g = gu ∨ g = gh); omega)); have HF3 := Lib.hid hf3; have hs3 := hf3.size; clear hr3 hf3)
        | (go_at_call 13; refine (rest_on HR3.out hkn (by simp)).mono ?_; rintro e w' ⟨rfl, rfl⟩)
        | (at_builtin; refine wpList_append_seg _ rfl (.tmp 67) (.tmp 69) 40 rfl w2.heap.size 3 i3 _ 1 8 Try.underlying40 fi fz0 fz1 fz2 rfl (by decide) _ i (i64s (held.map Int.ofNat)) rfl (HO3.out.alloc _) (w3.heap.size + 1) (some ⟨w3.heap.size, 0, none⟩) 1 1 [.int .i64 kk] rfl rfl (seg_new w3 3 #[.int .i64 kk]) ?_ ?_ ?_ ?_ ?_))
      · first | exact rfl | (intro u hu; simp at hu; subst hu; rfl)
      · unfold maxLen; omega
      · omega
      · simp; omega
      intro v4 w4 hown4 hg4 _
      obtain ⟨A4, c4, rfl⟩ := own_shape hown4
      have hR4 : Rest w4 w1.heap.size nb n Ac Ar gu gh cc cr cu ch l (ratesOf l) (held ++ [kk]) := HR3.out.grown HO3.out q3 q4 hg4
      have hB4 : Below w.heap.size w w4 := by
        have hb3 : Below w.heap.size w w3 := HBW.out.trans (HF3.out.toBelow HBW.out.size (fun j hj => by omega))
        refine (hb3.alloc hb3.size _).grown hg4 ?_ ?_
        · have := hb3.size; simp; omega
        · intro g hg; have := (HO3.out.lt g hg).1; have := hB2.out.size; omega
      have hall : ∀ x ∈ held ++ [kk], x < n := by
        intro x hx
        rcases List.mem_append.1 hx with hx | hx
        · exact HHN.out x hx
        · simp at hx; omega
      have HAL := Lib.hid hall
      have ht : i64s (held.map Int.ofNat) ++ [.int .i64 (kk : Int)] = i64s ((held ++ [kk]).map Int.ofNat) := by simp [i64s]
      rw [ht] at hown4
      have hs4 := hg4.size
      have H4 := Lib.hid hown4
      have HR4 := Lib.hid hR4
      have HB4 := Lib.hid hB4
      clear hown4 hR4 hB4 hg4 ht hall
      go_wp2
      go_roundw
      case rel => exact ⟨i + 1, held ++ [kk], by omega, by omega, by go_num, by simp [HHL.out], HAL.out, ⟨A4, c4, rfl⟩, H4.out, HR4.out, HB4.out, (by simp at hs4; omega)⟩
      case measure => simp [intOf]; omega
    · clear hs1
      rcases (show m1 ≤ i ∨ (i < m1 ∧ 40 ≤ i) by omega) with hx | ⟨hx, hx2⟩
      all_goals
        go_wp2_with fail
        go_loopw [9, 14] (fun hv jv wr => ∃ (j : Nat) (held : List Nat), j + held.length ≤ 40 ∧ jv = .int .i64 j ∧ (∀ x ∈ held, x < n) ∧ (∃ A c, hv = .slice A held.length c) ∧ wr.ownsRow w2.heap.size 3 1 hv held.length (i64s (held.map Int.ofNat)) ∧
          Rest wr w1.heap.size nb n Ac Ar gu gh cc cr cu ch l (ratesOf l) held ∧ Below w.heap.size w wr ∧ w2.heap.size ≤ wr.heap.size) (fun hv _ _ => match hv with | .slice _ m _ => m | _ => 0)
        case atStart => exact ⟨0, held, by have := HHL.out; omega, rfl, HHN.out, ⟨Ah, cah, by rw [HHL.out]⟩, by rw [HHL.out]; exact HO2.out, HRS.out, HBW.out, hsz⟩
        case round =>
          obtain ⟨j, held, hj, rfl, hhn, ⟨Ah2, cah2, rfl⟩, hown, hrest, hbw, hsz2⟩ := hrel
          have HN2 := Lib.hid hhn
          have HO5 := Lib.hid hown
          have HRS5 := Lib.hid hrest
          have HBW5 := Lib.hid hbw
          clear hhn hown hrest hbw
          by_cases hh0 : held.length = 0
          · obtain rfl : held = [] := List.eq_nil_of_length_eq_zero hh0
            clear hh0 HO5 HN2
            simp only [List.length_nil] at *
            go_wp2_with fail
            go_loopw [18] (fun v wr => ∃ k : Nat, k ≤ n ∧ v = .int .i64 k ∧ Rest wr w1.heap.size nb n Ac Ar gu gh cc cr cu ch l (ratesOf l) [] ∧ Below w.heap.size w wr) (fun v _ => n - (intOf v).toNat)
            case atStart => exact ⟨0, by omega, rfl, HRS5.out, HBW5.out⟩
            case round =>
              obtain ⟨k, hk, rfl, hr6, hb6⟩ := hrel
              have HR6 := Lib.hid hr6
              have HB6 := Lib.hid hb6
              clear hr6 hb6
              by_cases hkn : k < n
              · have hki : (k : Int) < (n : Int) := by omega
                go_wp2_with (first
                  | (go_at_call 14; refine (rest_end_put HR6.out hkn).mono ?_; rintro e w' ⟨rfl, rfl⟩)
                  | (go_at_call 13; refine (rest_end_on HR6.out HG.out hkn).mono ?_; rintro e w' ⟨rfl, rfl⟩)
                  | (go_at_call 15; refine (rest_end_users HR6.out hkn).mono ?_; rintro e w' ⟨rfl, rfl⟩))
                go_roundw
                case rel => exact ⟨k + 1, by omega, by go_num, HR6.out, HB6.out⟩
                case measure => simp [intOf]; omega
              · obtain rfl : k = n := by omega
                go_wp2_with (go_at_call 10; refine (awake_any _).mono ?_; rintro e w7 ⟨rfl, hb7⟩)
                go_ret
                exact ⟨rfl, HB6.out.trans (hb7.mono HB6.out.size)⟩
          · obtain ⟨h, hh⟩ : ∃ h, h = held.length := ⟨_, rfl⟩
            have hown5 := HO5.out
            rw [← hh] at hown5 hj hh0 ⊢
            have HH := Lib.hid hh
            obtain ⟨g, rfl, hg1, hg2, hrow⟩ := RowAt.of_own hown5 (by omega)
            have HO6 := Lib.hid hown5
            have HROW := Lib.hid hrow
            clear hown5 hrow hh HO5
            have hcond : ∀ t : Bool, t = true ∨ t = false := by intro t; cases t <;> simp
            go_upto_if 79 with fail
            go_cut [15] from 71 to 106 (fun kv wx => (∃ kk : Nat, kk < h ∧ kv = .int .i64 kk) ∧ wr = wx)
            case first =>
              rcases (show j < m2 ∨ m2 ≤ j by omega) with hjm | hjm
              · have hjz : j < z2.length := by rw [← HM2.out]; exact hjm
                obtain ⟨b2, off2, rfl, hbb2, hcells2⟩ := (hs2.below HBW5.out) (by intro e; have := congrArg List.length e; simp [u8s] at this; rw [this] at hjz; simp at hjz)
                have hz := hcells2 j (.int .u8 z2[j]) (by simp [u8s, hjz])
                obtain ⟨zz1, zz2⟩ := HB2.out z2[j] (List.getElem_mem hjz)
                obtain ⟨z, hzz⟩ : ∃ z, z = z2[j] := ⟨_, rfl⟩
                rw [← hzz] at hz zz1 zz2
                obtain ⟨kk, hkk⟩ := Int.eq_ofNat_of_zero_le (Int.emod_nonneg z (show (h : Int) ≠ 0 by omega))
                have hkn : kk < h := by have := Int.emod_lt_of_pos z (show (0 : Int) < h by omega); omega
                have hkt : z.tmod h = kk := by rw [Int.tmod_eq_emod_of_nonneg zz1, hkk]
                have hkk2 : z % (h : Int) = (kk : Int) := hkk
                have hnn : ¬ (h : Int) = 0 := by omega
                have hji : (j : Int) < (m2 : Int) := by omega
                clear hkk hzz hcells2
                go_wp2_with fail
                go_meet
                exact ⟨⟨kk, hkn, rfl⟩, rfl⟩
              · go_wp2_with fail
                go_meet
                exact ⟨⟨0, by omega, rfl⟩, rfl⟩
            case rest =>
              obtain ⟨⟨kk, hkk, rfl⟩, rfl⟩ := hcut
              have hkl : kk < held.length := by rw [← HH.out]; exact hkk
              have hcx := HROW.out.cell (k := kk) (by simp [i64s]; exact hkl)
              have hce := count_erase held kk hkl
              have hxn := HN2.out held[kk] (List.getElem_mem hkl)
              have hxm : held[kk] ∈ held := List.getElem_mem hkl
              have hgx : (i64s (held.map Int.ofNat))[kk]? = some (.int .i64 (held[kk] : Nat)) := by simp [i64s, hkl]
              rw [hgx] at hcx
              clear hgx
              obtain ⟨x, hx⟩ : ∃ x, x = held[kk] := ⟨_, rfl⟩
              rw [← hx] at hcx hce hxn hxm
              have HCE := Lib.hid hce
              have HX := Lib.hid hx
              clear hce hx
              have hkh : (kk : Int) < (h : Int) := by omega
              go_upto_region 22 with (go_at_call 14; refine (rest_put HRS5.out HG.out hn5 (by rw [← HH.out]; omega) hxn hxm (held.take kk ++ held.drop (kk + 1)) HCE.out).mono ?_; rintro e w3 ⟨A3, m3, c3, rfl, hr3, hf3⟩; have HR3 := Lib.hid hr3; have HO3 := Lib.hid (own_frame HO6.out hf3 (fun g hg => by have := (HO6.out.lt g hg).1; show ¬ (g = gu ∨ g = gh); omega)); have HF3 := Lib.hid hf3; have hs3 := hf3.size; clear hr3 hf3)
              have hrow3 := RowAt.of_own HO3.out (by omega)
              obtain ⟨g', hg', hg1', hg2', hrow3⟩ := hrow3
              obtain rfl : g = g' := by injection hg' with hg'; injection hg'
              obtain ⟨xs, hxs⟩ : ∃ xs, xs = i64s (held.map Int.ofNat) := ⟨_, rfl⟩
              have hxl : xs.length = h := by rw [hxs, i64s_len, List.length_map, ← HH.out]
              have hcap : h ≤ cah2 ∧ cah2 ≤ 9223372036854775807 := by
                rcases HO3.out.2 with ⟨_, h0⟩ | ⟨g', cap, cur, hv, _, _, hk1, hk2, _⟩
                · omega
                · injection hv with _ _ hv; unfold maxLen at hk2; omega
              obtain ⟨hcap1, hcap2⟩ := hcap
              rw [← hxs] at hrow3
              obtain ⟨AD, hAD, hnews⟩ : ∃ AD : Addr, (if cah2 = kk + 1 then some (⟨g, 0, none⟩ : Addr) else some ⟨g, kk + 1, none⟩) = some AD ∧ Hid (∀ j u, (xs.drop (kk + 1))[j]? = some u → w3.drew.cell? (AD.add j) = some u) := by
                by_cases hc : cah2 = kk + 1
                · refine ⟨⟨g, 0, none⟩, by simp [hc], fun j u hu => ?_⟩
                  rw [List.getElem?_eq_none (by simp; omega)] at hu
                  cases hu
                · refine ⟨⟨g, kk + 1, none⟩, by simp [hc], fun j u hu => ?_⟩
                  rw [List.getElem?_drop] at hu
                  rw [Addr.add_lit]
                  exact (hrow3.cell (List.getElem?_eq_some_iff.1 hu).1).trans hu
              have s1 : Hid ((xs.drop (kk + 1)).length = (h - (kk + 1)) * 1) := by show (xs.drop (kk + 1)).length = (h - (kk + 1)) * 1; rw [List.length_drop, hxl, Nat.mul_one]
              have s2 : Hid (∀ u ∈ xs.drop (kk + 1), u.oneCell' = true) := by
                intro u hu
                have := List.mem_of_mem_drop hu
                rw [hxs] at this
                simp only [i64s, List.mem_map] at this
                obtain ⟨_, _, rfl⟩ := this
                rfl
              have s3 : Hid (∀ j, j < (xs.drop (kk + 1)).length → (w3.drew.cell? ⟨g, 0 + kk * 1 + j, none⟩).isSome = true ∧ w3.drew.frozen? ⟨g, 0 + kk * 1 + j, none⟩ = false) := by
                intro j hj
                simp only [List.length_drop] at hj
                rw [Nat.mul_one, Nat.zero_add]
                refine ⟨?_, hrow3.frozen _⟩
                show (w3.cell? _).isSome = true
                rw [hrow3.cell (by omega), List.getElem?_eq_getElem (by omega)]
                rfl
              have hwr : IntKind.i64.wrap ((kk : Int) + 1) = (kk : Int) + 1 := by rw [IntKind.wrap_i64]; omega
              have hp0 : (0 : Int) ≤ (kk : Int) + 1 := by omega
              have hp1 : (kk : Int) + 1 ≤ (h : Int) := by omega
              have hp2 : ((kk : Int) + 1).toNat = kk + 1 := by omega
              have hic : kk ≤ cah2 := by omega
              have HXS := Lib.hid hxs
              have HXL := Lib.hid hxl
              clear hxs hxl hrow3 hg'
              go_region_law (refine step_append_room rfl (.tmp 101) (.tmp 105) 40 rfl 3 i3 1 Try.underlying40 fi fz1 g 0 kk cah2 (by simp [Act.eval, Act.put]) AD (h - (kk + 1)) (cah2 - (kk + 1)) (xs.drop (kk + 1)) (by simp [Act.eval, Act.put]) s1.out hnews.out s2.out (by omega) s3.out ?_)
              have hd1 : (w3.drew.setCells g kk (xs.drop (kk + 1))).ownsRow w2.heap.size 3 1 (.slice (some ⟨g, 0, none⟩) (kk + (h - (kk + 1))) cah2) (held.take kk ++ held.drop (kk + 1)).length (i64s ((held.take kk ++ held.drop (kk + 1)).map Int.ofNat)) := by
                have hh := HH.out
                have e1 : kk + (h - (kk + 1)) = h - 1 := by omega
                have e2 : (held.take kk ++ held.drop (kk + 1)).length = h - 1 := by simp; omega
                have e3 : i64s ((held.take kk ++ held.drop (kk + 1)).map Int.ofNat) = xs.take kk ++ xs.drop (kk + 1) := by rw [HXS.out]; simp [i64s]
                rw [e1, e2, e3]
                exact own_delete (by rw [HXS.out]; exact HO3.out.drew) hkk
              have hd2 : Rest (w3.drew.setCells g kk (xs.drop (kk + 1))) w1.heap.size nb n Ac Ar gu gh cc cr cu ch l (ratesOf l) (held.take kk ++ held.drop (kk + 1)) := Rest.deleted (w := w3.drew) (HR3.out.below (Below.refl _ _).drew) HO3.out.drew (by omega) q3 q4
              have hd3 : Below w.heap.size w (w3.drew.setCells g kk (xs.drop (kk + 1))) := below_setCells g (by have := hB2.out.size; omega) _ _ _ ((HBW5.out.trans (HF3.out.toBelow HBW5.out.size (fun j hj => by omega))).drew)
              have hd4 : w2.heap.size ≤ (w3.drew.setCells g kk (xs.drop (kk + 1))).heap.size := by rw [size_setCells]; exact Nat.le_trans hsz2 hs3
              have hd5 : ∀ x ∈ held.take kk ++ held.drop (kk + 1), x < n := fun x hx => HN2.out x ((List.mem_append.1 hx).elim List.mem_of_mem_take List.mem_of_mem_drop)
              have hd6 : (held.take kk ++ held.drop (kk + 1)).length = kk + (h - (kk + 1)) := by have hh := HH.out; simp; omega
              have HD1 := Lib.hid hd1
              have HD2 := Lib.hid hd2
              have HD3 := Lib.hid hd3
              have HD5 := Lib.hid hd5
              have HD6 := Lib.hid hd6
              clear hd1 hd2 hd3 hd5 hd6
              go_wp2_with fail
              refine ⟨⟨j + 1, held.take kk ++ held.drop (kk + 1), by have := HD6.out; omega, by go_num, HD5.out, ⟨_, _, by rw [HD6.out]⟩, HD1.out, HD2.out, HD3.out, hd4⟩, ?_⟩
              show kk + (h - (kk + 1)) < h
              omega
end Go.Proofs.Ytbahclnpgdejlaa
