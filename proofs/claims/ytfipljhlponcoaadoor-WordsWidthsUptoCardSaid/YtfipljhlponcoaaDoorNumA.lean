/- strconv.ParseInt and FormatInt, Number -/
import Derived.Test.YtfipljhlponcoaaDoorHexU
import Derived.Test.YtfipljhlponcoaaDoorHexF
import Derived.Lib.SmallJoins
set_option linter.unusedVariables false
namespace Go.Proofs.YtfipljhlponcoaaDoor
open Go.RowKit Go.Sort
theorem tabIs_below {w w' : World} {B : Nat} {name : String} {k : IntKind} {zs : List Int} (h : Lib.TabIs Tryd.prog w name k zs) (hb : Below w.heap.size w w') : Lib.TabIs Tryd.prog w' name k zs := by
  unfold Lib.TabIs World.var? at *
  cases hg : Tryd.prog.globalNamed name with
  | none => simp [hg] at h
  | some g =>
    simp only [hg, Option.bind_some] at h ⊢
    have hlt : g < w.heap.size := by
      rcases Nat.lt_or_ge g w.heap.size with h' | h'
      · exact h'
      · rw [Array.getElem?_eq_none h'] at h; simp at h
    rw [hb.block g hlt]
    exact h
theorem errCell_below {w w' : World} {b : Nat} (h : ErrCell w b) (hw : b < w.heap.size) (hb : Below w.heap.size w w') : ErrCell w' b := by
  obtain ⟨e, h, g⟩ := h
  exact ⟨e, by rw [hb.cell hw]; exact h, g⟩
/-- What ParseInt says of a text. -/
def intRes (s : ByteArray) : Int × Nat := match Lib.parseIntB 64 s.data.toList with
  | .ok v => (v, 0)
  | .range => (Lib.intSat 64 s.data.toList, 1)
  | _ => (0, 2)
theorem pint_any (s : ByteArray) (hz : s.size ≤ 281474976710656) (w : World) (h1 : ErrCell w 1) (h2 : ErrCell w 2) :
    Calls Tryd.prog 39 #[.string s, .int .i64 10, .int .i64 64] w fun e w' => (∃ ev, e = .returned (.tuple #[.int .i64 (intRes s).1, ev]) ∧ PErr (intRes s).2 ev) ∧ Below w.heap.size w w' := by
  obtain ⟨e1, h1, g1⟩ := h1
  obtain ⟨e2, h2, g2⟩ := h2
  cases h : Lib.parseIntB 64 s.data.toList with
  | ok v =>
    refine (Tryd.strconv_ParseInt_10_at64_ok s (by omega) v h w).mono ?_
    rintro e w' ⟨rfl, hw'⟩
    refine ⟨⟨.nilIface, by simp only [intRes, h], by simp only [intRes, h]; rfl⟩, ?_⟩
    rcases hw' with rfl | ⟨t, rfl⟩
    · exact Below.refl _ _
    · exact Joins.below_bytesWorld _ _ _ _ (Nat.le_refl _)
  | range =>
    refine (Tryd.strconv_ParseInt_10_at64_range s hz h e2 w h2 g2).mono ?_
    rintro e w' ⟨N, rfl, _, _, hb⟩
    exact ⟨⟨.iface 119 (.pointer (some ⟨N, 0, none⟩)), by simp only [intRes, h], by simp only [intRes, h]; exact ⟨N, rfl⟩⟩, hb⟩
  | _ =>
    refine (Any.strconv_ParseInt_10_at64_syntax Tryd.laysC174 s hz h e1 w h1 g1).mono ?_
    rintro e w' ⟨N, rfl, _, _, hb⟩
    exact ⟨⟨.iface 119 (.pointer (some ⟨N, 0, none⟩)), by simp only [intRes, h]; rfl, by simp only [intRes, h]; exact ⟨N, rfl⟩⟩, hb⟩
theorem intRes_err {s : ByteArray} (h : (intRes s).2 ≠ 0) : (⟨(Lib.itoa (intRes s).1).toArray⟩ : ByteArray) ≠ s := by
  intro e
  cases hp : Lib.parseIntB 64 s.data.toList with
  | ok v => exact h (by simp only [intRes, hp])
  | range =>
    have e2 : (intRes s).1 = Lib.intSat 64 s.data.toList := by simp only [intRes, hp]
    rw [e2] at e
    unfold Lib.intSat at e
    split at e
    · rw [← e] at hp; exact absurd hp (by decide +kernel)
    · rw [← e] at hp; exact absurd hp (by decide +kernel)
  | _ =>
    have e2 : (intRes s).1 = 0 := by simp only [intRes, hp]
    rw [e2] at e
    rw [← e] at hp
    exact absurd hp (by decide +kernel)
theorem below_grow (w : World) (os : Array Obj) : Below w.heap.size w (grow w os) := ⟨rfl, rfl, rfl, by simp [grow], fun k hk => by show (w.heap ++ os)[k]? = _; rw [Array.getElem?_append_left hk]⟩
theorem intRes_bound (s : ByteArray) : -9223372036854775808 ≤ (intRes s).1 ∧ (intRes s).1 ≤ 9223372036854775807 := by
  cases hp : Lib.parseIntB 64 s.data.toList with
  | ok v =>
    have e2 : (intRes s).1 = v := by simp only [intRes, hp]
    rw [e2]
    have e63 : (2 : Nat) ^ (64 - 1) = 9223372036854775808 := by decide
    unfold Lib.parseIntB at hp
    split at hp
    · cases hp
    · simp only at hp
      split at hp
      · cases hp
      · cases hp
      · rename_i u hu
        rw [e63] at hp
        split at hp
        · cases hp
        · split at hp
          · cases hp
          · cases hp
            split <;> omega
  | range =>
    have e2 : (intRes s).1 = Lib.intSat 64 s.data.toList := by simp only [intRes, hp]
    rw [e2]
    unfold Lib.intSat
    split <;> decide
  | _ =>
    have e2 : (intRes s).1 = 0 := by simp only [intRes, hp]
    rw [e2]
    decide
/-- What Number answers. -/
def numRes (s : ByteArray) : Int × Nat := if (⟨(Lib.itoa (intRes s).1).toArray⟩ : ByteArray) = s then ((intRes s).1, 0) else (0, 11)
def Pow10 (w : World) : Prop := Lib.TabIs Tryd.prog w "internal/strconv.uint64pow10" .u64 Lib.pow10Tab
theorem fint_any (n : Int) (h0 : -9223372036854775808 ≤ n) (h1 : n ≤ 9223372036854775807) (w : World) (ht : Pow10 w) :
    Calls Tryd.prog 38 #[.int .i64 n, .int .i64 10] w fun e w' => e = .returned (.string ⟨(Lib.itoa n).toArray⟩) ∧ Below w.heap.size w w' := by
  refine (Tryd.strconv_FormatInt_10 n h0 h1 w ht).mono ?_
  rintro e w' ⟨rfl, k, os, rfl⟩
  exact ⟨rfl, (below_drewN (Below.refl _ _) k).trans (below_grow (w.drewN k) os)⟩
theorem num_any (s : ByteArray) (hz : s.size ≤ 281474976710656) (w : World) (h1 : ErrCell w 1) (h2 : ErrCell w 2) (ht : Pow10 w) :
    Calls Tryd.prog 10 #[.string s] w fun e w' => e = .returned (.tuple #[.int .i64 (numRes s).1, .int .i64 (numRes s).2]) ∧ Below w.heap.size w w' := by
  have hP := pint_any s hz w h1 h2
  have HT := Lib.hid ht
  have hbd := intRes_bound s
  have hne := @intRes_err s
  obtain ⟨R, hR⟩ : ∃ R, numRes s = R := ⟨_, rfl⟩
  rw [hR]
  unfold numRes at hR
  obtain ⟨Q, hQ⟩ : ∃ Q, intRes s = Q := ⟨_, rfl⟩
  rw [hQ] at hP hbd hne hR
  obtain ⟨v, k⟩ := Q
  simp only at hP hbd hne hR
  obtain ⟨b0, b1⟩ := hbd
  obtain ⟨T, hT⟩ : ∃ T : ByteArray, (⟨(Lib.itoa v).toArray⟩ : ByteArray) = T := ⟨_, rfl⟩
  have hF := fun W => fint_any v b0 b1 W
  rw [hT] at hne hR hF
  have HP := Lib.hid hP
  have HF := Lib.hid hF
  clear hP hQ hT ht h1 h2 b0 b1 hF
  by_cases hk : k = 0
  · subst hk
    by_cases he : T = s
    · subst he
      rw [if_pos rfl] at hR
      subst hR
      go_enter Tryd.func10, Tryd.ntmps10
      go_wp2_with (first
        | (go_at_call 39; refine HP.out.mono ?_; rintro e w' ⟨⟨ev, rfl, rfl⟩, hb⟩; have HB := Lib.hid hb; clear hb)
        | (go_at_call 38; refine (HF.out _ (tabIs_below (B := 0) HT.out HB.out)).mono ?_; rintro e w'' ⟨rfl, hb2⟩; have HB2 := Lib.hid (below_next HB.out hb2); clear hb2)
        | (fail))
      go_ret2
      exact ⟨rfl, HB2.out⟩
    · rw [if_neg he] at hR
      subst hR
      have hE : (T.toList == s.toList) = false := by rw [beq_eq_false_iff_ne]; exact fun e => he (str_inj e)
      clear he hne
      go_enter Tryd.func10, Tryd.ntmps10
      go_wp2_with (first
        | (go_at_call 39; refine HP.out.mono ?_; rintro e w' ⟨⟨ev, rfl, rfl⟩, hb⟩; have HB := Lib.hid hb; clear hb)
        | (go_at_call 38; refine (HF.out _ (tabIs_below (B := 0) HT.out HB.out)).mono ?_; rintro e w'' ⟨rfl, hb2⟩; have HB2 := Lib.hid (below_next HB.out hb2); clear hb2)
        | (fail))
      go_ret2
      exact ⟨rfl, HB2.out⟩
  · have he := hne hk
    rw [if_neg he] at hR
    subst hR
    have hE : (T.toList == s.toList) = false := by rw [beq_eq_false_iff_ne]; exact fun e => he (str_inj e)
    clear he hne
    go_enter Tryd.func10, Tryd.ntmps10
    go_wp2_with (first
      | (go_at_call 39; refine HP.out.mono ?_; rintro e w' ⟨⟨ev, rfl, hev⟩, hb⟩; rw [PErr, if_neg hk] at hev; obtain ⟨N, rfl⟩ := hev; have HB := Lib.hid hb; clear hb)
      | (go_at_call 38; refine (HF.out _ (tabIs_below (B := 0) HT.out HB.out)).mono ?_; rintro e w'' ⟨rfl, hb2⟩; have HB2 := Lib.hid (below_next HB.out hb2); clear hb2)
      | (fail))
    go_ret2
    exact ⟨rfl, HB.out⟩
theorem rnum_any (s : ByteArray) (hz : s.size ≤ 281474976710656) (w : World) (h1 : ErrCell w 1) (h2 : ErrCell w 2) (ht : Pow10 w) :
    Calls Tryd.prog 11 #[.string s] w fun e w' => e = .returned (.tuple #[.int .i64 (numRes s).1, .int .i64 (numRes s).2]) ∧ Below w.heap.size w w' := by
  have hP := pint_any s hz w h1 h2
  have HT := Lib.hid ht
  have hbd := intRes_bound s
  have hne := @intRes_err s
  obtain ⟨R, hR⟩ : ∃ R, numRes s = R := ⟨_, rfl⟩
  rw [hR]
  unfold numRes at hR
  obtain ⟨Q, hQ⟩ : ∃ Q, intRes s = Q := ⟨_, rfl⟩
  rw [hQ] at hP hbd hne hR
  obtain ⟨v, k⟩ := Q
  simp only at hP hbd hne hR
  obtain ⟨b0, b1⟩ := hbd
  obtain ⟨T, hT⟩ : ∃ T : ByteArray, (⟨(Lib.itoa v).toArray⟩ : ByteArray) = T := ⟨_, rfl⟩
  have hF := fun W => fint_any v b0 b1 W
  rw [hT] at hne hR hF
  have HP := Lib.hid hP
  have HF := Lib.hid hF
  clear hP hQ hT ht h1 h2 b0 b1 hF
  by_cases hk : k = 0
  · subst hk
    by_cases he : T = s
    · subst he
      rw [if_pos rfl] at hR
      subst hR
      go_enter Tryd.func11, Tryd.ntmps11
      go_wp2_with (first
        | (go_at_call 39; refine HP.out.mono ?_; rintro e w' ⟨⟨ev, rfl, rfl⟩, hb⟩; have HB := Lib.hid hb; clear hb)
        | (go_at_call 38; refine (HF.out _ (tabIs_below (B := 0) HT.out HB.out)).mono ?_; rintro e w'' ⟨rfl, hb2⟩; have HB2 := Lib.hid (below_next HB.out hb2); clear hb2)
        | (fail))
      go_ret2
      exact ⟨rfl, HB2.out⟩
    · rw [if_neg he] at hR
      subst hR
      have hE : (T.toList == s.toList) = false := by rw [beq_eq_false_iff_ne]; exact fun e => he (str_inj e)
      clear he hne
      go_enter Tryd.func11, Tryd.ntmps11
      go_wp2_with (first
        | (go_at_call 39; refine HP.out.mono ?_; rintro e w' ⟨⟨ev, rfl, rfl⟩, hb⟩; have HB := Lib.hid hb; clear hb)
        | (go_at_call 38; refine (HF.out _ (tabIs_below (B := 0) HT.out HB.out)).mono ?_; rintro e w'' ⟨rfl, hb2⟩; have HB2 := Lib.hid (below_next HB.out hb2); clear hb2)
        | (fail))
      go_ret2
      exact ⟨rfl, HB2.out⟩
  · have he := hne hk
    rw [if_neg he] at hR
    subst hR
    have hE : (T.toList == s.toList) = false := by rw [beq_eq_false_iff_ne]; exact fun e => he (str_inj e)
    clear he hne
    go_enter Tryd.func11, Tryd.ntmps11
    go_wp2_with (first
      | (go_at_call 39; refine HP.out.mono ?_; rintro e w' ⟨⟨ev, rfl, hev⟩, hb⟩; rw [PErr, if_neg hk] at hev; obtain ⟨N, rfl⟩ := hev; have HB := Lib.hid hb; clear hb)
      | (go_at_call 38; refine (HF.out _ (tabIs_below (B := 0) HT.out HB.out)).mono ?_; rintro e w'' ⟨rfl, hb2⟩; have HB2 := Lib.hid (below_next HB.out hb2); clear hb2)
      | (fail))
    go_ret2
    exact ⟨rfl, HB2.out⟩
end Go.Proofs.YtfipljhlponcoaaDoor
