/- words.Fields: the contract. -/
import Derived.Test.YtfipljhlponcoaaDoorLineF
import Derived.Deep.QuietTactic
import Derived.BigQuiet
set_option linter.unusedVariables false
namespace Go.Proofs.YtfipljhlponcoaaDoor
open Go.RowKit
theorem ix_list : ∀ l : List UInt8, (Lib.indexByte l 32 = -1 ∧ spN (l.map UInt8.toNat) = l.length) ∨ (Lib.indexByte l 32 = (spN (l.map UInt8.toNat) : Int) ∧ spN (l.map UInt8.toNat) < l.length)
  | [] => .inl ⟨rfl, rfl⟩
  | b :: t => by
    unfold Lib.indexByte
    by_cases hb : b = 32
    · subst hb
      right
      simp [spN]
    · have hne : (b == 32) = false := by simpa using hb
      have hn : (b.toNat != 32) = true := by
        rw [bne_iff_ne]
        intro h
        exact hb (UInt8.toNat_inj.1 h)
      have e : spN ((b :: t).map UInt8.toNat) = spN (t.map UInt8.toNat) + 1 := by
        unfold spN
        rw [List.map_cons, List.takeWhile_cons, if_pos hn]
        rfl
      rw [hne, e]
      rcases ix_list t with ⟨h1, h2⟩ | ⟨h1, h2⟩
      · left
        rw [h1, h2]
        simp
      · right
        have : (Lib.indexByte t 32 == -1) = false := by rw [h1, beq_eq_false_iff_ne]; omega
        rw [this, h1]
        simp
        omega
theorem ix_sp (s : ByteArray) : (Lib.indexByte s.data.toList 32 = -1 ∧ spN (nl s) = s.size) ∨ (Lib.indexByte s.data.toList 32 = (spN (nl s) : Int) ∧ spN (nl s) < s.size) := ix_list s.data.toList
theorem trim_nl (s : ByteArray) : nl ⟨(Lib.trimPrefix s.data.toList [32]).toArray⟩ = trmN (nl s) := by
  have key : ∀ l : List UInt8, (Lib.trimPrefix l [32]).map UInt8.toNat = trmN (l.map UInt8.toNat) := fun l => by
    unfold Lib.trimPrefix Lib.hasPrefix trmN
    cases l with
    | nil => rfl
    | cons b t =>
      by_cases hb : b = 32
      · subst hb; rfl
      · have hn : b.toNat ≠ 32 := fun h => hb (UInt8.toNat_inj.1 h)
        rw [if_neg (by simpa using fun h => hb h.symm), if_neg (by simpa using hn)]
  exact key s.data.toList
def strLen : Value → Nat
  | .string s => s.size
  | _ => 0
/-- The loop's state: what is read, and what of the line is left. -/
def PF (s : ByteArray) (ts : List ByteArray) (u : ByteArray) : Prop := pf hx2 (nl s) = (pf hx2 (nl u)).map (ts.map nl ++ ·) ∧ (∀ t ∈ ts, t.size ≤ s.size) ∧ ((ts.map nl).flatten.length + ts.length + u.size ≤ s.size ∨ ((ts.map nl).flatten.length + ts.length ≤ s.size + 1 ∧ u.size = 0)) ∧ u.size ≤ s.size
theorem PF.start (s : ByteArray) : PF s [] s := ⟨by simp, by simp, by simp, Nat.le_refl _⟩
theorem nl_ne {u : ByteArray} (h : 0 < u.size) : nl u ≠ [] := fun e => by
  have := nl_len u
  rw [e] at this
  simp at this
  omega
theorem PF.bad {s u : ByteArray} {ts : List ByteArray} (h : PF s ts u) (hu : 0 < u.size) (hw : pword hx2 (nl u) = none) : fldN (nl s) = none := by
  rw [fld_pf hx2_is (nl_lt s), h.1, pf_step (nl_ne hu), hw]
  rfl
theorem PF.adv {s u v t : ByteArray} {ts : List ByteArray} {m : Nat} (h : PF s ts u) (hu : 0 < u.size) (hw : pword hx2 (nl u) = some (nl t, m)) (hv : nl v = trmN ((nl u).drop m)) : PF s (ts ++ [t]) v ∧ v.size < u.size := by
  obtain ⟨h1, h2, h3, h4⟩ := h
  have hl := pword_len (nl_ne hu) hw
  rw [← hv] at hl
  simp only [nl_len] at hl
  refine ⟨⟨?_, ?_, ?_, by omega⟩, hl.2.1⟩
  · rw [h1, pf_step (nl_ne hu), hw]
    simp only
    rw [← hv]
    cases pf hx2 (nl v) <;> simp
  · intro x hx
    rcases List.mem_append.1 hx with hx | hx
    · exact h2 x hx
    · obtain rfl : x = t := by simpa using hx
      omega
  · rw [flat_snoc, List.length_append]
    simp only [List.length_cons, List.length_nil]
    omega
theorem PF.fin {s u : ByteArray} {ts : List ByteArray} (h : PF s ts u) (hu : u.size = 0) (hs : ∀ ts : List ByteArray, pf hx2 (nl s) = some (ts.map nl) → (∀ t ∈ ts, t.size ≤ s.size) → (ts.map nl).flatten.length + ts.length ≤ s.size + 1 → LSz ts) : LSz ts ∧ (lineN (ts.map nl) = nl s → fldN (nl s) = some (ts.map nl)) ∧ (lineN (ts.map nl) ≠ nl s → fldN (nl s) = none) := by
  obtain ⟨h1, h2, h3, h4⟩ := h
  have hnil : nl u = [] := List.eq_nil_of_length_eq_zero (by rw [nl_len]; exact hu)
  rw [hnil, pf_nil] at h1
  have hf := fld_pf hx2_is (nl_lt s)
  rw [h1] at hf
  simp only [Option.map_some, List.append_nil] at hf
  refine ⟨hs ts (by rw [h1]; simp) h2 (by omega), fun hl => by rw [hf, if_pos hl], fun hl => by rw [hf, if_neg hl]⟩
theorem pword_quo {u : ByteArray} (hu : 0 < u.size) (h34 : u[0].toNat = 34) : pword hx2 (nl u) = (pq hx2 ((nl u).drop 1)).map fun r => (r.1, r.2 + 1) := by
  have h0 := nl_getD u 0 0 hu
  rw [List.drop_zero] at h0
  unfold pword
  rw [if_pos (by rw [h0]; exact h34)]
theorem pword_pl {u : ByteArray} (hu : 0 < u.size) (h34 : u[0].toNat ≠ 34) : pword hx2 (nl u) = some ((nl u).take (spN (nl u)), spN (nl u)) := by
  have h0 := nl_getD u 0 0 hu
  rw [List.drop_zero] at h0
  unfold pword
  rw [if_neg (by rw [h0]; exact h34)]
theorem own_bsnoc {w : World} {base n : Nat} {v : Value} {ts : List ByteArray} {t : ByteArray} (h : w.ownsRow base 9 1 v (n + 1) (sV ts ++ [.string t])) : ∃ A c, v = .slice A (n + 1) c ∧ w.ownsRow base 9 1 (.slice A (n + 1) c) (n + 1) (sV (ts ++ [t])) := by
  obtain ⟨A, c, rfl⟩ := own_shape h
  exact ⟨A, c, rfl, by rw [sV_app]; exact h⟩
set_option maxRecDepth 100000 in
set_option maxHeartbeats 16000000 in
theorem pfields_gen (s : ByteArray) (w : World) (hs0 : s.size ≤ 16777216) (hs : ∀ ts : List ByteArray, pf hx2 (nl s) = some (ts.map nl) → (∀ t ∈ ts, t.size ≤ s.size) → (ts.map nl).flatten.length + ts.length ≤ s.size + 1 → LSz ts) (he1 : ErrCell w 1) (he2 : ErrCell w 2) (hw : 2 < w.heap.size) :
    Calls Tryd.prog 25 #[.string s] w fun e w' => FRet w.heap.size (fldN (nl s)) e w' ∧ Below w.heap.size w w' := by
  obtain ⟨i0, fi, fz0, fz1, fz2⟩ := info_parts info9
  have TP := Lib.hid fun (x : ByteArray) (W : World) => ((Tryd.strings_TrimPrefix x ⟨#[32]⟩ W).mono fun e w' hh => ⟨_, hh.1, trim_nl x, hh.2.symm⟩ : Calls Tryd.prog 57 #[.string x, .string ⟨#[32]⟩] W fun e w' => ∃ v, e = .returned (.string v) ∧ nl v = trmN (nl x) ∧ W = w')
  have HS := Lib.hid hs
  clear hs
  have HE1 := Lib.hid he1
  have HE2 := Lib.hid he2
  have HW := Lib.hid hw
  clear he1 he2 hw
  go_enter Tryd.func25, Tryd.ntmps25
  go_wp2_with fail
  go_loopw [4, 5] (fun v sv wx => ∃ (n c : Nat) (A : Option Addr) (ts : List ByteArray) (u : ByteArray), v = .slice A n c ∧ sv = .string u ∧ n = ts.length ∧ wx.ownsRow w.heap.size 9 1 (.slice A n c) n (sV ts) ∧ PF s ts u ∧ Below w.heap.size w wx) (fun _ sv _ => strLen sv)
  case atStart => exact ⟨0, 0, none, [], s, rfl, rfl, rfl, World.ownsRow_nil _ _ _ _, PF.start s, Below.refl _ _⟩
  case round =>
    obtain ⟨n, c, A, ts, u, rfl, rfl, hn, hown, hpf, hb⟩ := hrel
    have HO := Lib.hid hown
    have HB := Lib.hid hb
    have HP := Lib.hid hpf
    have HN := Lib.hid hn
    have hus : u.size ≤ 16777216 := Nat.le_trans hpf.2.2.2 hs0
    have hnn : n ≤ 16777217 := by have := hpf.2.2.1; omega
    have hsz := HB.out.size
    have m1 := Lib.hid (show n + 1 ≤ maxLen from by unfold maxLen; omega)
    have m2 := Lib.hid (show (n + 1) * 16 ≤ 140737488355328 from by omega)
    clear hown hpf hb hn
    by_cases h0 : 0 < u.size
    · obtain ⟨e1, e2⟩ := strn_ne (s := u) (by omega)
      have h0i : (0 : Int) < (u.size : Int) := by omega
      obtain ⟨c0, hc0⟩ : ∃ c0 : Nat, u[0].toNat = c0 := ⟨_, rfl⟩
      have HC := Lib.hid hc0
      by_cases h34 : c0 = 34
      · subst h34
        have QW := Lib.hid (pword_quo h0 HC.out)
        have Q := quoted_any u wr hus h0 (HE1.out.below HB.out (by have := HW.out; omega)) (HE2.out.below HB.out HW.out) (Nat.lt_of_lt_of_le HW.out hsz)
        rw [← QW.out] at Q
        cases hp : pword hx2 (nl u) with
        | none =>
          rw [hp] at Q
          have HQ := Lib.hid Q
          have HF := Lib.hid (HP.out.bad h0 hp)
          clear Q hp
          go_wp2_with (first
            | (go_at_call 55; refine HQ.out.mono ?_; rintro e w1 ⟨hq, hb1⟩; obtain rfl : e = _ := hq; have B1 := Lib.hid (HB.out.trans (hb1.mono hsz)); clear hb1)
            | fail)
          go_ret2
          refine ⟨?_, B1.out⟩
          rw [HF.out]
          rfl
        | some p =>
          rw [hp] at Q
          have HQ := Lib.hid Q
          have hpl := pword_len (nl_ne h0) hp
          obtain ⟨W, m⟩ := p
          have hm : m ≤ u.size := by have := hpl.1; rw [nl_len] at this; exact this
          have hmi : (m : Int) ≤ (u.size : Int) := by omega
          have hm0 : (0 : Int) ≤ (m : Int) := by omega
          clear Q hpl
          have HPW := Lib.hid hp
          clear hp
          go_wp2_with (first
            | (go_at_call 55; refine HQ.out.mono ?_; rintro e w1 ⟨hq, hb1⟩; obtain ⟨T, rfl, ht⟩ := hq; have HT := Lib.hid ht; have B1 := Lib.hid (HB.out.trans (hb1.mono hsz)); have O1 := Lib.hid (own_bel HO.out hb1); have hsz1 := B1.out.size; clear hb1 ht)
            | fail)
          go_quiet (fail)
          have O2 := Lib.hid (show (w1.drewN nq).ownsRow w.heap.size 9 1 (.slice A n c) n (sV ts) from O1.out)
          have B2 := Lib.hid (below_drewN B1.out nq)
          generalize w1.drewN nq = w2 at O2 B2 ⊢
          have hsz2 := B2.out.size
          go_wp2_with (first
            | (at_builtin; refine wpList_append_seg _ rfl (.tmp 41) (.tmp 43) 33 rfl w.heap.size 9 i0 _ 1 16 Tryd.underlying33 fi fz0 fz1 fz2 rfl (by decide) (.slice A n c) n (sV ts) rfl (World.ownsRow.alloc O2.out _) (w2.heap.size + 1) (some ⟨w2.heap.size, 0, none⟩) 1 1 [.string T] rfl rfl (seg_new (e := 9) (cs := #[.string T])) (by simp [Value.oneCell']) m1.out m2.out (by rw [World.size_alloc]; omega) ?_
               intro v3 w3 hown3 hg3 _
               have hb3 : Below w.heap.size w w3 := (B2.out.alloc hsz2 _).grown hg3 (by rw [World.size_alloc]; omega) (fun g hg => (O2.out.lt g hg).1)
               obtain ⟨A3, c3, rfl, ho3⟩ := own_bsnoc hown3
               have HO3 := Lib.hid ho3; have HB3 := Lib.hid hb3; clear hown3 hg3 hb3 ho3)
            | (go_at_call 57; refine (TP.out _ _).mono ?_; rintro e w' ⟨V, rfl, hv, rfl⟩; have HV := Lib.hid hv; clear hv)
            | fail)
          have hA := HP.out.adv (t := T) (v := V) h0 (by rw [HPW.out, ← HT.out]) (by rw [HV.out, nl_from])
          exact ⟨⟨n + 1, c3, A3, ts ++ [T], _, rfl, rfl, by rw [List.length_append, ← HN.out]; rfl, HO3.out, hA.1, HB3.out⟩, hA.2⟩
      · have h34d : ((c0 : Int) == 34) = false := by simp; omega
        have PW := Lib.hid (pword_pl h0 (by rw [HC.out]; exact h34))
        rcases ix_sp u with ⟨hi, hz⟩ | ⟨hi, hz⟩
        · have IX := Lib.hid fun W => (by
            have h := Tryd.strings_IndexByte u 32 W
            rw [show (32 : Int).toNat.toUInt8 = 32 from rfl, hi] at h
            exact h.mono fun e w' hh => ⟨hh.1, hh.2.symm⟩ : Calls Tryd.prog 56 #[.string u, .int .u8 32] W fun e w' => e = .returned (.int .i64 (-1)) ∧ W = w')
          have HZ := Lib.hid hz
          clear hi hz
          go_wp2_with (first
            | (go_at_call 56; refine (IX.out _).mono ?_; rintro e w' ⟨rfl, rfl⟩)
            | fail)
          have hle : (u.size : Int) ≤ (u.size : Int) := Int.le_refl _
          go_quiet (fail)
          have O2 := Lib.hid (show (wr.drewN nq).ownsRow w.heap.size 9 1 (.slice A n c) n (sV ts) from HO.out)
          have B2 := Lib.hid (below_drewN HB.out nq)
          generalize wr.drewN nq = w2 at O2 B2 ⊢
          have hsz2 := B2.out.size
          go_wp2_with (first
            | (at_builtin; refine wpList_append_seg _ rfl (.tmp 41) (.tmp 43) 33 rfl w.heap.size 9 i0 _ 1 16 Tryd.underlying33 fi fz0 fz1 fz2 rfl (by decide) (.slice A n c) n (sV ts) rfl (World.ownsRow.alloc O2.out _) (w2.heap.size + 1) (some ⟨w2.heap.size, 0, none⟩) 1 1 [.string u] rfl rfl (seg_new (e := 9) (cs := #[.string u])) (by simp [Value.oneCell']) m1.out m2.out (by rw [World.size_alloc]; omega) ?_
               intro v3 w3 hown3 hg3 _
               have hb3 : Below w.heap.size w w3 := (B2.out.alloc hsz2 _).grown hg3 (by rw [World.size_alloc]; omega) (fun g hg => (O2.out.lt g hg).1)
               obtain ⟨A3, c3, rfl, ho3⟩ := own_bsnoc hown3
               have HO3 := Lib.hid ho3; have HB3 := Lib.hid hb3; clear hown3 hg3 hb3 ho3)
            | (go_at_call 57; refine (TP.out _ _).mono ?_; rintro e w' ⟨V, rfl, hv, rfl⟩; have HV := Lib.hid hv; clear hv)
            | fail)
          have hsz3 : (nl u).length = u.size := nl_len u
          have hA := HP.out.adv (t := u) (v := V) h0 (by rw [PW.out, HZ.out, List.take_of_length_le (by omega)]) (by rw [HV.out, List.drop_of_length_le (by omega)]; rfl)
          exact ⟨⟨n + 1, c3, A3, ts ++ [u], _, rfl, rfl, by rw [List.length_append, ← HN.out]; rfl, HO3.out, hA.1, HB3.out⟩, hA.2⟩
        · have IX := Lib.hid fun W => (by
            have h := Tryd.strings_IndexByte u 32 W
            rw [show (32 : Int).toNat.toUInt8 = 32 from rfl, hi] at h
            exact h.mono fun e w' hh => ⟨hh.1, hh.2.symm⟩ : Calls Tryd.prog 56 #[.string u, .int .u8 32] W fun e w' => e = .returned (.int .i64 (spN (nl u) : Int)) ∧ W = w')
          generalize spN (nl u) = z at hz IX PW
          have hz1 : (z : Int) ≤ (u.size : Int) := by omega
          have hz2 : (0 : Int) ≤ (z : Int) := by omega
          clear hi
          go_wp2_with (first
            | (go_at_call 56; refine (IX.out _).mono ?_; rintro e w' ⟨rfl, rfl⟩)
            | fail)
          go_quiet (fail)
          obtain ⟨T, hT⟩ : ∃ T, T = u.extract 0 z := ⟨_, rfl⟩
          rw [← hT]
          have HT := Lib.hid hT
          clear hT
          have O2 := Lib.hid (show (wr.drewN nq).ownsRow w.heap.size 9 1 (.slice A n c) n (sV ts) from HO.out)
          have B2 := Lib.hid (below_drewN HB.out nq)
          generalize wr.drewN nq = w2 at O2 B2 ⊢
          have hsz2 := B2.out.size
          go_wp2_with (first
            | (at_builtin; refine wpList_append_seg _ rfl (.tmp 41) (.tmp 43) 33 rfl w.heap.size 9 i0 _ 1 16 Tryd.underlying33 fi fz0 fz1 fz2 rfl (by decide) (.slice A n c) n (sV ts) rfl (World.ownsRow.alloc O2.out _) (w2.heap.size + 1) (some ⟨w2.heap.size, 0, none⟩) 1 1 [.string T] rfl rfl (seg_new (e := 9) (cs := #[.string T])) (by simp [Value.oneCell']) m1.out m2.out (by rw [World.size_alloc]; omega) ?_
               intro v3 w3 hown3 hg3 _
               have hb3 : Below w.heap.size w w3 := (B2.out.alloc hsz2 _).grown hg3 (by rw [World.size_alloc]; omega) (fun g hg => (O2.out.lt g hg).1)
               obtain ⟨A3, c3, rfl, ho3⟩ := own_bsnoc hown3
               have HO3 := Lib.hid ho3; have HB3 := Lib.hid hb3; clear hown3 hg3 hb3 ho3)
            | (go_at_call 57; refine (TP.out _ _).mono ?_; rintro e w' ⟨V, rfl, hv, rfl⟩; have HV := Lib.hid hv; clear hv)
            | fail)
          have hA := HP.out.adv (t := T) (v := V) h0 (by rw [PW.out, HT.out, nl_extract, List.drop_zero, Nat.sub_zero]) (by rw [HV.out, nl_from])
          exact ⟨⟨n + 1, c3, A3, ts ++ [T], _, rfl, rfl, by rw [List.length_append, ← HN.out]; rfl, HO3.out, hA.1, HB3.out⟩, hA.2⟩
    · have h0' : u.size = 0 := by omega
      obtain ⟨e1, e2⟩ := strn_nil h0'
      obtain ⟨HZ, hy, hno⟩ := HP.out.fin h0' HS.out
      have RL := Lib.hid (pline_any A c n ts HN.out HZ wr wr.heap.size (Nat.le_refl _) (own_seg HO.out))
      have HY := Lib.hid hy
      have HX := Lib.hid hno
      clear hy hno HZ h0 h0'
      by_cases hl : lineN (ts.map nl) = nl s
      · have HF := Lib.hid (HY.out hl)
        have HLN := Lib.hid hl
        clear hl
        go_wp2_with (first
          | (go_at_call 20; refine RL.out.mono ?_; rintro e w1 ⟨t, rfl, ht, hb1⟩
             have hcmp : (t.toList == s.toList) = true := beq_iff_eq.2 (by rw [show t = s from nl_inj (by rw [ht, HLN.out])])
             have B1 := Lib.hid (HB.out.trans (hb1.mono hsz)); have O1 := Lib.hid (own_bel HO.out hb1); clear ht hb1)
          | fail)
        go_ret2
        refine ⟨?_, B1.out⟩
        rw [HF.out]
        exact fret_yes HN.out O1.out
      · have HF := Lib.hid (HX.out hl)
        have HLN := Lib.hid hl
        clear hl
        go_wp2_with (first
          | (go_at_call 20; refine RL.out.mono ?_; rintro e w1 ⟨t, rfl, ht, hb1⟩
             have hcmp : (t.toList == s.toList) = false := (by
               rw [beq_eq_false_iff_ne]
               intro h
               rw [ByteArray.toList_eq, ByteArray.toList_eq] at h
               exact HLN.out (by rw [← ht]; unfold nl; rw [h]))
             have B1 := Lib.hid (HB.out.trans (hb1.mono hsz)); clear ht hb1)
          | fail)
        go_ret2
        refine ⟨?_, B1.out⟩
        rw [HF.out]
        rfl
theorem pfields_any (s : ByteArray) (w : World) (hs : s.size ≤ 1048576) (he1 : ErrCell w 1) (he2 : ErrCell w 2) (hw : 2 < w.heap.size) :
    Calls Tryd.prog 25 #[.string s] w fun e w' => FRet w.heap.size (fldN (nl s)) e w' ∧ Below w.heap.size w w' :=
  pfields_gen s w (by omega) (fun ts _ h1 h2 => lsz_of hs h1 h2) he1 he2 hw
end Go.Proofs.YtfipljhlponcoaaDoor
