/- words.quoted: the contract. -/
import Derived.Test.YtfipljhlponcoaaDoorLineR
import Derived.Test.YtfipljhlponcoaaDoorHexU
set_option linter.unusedVariables false
namespace Go.Proofs.YtfipljhlponcoaaDoor
open Go.RowKit
/-- What ParseUint says of two digits, as a byte. -/
def hx2 (a b : Nat) : Option Nat := if (hexPU 255 [a, b]).2 = 0 then some (hexPU 255 [a, b]).1 else none
theorem hexGo_le (mx : Nat) : ∀ (l : List Nat) (n : Nat), n ≤ mx → (hexGo mx n l).1 ≤ mx
  | [], n, h => h
  | c :: t, n, h => by
    unfold hexGo
    split
    · exact Nat.zero_le _
    · split
      · exact Nat.le_refl _
      · exact hexGo_le mx t _ (by omega)
theorem hx2_is : Hex2 hx2 := by
  refine ⟨fun c hc => ?_, fun a b v h => ?_⟩
  · have : ∀ c : Fin 256, hx2 (hexd (c.1 / 16)) (hexd (c.1 % 16)) = some c.1 := by decide +kernel
    exact this ⟨c, hc⟩
  · unfold hx2 at h
    split at h
    · injection h with h
      subst h
      have : (hexPU 255 [a, b]).1 ≤ 255 := by
        unfold hexPU
        rw [if_neg (by simp)]
        exact hexGo_le 255 _ 0 (by omega)
      omega
    · cases h
theorem hx2_yes {a b v : Nat} (h : hx2 a b = some v) : (hexPU (mxOf 8) [a, b]).2 = 0 ∧ (hexPU (mxOf 8) [a, b]).1 = v := by
  unfold hx2 at h
  split at h
  · injection h with h
    exact ⟨by assumption, h⟩
  · cases h
theorem hx2_no {a b : Nat} (h : hx2 a b = none) : (hexPU (mxOf 8) [a, b]).2 ≠ 0 := by
  unfold hx2 at h
  split at h
  · cases h
  · assumption
theorem perr_yes {v : Value} (h : PErr 0 v) : v = .nilIface := h
theorem perr_no {k : Nat} {v : Value} (hk : k ≠ 0) (h : PErr k v) : ∃ N, v = .iface 119 (.pointer (some ⟨N, 0, none⟩)) := by unfold PErr at h; rwa [if_neg hk] at h
theorem ErrCell.below {w w' : World} {b : Nat} (h : ErrCell w b) (hb : Below w.heap.size w w') (hlt : b < w.heap.size) : ErrCell w' b := by
  obtain ⟨ev, h1, h2⟩ := h
  exact ⟨ev, (hb.cell (p := ⟨b, 0, none⟩) hlt).trans h1, h2⟩
/-- What the program reads within quotes of a text whose first byte is one. -/
def PQR (R : Option (List Nat × Nat)) (e : Ending) : Prop := match R with
  | none => e = .returned (.tuple #[.string ⟨#[]⟩, .int .i64 0, .bool false])
  | some r => ∃ t, e = .returned (.tuple #[.string t, .int .i64 (r.2 : Nat), .bool true]) ∧ nl t = r.1
def PQ (s : ByteArray) (R : Option (List Nat × Nat)) (k : Nat) (l : List Nat) : Prop := R = (pq hx2 ((nl s).drop k)).map (fun r => (l ++ r.1, k + r.2)) ∧ l.length ≤ k
theorem PQ.end {s : ByteArray} {R : Option (List Nat × Nat)} {k : Nat} {l : List Nat} (h : PQ s R k l) (hk : ¬ k < s.size) : R = none := by
  rw [h.1, List.drop_of_length_le (by rw [nl_len]; omega)]
  rfl
theorem PQ.quote {s : ByteArray} {R : Option (List Nat × Nat)} {k : Nat} {l : List Nat} (h : PQ s R k l) (hk : k < s.size) (h34 : s[k].toNat = 34) : R = some (l, k + 1) := by
  rw [h.1, pq_end hx2 (dropn_ne hk) (by rw [nl_getD s k 0 hk]; exact h34)]
  simp
theorem PQ.adv {s : ByteArray} {R : Option (List Nat × Nat)} {k m : Nat} {l out : List Nat} (h : PQ s R k l) (hk : k < s.size) (h34 : s[k].toNat ≠ 34) (hr : pst hx2 ((nl s).drop k) = some (out, m)) : PQ s R (k + m) (l ++ out) := by
  have hp := (pst_pos hr).2
  refine ⟨?_, by have := h.2; simp at hp ⊢; omega⟩
  rw [h.1, pq_step (dropn_ne hk) (by rw [nl_getD s k 0 hk]; exact h34), hr]
  simp only [List.drop_drop]
  cases pq hx2 ((nl s).drop (k + m)) <;> simp [Nat.add_assoc]
theorem PQ.bad {s : ByteArray} {R : Option (List Nat × Nat)} {k : Nat} {l : List Nat} (h : PQ s R k l) (hk : k < s.size) (h34 : s[k].toNat ≠ 34) (hr : pst hx2 ((nl s).drop k) = none) : R = none := by
  rw [h.1, pq_step (dropn_ne hk) (by rw [nl_getD s k 0 hk]; exact h34), hr]
  rfl
theorem pst_one {s : ByteArray} {k : Nat} (h : k < s.size) (h92 : s[k].toNat ≠ 92) : pst hx2 ((nl s).drop k) = some ([s[k].toNat], 1) := by
  have h0 : ((nl s).drop k).getD 0 0 = s[k].toNat := nl_getD s k 0 h
  unfold pst
  rw [h0, if_neg (fun hh => h92 hh.1), if_neg (fun hh => h92 hh.1)]
theorem pst_last {s : ByteArray} {k : Nat} (h : k < s.size) (h' : ¬ k + 1 < s.size) : pst hx2 ((nl s).drop k) = some ([s[k].toNat], 1) := by
  have h0 : ((nl s).drop k).getD 0 0 = s[k].toNat := nl_getD s k 0 h
  unfold pst
  rw [h0, nl_dlen, if_neg (by omega), if_neg (by omega)]
theorem pst_two {s : ByteArray} {k : Nat} (h : k + 1 < s.size) (h92 : s[k].toNat = 92) (hn : ¬ (k + 3 < s.size ∧ s[k + 1].toNat = 120)) : pst hx2 ((nl s).drop k) = some ([s[k + 1].toNat], 2) := by
  have h0 : ((nl s).drop k).getD 0 0 = s[k].toNat := nl_getD s k 0 (by omega)
  have h1 : ((nl s).drop k).getD 1 0 = s[k + 1].toNat := nl_getD s k 1 h
  unfold pst
  rw [h0, h1, nl_dlen, if_neg (by rintro ⟨_, a, b⟩; exact hn ⟨by omega, b⟩), if_pos ⟨h92, by omega⟩]
theorem pst_four {s : ByteArray} {k : Nat} (h : k + 3 < s.size) (h92 : s[k].toNat = 92) (h120 : s[k + 1].toNat = 120) : pst hx2 ((nl s).drop k) = (hx2 s[k + 2].toNat s[k + 3].toNat).map fun v => ([v], 4) := by
  have h0 : ((nl s).drop k).getD 0 0 = s[k].toNat := nl_getD s k 0 (by omega)
  have h1 : ((nl s).drop k).getD 1 0 = s[k + 1].toNat := nl_getD s k 1 (by omega)
  have h2 : ((nl s).drop k).getD 2 0 = s[k + 2].toNat := nl_getD s k 2 (by omega)
  have h3 : ((nl s).drop k).getD 3 0 = s[k + 3].toNat := nl_getD s k 3 h
  unfold pst
  rw [h0, h1, h2, h3, nl_dlen, if_pos ⟨h92, by omega, h120⟩]
theorem nl_two {s : ByteArray} {k : Nat} (h : k + 3 < s.size) : nl (s.extract (k + 2) (k + 4)) = [s[k + 2].toNat, s[k + 3].toNat] := by
  rw [nl_extract, show k + 4 - (k + 2) = 2 from by omega]
  apply List.ext_getElem
  · simp [nl_len]; omega
  · intro i h1 h2
    simp at h2
    rw [List.getElem_take, List.getElem_drop, nl_at s (k + 2 + i) (by omega)]
    match i, h2 with
    | 0, _ => rfl
    | 1, _ => rfl
theorem slice_str (s : ByteArray) (a b : Nat) (hab : a ≤ b) (hb : b ≤ s.size) (W : World) : (Instr.slice 9 (.string s) (some (.int .i64 (a : Int))) (some (.int .i64 (b : Int))) none).run Tryd.prog W = .ok (.string (s.extract a b)) W := by
  have h1 : (a : Int) ≤ (b : Int) := by omega
  have h2 : (b : Int) ≤ (s.size : Int) := by omega
  have h3 : (0 : Int) ≤ (a : Int) := by omega
  have h4 : (0 : Int) ≤ (b : Int) := by omega
  go_simp
set_option maxRecDepth 100000 in
set_option maxHeartbeats 16000000 in
theorem quoted_any (s : ByteArray) (w : World) (hs : s.size ≤ 16777216) (h0 : 0 < s.size) (he1 : ErrCell w 1) (he2 : ErrCell w 2) (hw : 2 < w.heap.size) :
    Calls Tryd.prog 55 #[.string s] w fun e w' => PQR ((pq hx2 ((nl s).drop 1)).map fun r => (r.1, r.2 + 1)) e ∧ Below w.heap.size w w' := by
  obtain ⟨i0, fi, fz0, fz1, fz2⟩ := info_parts Tryd.info5
  have hst : PQ s ((pq hx2 ((nl s).drop 1)).map fun r => (r.1, r.2 + 1)) 1 [] := ⟨by congr 1; funext r; simp [Nat.add_comm], by simp⟩
  have HL := Lib.hid (show ∀ r, (pq hx2 ((nl s).drop 1)).map (fun r => (r.1, r.2 + 1)) = some r → ∀ x ∈ r.1, x < 256 from fun r h => by
    cases hp : pq hx2 ((nl s).drop 1) with
    | none => rw [hp] at h; cases h
    | some r' =>
      rw [hp] at h
      injection h with h
      subst h
      exact pqF_lt hx2_is _ _ r' (drop_lt (nl_lt s) 1) hp)
  have HST := Lib.hid hst
  generalize (pq hx2 ((nl s).drop 1)).map (fun r => (r.1, r.2 + 1)) = R at HL HST ⊢
  have HE1 := Lib.hid he1
  have HE2 := Lib.hid he2
  have HW := Lib.hid hw
  clear hst he1 he2 hw
  go_enter Tryd.func55, Tryd.ntmps55
  go_wp2_with fail
  go_loopw [5, 6] (fun v i wx => ∃ (k n c : Nat) (A : Option Addr) (l : List Nat), v = .slice A n c ∧ i = .int .i64 k ∧ k ≤ s.size ∧ Own wx w.heap.size A n c l ∧ PQ s R k l ∧ Below w.heap.size w wx) (fun _ i _ => s.size - (intOf i).toNat)
  case atStart => exact ⟨1, 0, 0, none, [], rfl, rfl, h0, own_none _ _, HST.out, Below.refl _ _⟩
  case round =>
    obtain ⟨k, n, c, A, l, rfl, rfl, hk, hown, hrq, hb⟩ := hrel
    have HO := Lib.hid hown
    have HB := Lib.hid hb
    have HQ := Lib.hid hrq
    have hn : n ≤ 16777216 := by have := hown.1; have := hrq.2; omega
    have m1 := Lib.hid (show n + 1 ≤ maxLen from by unfold maxLen; omega)
    have m2 := Lib.hid (show (n + 1) * 1 ≤ 140737488355328 from by omega)
    have hsz := HB.out.size
    clear hown hrq
    by_cases hlt : k < s.size
    · have hki : (k : Int) < (s.size : Int) := by omega
      by_cases hq : s[k].toNat = 34
      · have hE := HQ.out.quote hlt hq
        obtain ⟨t, ht, hnl⟩ := str_row (c := c) HO.out.1 (own_seg HO.out.2) (HL.out _ hE)
        have HE := Lib.hid hE
        have HT := Lib.hid hnl
        clear hE hnl
        go_wp2_with fail
        refine bodyPost_ret (v := .tuple #[.string t, .int .i64 ((k + 1 : Nat) : Int), .bool true]) (by simp [results, Tryd.results55, go_sem]) rfl ⟨?_, HB.out⟩
        rw [HE.out]
        exact ⟨t, rfl, HT.out⟩
      · obtain ⟨c0, hc0⟩ : ∃ c0 : Nat, s[k].toNat = c0 := ⟨_, rfl⟩
        have HC := Lib.hid hc0
        rw [hc0] at hq
        have hqd : ((c0 : Int) == 34) = false := by simp; omega
        have H34 := Lib.hid (show s[k].toNat ≠ 34 from by rw [HC.out]; exact hq)
        by_cases h92 : c0 = 92
        · subst h92
          clear hq hb
          by_cases hk1 : k + 1 < s.size
          · have hk1i : (k : Int) + 1 < (s.size : Int) := by omega
            obtain ⟨c1, hc1⟩ : ∃ c1 : Nat, s[k + 1].toNat = c1 := ⟨_, rfl⟩
            have HC1 := Lib.hid hc1
            by_cases hk3 : k + 3 < s.size
            · have hk3i : (k : Int) + 3 < (s.size : Int) := by omega
              by_cases h120 : c1 = 120
              · subst h120
                have P4 := pst_four hk3 HC.out HC1.out
                have N2 := Lib.hid (nl_two hk3)
                have HX := Lib.hid fun (W : World) (hbW : Below w.heap.size w W) => hexs_any (s.extract (k + 2) (k + 4)) 8 (.inl rfl) (by rw [ByteArray.size_extract]; omega) W (HE1.out.below hbW (by have := HW.out; omega)) (HE2.out.below hbW HW.out) (Nat.lt_of_lt_of_le HW.out hbW.size)
                have S4 : (Instr.slice 9 (.string s) (some (.int .i64 ((k : Int) + 2))) (some (.int .i64 ((k : Int) + 4))) none).run Tryd.prog wr = .ok (.string (s.extract (k + 2) (k + 4))) wr := slice_str s (k + 2) (k + 4) (by omega) (by omega) wr
                rw [N2.out] at HX
                generalize s[k + 2].toNat = c2 at HX P4
                generalize s[k + 3].toNat = c3 at HX P4
                cases hv : hx2 c2 c3 with
                | none =>
                  rw [hv] at P4
                  have HR := Lib.hid (HQ.out.bad hlt H34.out P4)
                  have hno := hx2_no hv
                  have HN := Lib.hid hno
                  clear P4 hv hno
                  go_wp2_with (first
                    | (go_at_call 41; refine (HX.out _ HB.out).mono ?_; rintro e w1 ⟨⟨ev, rfl, hev⟩, hb1⟩; obtain ⟨N, rfl⟩ := perr_no HN.out hev; have B1 := Lib.hid (HB.out.trans (hb1.mono hsz)); clear hb1 hev)
                    | fail)
                  refine bodyPost_ret (v := .tuple #[.string ⟨#[]⟩, .int .i64 0, .bool false]) (by simp [results, Tryd.results55, go_sem]) rfl ⟨?_, B1.out⟩
                  rw [HR.out]
                  rfl
                | some v =>
                  rw [hv] at P4
                  have hA := HQ.out.adv hlt H34.out P4
                  have HA := Lib.hid hA
                  obtain ⟨y1, y2⟩ := hx2_yes hv
                  have hv256 : v < 256 := hx2_is.2 _ _ _ hv
                  have Y := Lib.hid (And.intro y1 y2)
                  rw [y1, y2] at HX
                  clear P4 hA y1 y2 hv
                  have hk4 : k + 4 ≤ s.size := by omega
                  go_wp2_with (first
                    | (go_at_call 41; refine (HX.out _ HB.out).mono ?_; rintro e w1 ⟨⟨ev, rfl, hev⟩, hb1⟩; obtain rfl := perr_yes hev; have B1 := Lib.hid (HB.out.trans (hb1.mono hsz)); have O1 := Lib.hid (HO.out.below hb1); have hsz1 := B1.out.size; clear hb1 hev)
                    | (at_builtin; refine wpList_append_seg _ rfl (.tmp 59) (.tmp 62) 72 rfl w.heap.size 5 i0 _ 1 1 Tryd.underlying72 fi fz0 fz1 fz2 rfl (by decide) (.slice A n c) n (bV l) rfl (O1.out.2.alloc _) (w1.heap.size + 1) (some ⟨w1.heap.size, 0, none⟩) 1 1 [.int .u8 (v : Int)] rfl rfl (seg_new (e := 5) (cs := #[.int .u8 (v : Int)])) (by simp [Value.oneCell']) m1.out m2.out (by rw [World.size_alloc]; omega) ?_
                       intro v3 w3 hown3 hg3 _
                       have hb3 : Below w.heap.size w w3 := (B1.out.alloc hsz1 _).grown hg3 (by rw [World.size_alloc]; omega) (fun g hg => (O1.out.2.lt g hg).1)
                       obtain ⟨A3, c3', rfl, ho3⟩ := own_snoc O1.out.1 hown3
                       have HO3 := Lib.hid ho3; have HB3 := Lib.hid hb3; clear hown3 hg3 hb3 ho3)
                    | fail)
                  exact ⟨⟨k + 4, n + 1, c3', A3, _, rfl, by go_num, hk4, HO3.out, HA.out, HB3.out⟩, by simp [intOf]; omega⟩
              · have h120d : ((c1 : Int) == 120) = false := by simp; omega
                have hA := HQ.out.adv hlt H34.out (pst_two hk1 HC.out (by rintro ⟨_, h⟩; rw [HC1.out] at h; exact h120 h))
                rw [HC1.out] at hA
                have HA := Lib.hid hA
                clear hA h120
                go_wp2_with (first
                  | (at_builtin; refine wpList_append_seg _ rfl (.tmp 78) (.tmp 82) 72 rfl w.heap.size 5 i0 _ 1 1 Tryd.underlying72 fi fz0 fz1 fz2 rfl (by decide) (.slice A n c) n (bV l) rfl (HO.out.2.alloc _) (wr.heap.size + 1) (some ⟨wr.heap.size, 0, none⟩) 1 1 [.int .u8 (c1 : Int)] rfl rfl (seg_new (e := 5) (cs := #[.int .u8 (c1 : Int)])) (by simp [Value.oneCell']) m1.out m2.out (by rw [World.size_alloc]; omega) ?_
                     intro v3 w3 hown3 hg3 _
                     have hb3 : Below w.heap.size w w3 := (HB.out.alloc hsz _).grown hg3 (by rw [World.size_alloc]; omega) (fun g hg => (HO.out.2.lt g hg).1)
                     obtain ⟨A3, c3', rfl, ho3⟩ := own_snoc HO.out.1 hown3
                     have HO3 := Lib.hid ho3; have HB3 := Lib.hid hb3; clear hown3 hg3 hb3 ho3)
                  | fail)
                exact ⟨⟨k + 2, n + 1, c3', A3, _, rfl, by go_num, hk1, HO3.out, HA.out, HB3.out⟩, by simp [intOf]; omega⟩
            · have hk3i : ¬ (k : Int) + 3 < (s.size : Int) := by omega
              have hA := HQ.out.adv hlt H34.out (pst_two hk1 HC.out (by rintro ⟨h, _⟩; exact hk3 h))
              rw [HC1.out] at hA
              have HA := Lib.hid hA
              clear hA
              go_wp2_with (first
                | (at_builtin; refine wpList_append_seg _ rfl (.tmp 78) (.tmp 82) 72 rfl w.heap.size 5 i0 _ 1 1 Tryd.underlying72 fi fz0 fz1 fz2 rfl (by decide) (.slice A n c) n (bV l) rfl (HO.out.2.alloc _) (wr.heap.size + 1) (some ⟨wr.heap.size, 0, none⟩) 1 1 [.int .u8 (c1 : Int)] rfl rfl (seg_new (e := 5) (cs := #[.int .u8 (c1 : Int)])) (by simp [Value.oneCell']) m1.out m2.out (by rw [World.size_alloc]; omega) ?_
                   intro v3 w3 hown3 hg3 _
                   have hb3 : Below w.heap.size w w3 := (HB.out.alloc hsz _).grown hg3 (by rw [World.size_alloc]; omega) (fun g hg => (HO.out.2.lt g hg).1)
                   obtain ⟨A3, c3', rfl, ho3⟩ := own_snoc HO.out.1 hown3
                   have HO3 := Lib.hid ho3; have HB3 := Lib.hid hb3; clear hown3 hg3 hb3 ho3)
                | fail)
              exact ⟨⟨k + 2, n + 1, c3', A3, _, rfl, by go_num, hk1, HO3.out, HA.out, HB3.out⟩, by simp [intOf]; omega⟩
          · have hk1i : ¬ (k : Int) + 1 < (s.size : Int) := by omega
            have hk3i : ¬ (k : Int) + 3 < (s.size : Int) := by omega
            have hA := HQ.out.adv hlt H34.out (pst_last hlt hk1)
            rw [HC.out] at hA
            have HA := Lib.hid hA
            clear hA
            go_wp2_with (first
              | (at_builtin; refine wpList_append_seg _ rfl (.tmp 19) (.tmp 21) 72 rfl w.heap.size 5 i0 _ 1 1 Tryd.underlying72 fi fz0 fz1 fz2 rfl (by decide) (.slice A n c) n (bV l) rfl (HO.out.2.alloc _) (wr.heap.size + 1) (some ⟨wr.heap.size, 0, none⟩) 1 1 [.int .u8 ((92 : Nat) : Int)] rfl rfl (seg_new (e := 5) (cs := #[.int .u8 ((92 : Nat) : Int)])) (by simp [Value.oneCell']) m1.out m2.out (by rw [World.size_alloc]; omega) ?_
                 intro v3 w3 hown3 hg3 _
                 have hb3 : Below w.heap.size w w3 := (HB.out.alloc hsz _).grown hg3 (by rw [World.size_alloc]; omega) (fun g hg => (HO.out.2.lt g hg).1)
                 obtain ⟨A3, c3', rfl, ho3⟩ := own_snoc HO.out.1 hown3
                 have HO3 := Lib.hid ho3; have HB3 := Lib.hid hb3; clear hown3 hg3 hb3 ho3)
              | fail)
            exact ⟨⟨k + 1, n + 1, c3', A3, _, rfl, by go_num, hlt, HO3.out, HA.out, HB3.out⟩, by simp [intOf]; omega⟩
        · have h92d : ((c0 : Int) == 92) = false := by simp; omega
          have hA := HQ.out.adv hlt H34.out (pst_one hlt (by rw [HC.out]; exact h92))
          rw [HC.out] at hA
          have HA := Lib.hid hA
          clear hq h92 hA hb
          go_wp2_with (first
            | (at_builtin; refine wpList_append_seg _ rfl (.tmp 19) (.tmp 21) 72 rfl w.heap.size 5 i0 _ 1 1 Tryd.underlying72 fi fz0 fz1 fz2 rfl (by decide) (.slice A n c) n (bV l) rfl (HO.out.2.alloc _) (wr.heap.size + 1) (some ⟨wr.heap.size, 0, none⟩) 1 1 [.int .u8 (c0 : Int)] rfl rfl (seg_new (e := 5) (cs := #[.int .u8 (c0 : Int)])) (by simp [Value.oneCell']) m1.out m2.out (by rw [World.size_alloc]; omega) ?_
               intro v3 w3 hown3 hg3 _
               have hb3 : Below w.heap.size w w3 := (HB.out.alloc hsz _).grown hg3 (by rw [World.size_alloc]; omega) (fun g hg => (HO.out.2.lt g hg).1)
               obtain ⟨A3, c3', rfl, ho3⟩ := own_snoc HO.out.1 hown3
               have HO3 := Lib.hid ho3; have HB3 := Lib.hid hb3; clear hown3 hg3 hb3 ho3)
            | fail)
          exact ⟨⟨k + 1, n + 1, c3', A3, _, rfl, by go_num, hlt, HO3.out, HA.out, HB3.out⟩, by simp [intOf]; omega⟩
    · obtain rfl : k = s.size := by omega
      have hki : ¬ (s.size : Int) < (s.size : Int) := by omega
      have HR := Lib.hid (HQ.out.end hlt)
      clear hb
      go_wp2_with fail
      refine bodyPost_ret (v := .tuple #[.string ⟨#[]⟩, .int .i64 0, .bool false]) (by simp [results, Tryd.results55, go_sem]) rfl ⟨?_, HB.out⟩
      rw [HR.out]
      rfl
end Go.Proofs.YtfipljhlponcoaaDoor
