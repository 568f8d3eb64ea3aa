/- words.Columns: the contract. -/
import Derived.Test.YtfipljhlponcoaaDoorColLaw
import Derived.Laws.MakeOwn
set_option linter.unusedVariables false
namespace Go.Proofs.YtfipljhlponcoaaDoor
open Go.RowKit
/-- A row of texts as it lies. -/
structure Tx where
  A : Option Addr
  c : Nat
  ts : List ByteArray
def Tx.val (x : Tx) : Value := .slice x.A x.ts.length x.c
def txCells (l : List Tx) : List Value := l.map Tx.val
theorem txCells_len (l : List Tx) : (txCells l).length = l.length := by simp [txCells]
structure Rowz (w : World) (B : Nat) (a : Option Addr) (l : List Tx) : Prop where
  seg : Seg w B a (txCells l)
  rows : ∀ x ∈ l, Seg w B x.A (sV x.ts)
theorem Rowz.below {w w' : World} {B : Nat} {a : Option Addr} {l : List Tx} (h : Rowz w B a l) (hb : Below B w w') : Rowz w' B a l := ⟨h.seg.below hb, fun x hx => (h.rows x hx).below hb⟩
theorem Rowz.more {w : World} {B B' : Nat} {a : Option Addr} {l : List Tx} (h : Rowz w B a l) (hb : B ≤ B') : Rowz w B' a l := ⟨h.seg.more hb, fun x hx => (h.rows x hx).more hb⟩
theorem Rowz.at_ {w : World} {B : Nat} {a : Option Addr} {l : List Tx} (h : Rowz w B a l) {k : Nat} (hk : k < l.length) : ∃ b off, a = some ⟨b, off, none⟩ ∧ b < B ∧ w.cell? ⟨b, off + k, none⟩ = some (.slice l[k].A l[k].ts.length l[k].c) := by
  obtain ⟨b, off, e, hb, hc⟩ := h.seg (fun e => by have := txCells_len l; rw [e] at this; simp at this; omega)
  exact ⟨b, off, e, hb, hc _ _ (by simp [txCells, hk, Tx.val])⟩
structure TSized (l : List Tx) : Prop where
  n : l.length ≤ 1048576
  rows : ∀ x ∈ l, x.ts.length ≤ 1048576
  texts : ∀ x ∈ l, ∀ t ∈ x.ts, t.size ≤ 1048576
def tdat (l : List Tx) : List (List (List Nat)) := l.map fun x => x.ts.map nl
theorem tdat_len (l : List Tx) : (tdat l).length = l.length := by simp [tdat]
def ints (l : List Int) : List Value := l.map (Value.int .i64)
theorem ints_len (l : List Int) : (ints l).length = l.length := by simp [ints]
theorem ints_one (l : List Int) : ∀ u ∈ ints l, u.oneCell' = true := fun u hu => by
  obtain ⟨b, _, rfl⟩ := List.mem_map.1 hu
  rfl
theorem seg_int {w : World} {B : Nat} {A : Option Addr} {l : List Int} (h : Seg w B A (ints l)) {k : Nat} (hk : k < l.length) : ∃ b off, A = some ⟨b, off, none⟩ ∧ b < B ∧ w.cell? ⟨b, off + k, none⟩ = some (.int .i64 l[k]) := by
  obtain ⟨b, off, e, hb, hc⟩ := h (fun e => by have := ints_len l; rw [e] at this; simp at this; omega)
  exact ⟨b, off, e, hb, hc _ _ (by simp [ints, hk])⟩
/-- What Columns leaves. -/
def ColRet (base : Nat) (R : Option (List (List Nat))) (e : Ending) (w' : World) : Prop := match R with
  | none => e = .returned (.tuple #[.slice none 0 0, .int .i64 1])
  | some ls => ∃ A c ts, e = .returned (.tuple #[.slice A ts.length c, .int .i64 0]) ∧ w'.ownsRow base 9 1 (.slice A ts.length c) ts.length (sV ts) ∧ ts.map nl = ls
theorem join_own (A : Option Addr) (c n : Nat) (ts : List ByteArray) (hn : n = ts.length) (hl : (joinN (ts.map nl)).length ≤ 100000000) (hn2 : n ≤ 100000000) (w : World) (base : Nat) (ho : w.ownsRow base 9 1 (.slice A n c) n (sV ts)) :
    Calls Tryd.prog 45 #[.slice A n c, .string ⟨#[32]⟩] w fun e w' => ∃ t, e = .returned (.string t) ∧ nl t = joinN (ts.map nl) ∧ Below w.heap.size w w' := by
  subst hn
  by_cases h0 : ts = []
  · subst h0
    refine (Tryd.strings_Join_none A c ⟨#[32]⟩ w).mono ?_
    rintro e w' ⟨rfl, rfl⟩
    exact ⟨_, rfl, rfl, Below.refl _ _⟩
  · have hpos : 0 < ts.length := List.length_pos_iff.2 h0
    obtain ⟨g, rfl, hg1, hg2⟩ := own_head ho hpos
    have hc := own_cap ho
    have hcells : ∀ (j : Nat) x, ts[j]? = some x → w.cell? ⟨g, 0 + j, none⟩ = some (.string x) := fun j x hj => by
      have := ho.cells (g := g) rfl j (.string x) (by simp [sV, hj])
      rwa [addr_add] at this
    have hjl := nl_join ts
    refine (Tryd.strings_Join g 0 c ts ⟨#[32]⟩ w hcells hg2 (by omega) hc.1 (by
      have h2 := congrArg List.length hjl
      rw [nl_mk, List.length_map] at h2
      show (Lib.join _ [32]).length ≤ _
      omega)).mono ?_
    rintro e w' ⟨rfl, hb⟩
    exact ⟨_, rfl, hjl, hb⟩
theorem trim_any (s : ByteArray) (w : World) (hs : s.size ≤ 100000000) :
    Calls Tryd.prog 44 #[.string s, .string ⟨#[32]⟩] w fun e w' => ∃ t, e = .returned (.string t) ∧ nl t = trimN (nl s) ∧ w = w' := by
  refine (Tryd.strings_TrimRight_one s 32 (by decide) w (by omega)).mono ?_
  rintro e w' ⟨rfl, rfl⟩
  exact ⟨_, rfl, nl_trim s, rfl⟩
theorem info9' : (Tryd.prog.info? 9).map (fun i => (i.zero, i.size, i.bytes)) = some (some (.string ⟨#[]⟩), 1, 16) := by kernel_rfl
theorem widths_no {ws : List Int} {k : Nat} (hk : k < ws.length) (h : ws[k] < 1 ∨ 4096 < ws[k]) : ¬ widthsB ws := fun hh => by
  have := hh.2 ws[k] (List.getElem_mem hk)
  omega
theorem cols_no1 {rows : List (List (List Nat))} {ws : List Int} (h : ¬ widthsB ws) : colsF rows ws = none := by unfold colsF; rw [if_neg fun hh => h hh.1]
theorem cols_no2 {l : List Tx} {ws : List Int} {k : Nat} (hk : k < l.length) (h : ws.length < l[k].ts.length) : colsF (tdat l) ws = none := by
  unfold colsF
  rw [if_neg fun hh => ?_]
  have := hh.2 (l[k].ts.map nl) (by unfold tdat; exact List.mem_map.2 ⟨_, List.getElem_mem hk, rfl⟩)
  rw [List.length_map] at this
  omega
theorem cols_yes {l : List Tx} {ws : List Int} (h1 : widthsB ws) (h2 : ∀ k (hk : k < l.length), l[k].ts.length ≤ ws.length) : colsF (tdat l) ws = some ((tdat l).map (lineF ws)) := by
  have h : ∀ r ∈ tdat l, r.length ≤ ws.length := fun r hr => by
    unfold tdat at hr
    obtain ⟨x, hx, rfl⟩ := List.mem_map.1 hr
    obtain ⟨k, hk, rfl⟩ := List.mem_iff_getElem.1 hx
    rw [List.length_map]
    exact h2 k hk
  unfold colsF
  rw [if_pos ⟨h1, h⟩]
theorem widths_ok {ws : List Int} (h1 : ws.length ≤ 64) (h2 : ∀ k (hk : k < ws.length), 1 ≤ ws[k] ∧ ws[k] ≤ 4096) : widthsB ws := ⟨h1, fun x hx => by
  obtain ⟨k, hk, rfl⟩ := List.mem_iff_getElem.1 hx
  exact h2 k hk⟩
theorem seg_str2 {w : World} {B : Nat} {A : Option Addr} {ts : List ByteArray} (h : Seg w B A (sV ts)) {k : Nat} (hk : k < ts.length) : ∃ b off, A = some ⟨b, off, none⟩ ∧ b < B ∧ w.cell? ⟨b, off + k, none⟩ = some (.string ts[k]) := by
  obtain ⟨b, off, e, hb, hc⟩ := h (fun e => by have := sV_len ts; rw [e] at this; simp at this; omega)
  exact ⟨b, off, e, hb, hc _ _ (by simp [sV, hk])⟩
set_option maxRecDepth 100000 in
set_option maxHeartbeats 16000000 in
theorem pcols_any (A : Option Addr) (c n : Nat) (l : List Tx) (hn : n = l.length) (hz : TSized l) (Aw : Option Addr) (cw m : Nat) (ws : List Int) (hm : m = ws.length) (hmb : m ≤ 1048576) (w : World) (B : Nat) (hB : B ≤ w.heap.size) (hr : Rowz w B A l) (hw : Seg w B Aw (ints ws)) :
    Calls Tryd.prog 18 #[.slice A n c, .slice Aw m cw] w fun e w' => ColRet w.heap.size (colsF (tdat l) ws) e w' ∧ Below w.heap.size w w' := by
  obtain ⟨i0, fi, fz0, fz1, fz2⟩ := info_parts info9'
  have HN := Lib.hid hn
  have HM := Lib.hid hm
  have HZ := Lib.hid hz
  have HR := Lib.hid hr
  have HW := Lib.hid hw
  have hn2 : (n : Int) ≤ 1048576 := by have := hz.n; omega
  have hm2 : (m : Int) ≤ 1048576 := by omega
  clear hn hm hr hw hz
  by_cases h64 : 64 < m
  · have HC := Lib.hid (cols_no1 (rows := tdat l) (ws := ws) (fun h => by have := h.1; have := HM.out; omega))
    have h64i : (64 : Int) < (m : Int) := by omega
    go_enter Tryd.func18, Tryd.ntmps18
    go_wp2_with (fail)
    go_ret2
    rw [HC.out]
    exact ⟨rfl, Below.refl _ _⟩
  have h64i : ¬ (64 : Int) < (m : Int) := by omega
  go_enter Tryd.func18, Tryd.ntmps18
  go_wp2_with (fail)
  go_loop [21] (fun iv => ∃ k : Nat, k ≤ m ∧ iv = .int .i64 k ∧ ∀ j (hj : j < ws.length), j < k → 1 ≤ ws[j] ∧ ws[j] ≤ 4096) (fun iv => m - (intOf iv).toNat)
  case atStart => exact ⟨0, by omega, rfl, fun j _ h => absurd h (Nat.not_lt_zero j)⟩
  case round =>
    obtain ⟨k, hk, rfl, hok⟩ := hrel
    have HOK := Lib.hid hok
    clear hok
    by_cases hlt : k < m
    · have hkw : k < ws.length := by rw [← HM.out]; exact hlt
      obtain ⟨b, off, hA, _, x0⟩ := seg_int HW.out hkw
      obtain ⟨z, hz⟩ : ∃ z, z = ws[k] := ⟨_, rfl⟩
      rw [← hz] at x0
      have HZ2 := Lib.hid hz
      have hki : (k : Int) < (m : Int) := by omega
      subst hA
      clear hz
      by_cases h1 : z < 1
      · have h1d : decide (z < 1) = true := by simpa using h1
        have HC := Lib.hid (cols_no1 (rows := tdat l) (widths_no hkw (.inl (by rw [← HZ2.out]; exact h1))))
        clear h1
        go_wp2
        go_ret2
        rw [HC.out]
        exact ⟨rfl, Below.refl _ _⟩
      have h1d : decide (z < 1) = false := by simpa using h1
      by_cases h2 : 4096 < z
      · have h2d : decide (4096 < z) = true := by simpa using h2
        have HC := Lib.hid (cols_no1 (rows := tdat l) (widths_no hkw (.inr (by rw [← HZ2.out]; exact h2))))
        clear h1 h2
        go_wp2
        go_ret2
        rw [HC.out]
        exact ⟨rfl, Below.refl _ _⟩
      have h2d : decide (4096 < z) = false := by simpa using h2
      have hok2 : ∀ j (hj : j < ws.length), j < k + 1 → 1 ≤ ws[j] ∧ ws[j] ≤ 4096 := fun j hj hjk => by
        rcases (show j < k ∨ j = k by omega) with h | rfl
        · exact HOK.out j hj h
        · rw [← HZ2.out]; omega
      have HOK2 := Lib.hid hok2
      clear hok2 h1 h2
      go_wp2
      go_round
      case rel => exact ⟨k + 1, by omega, by go_num, HOK2.out⟩
      case measure => simp [intOf]; omega
    · obtain rfl : k = m := by omega
      have hki : ¬ (k : Int) < (k : Int) := by omega
      have HWD := Lib.hid (widths_ok (ws := ws) (by have := HM.out; omega) (fun j hj => HOK.out j hj (by rw [HM.out]; exact hj)))
      clear HOK
      go_wp2
      go_loopw [8, 34] (fun ov iv wx => ∃ (k2 : Nat) (Ao : Option Addr) (co : Nat) (os : List ByteArray), iv = .int .i64 k2 ∧ k2 ≤ n ∧ ov = .slice Ao k2 co ∧ k2 = os.length ∧ wx.ownsRow w.heap.size 9 1 (.slice Ao k2 co) k2 (sV os) ∧ os.map nl = ((tdat l).take k2).map (lineF ws) ∧ (∀ j (hj : j < l.length), j < k2 → l[j].ts.length ≤ ws.length) ∧ Below w.heap.size w wx) (fun _ iv _ => n - (intOf iv).toNat)
      case atStart => exact ⟨0, none, 0, [], rfl, by omega, rfl, rfl, World.ownsRow_nil _ _ _ _, rfl, fun j _ h => absurd h (Nat.not_lt_zero j), Below.refl _ _⟩
      case round =>
        obtain ⟨k2, Ao, co, os, rfl, hk2, rfl, hos, hown, hnl, hfit, hb⟩ := hrel
        have HOS := Lib.hid hos
        have HO := Lib.hid hown
        have HNL := Lib.hid hnl
        have HF := Lib.hid hfit
        have HB := Lib.hid hb
        clear hos hown hnl hfit
        by_cases hlt : k2 < n
        · have hkl : k2 < l.length := by rw [← HN.out]; exact hlt
          have hbw := hb.mono hB
          obtain ⟨b, off, hA, hbB, x0⟩ := (HR.out.below hbw).at_ hkl
          have hrow := HR.out.rows l[k2] (List.getElem_mem hkl)
          have hz1 := HZ.out.rows l[k2] (List.getElem_mem hkl)
          have hz2 := HZ.out.texts l[k2] (List.getElem_mem hkl)
          obtain ⟨x, hx⟩ : ∃ x, x = l[k2] := ⟨_, rfl⟩
          rw [← hx] at x0 hrow hz1 hz2
          have HX := Lib.hid hx
          obtain ⟨xA, xc, ts⟩ := x
          simp only at x0 hrow hz1 hz2
          have HRW := Lib.hid hrow
          have HZ3 := Lib.hid hz2
          have hki : (k2 : Int) < (n : Int) := by omega
          subst hA
          obtain ⟨q, hq⟩ : ∃ q, ts.length = q := ⟨_, rfl⟩
          rw [hq] at x0 hz1
          have HQ := Lib.hid hq
          clear hx hb hbw hrow hz2 hq
          by_cases hqm : k < q
          · have hqi : (k : Int) < (q : Int) := by omega
            have HC := Lib.hid (cols_no2 (ws := ws) hkl (by rw [← HX.out]; show ws.length < ts.length; have := HM.out; have := HQ.out; omega))
            go_wp2
            go_ret2
            rw [HC.out]
            exact ⟨rfl, HB.out⟩
          · have hqi : ¬ (k : Int) < (q : Int) := by omega
            have hq64 : (q : Int) ≤ 64 := by omega
            obtain ⟨wo, rfl⟩ : ∃ wo : World, wo = wr := ⟨_, rfl⟩
            obtain ⟨W2, hW2, own2, g2⟩ := run_make_own (P := Tryd.prog) wo wo.heap.size 33 9 i0 _ 1 Tryd.underlying33 fi fz0 fz1 .i64 .i64 q (by rw [fz2]; omega) (by unfold maxLen; omega) (Nat.le_refl _)
            have hb2 : Below wo.heap.size wo W2 := (Below.refl _ wo).grown g2 (Nat.le_refl _) (fun g hg => by cases hg)
            have O2 := Lib.hid own2
            have B2 := Lib.hid hb2
            clear own2 g2 hb2
            go_wp2
            go_loopw [11, 48] (fun fv jv wx => ∃ (j : Nat) (A3 : Option Addr) (c3 : Nat) (fs : List ByteArray), jv = .int .i64 j ∧ j ≤ q ∧ fv = .slice A3 j c3 ∧ j = fs.length ∧ wx.ownsRow wo.heap.size 9 1 (.slice A3 j c3) j (sV fs) ∧ fs.map nl = List.zipWith (fun t w => (fitF t w).1) ((ts.take j).map nl) ws ∧ Below wo.heap.size wo wx) (fun _ jv _ => q - (intOf jv).toNat)
            case atStart => exact ⟨0, _, _, [], rfl, by omega, rfl, rfl, O2.out, rfl, B2.out⟩
            case round =>
              obtain ⟨j, A3, c3, fs, rfl, hj, rfl, hfs, hown3, hnl3, hb3⟩ := hrel
              have HFS := Lib.hid hfs
              have HO3 := Lib.hid hown3
              have HN3 := Lib.hid hnl3
              have HB3 := Lib.hid hb3
              have hs3 := hb3.size
              have hwx : Below w.heap.size w wr := HB.out.trans (hb3.mono HB.out.size)
              have HWX := Lib.hid hwx
              clear hfs hown3 hnl3 hb3 hwx
              by_cases hjq : j < q
              · have hjt : j < ts.length := by rw [HQ.out]; exact hjq
                have hjw : j < ws.length := by have := HM.out; omega
                obtain ⟨b3, o3, hA3, _, y0⟩ := seg_str2 (HRW.out.below (HWX.out.mono hB)) hjt
                obtain ⟨b4, o4, hA4, _, y1⟩ := seg_int (HW.out.below (HWX.out.mono hB)) hjw
                have hzt := HZ3.out ts[j] (List.getElem_mem hjt)
                have hzp := zip_take ts ws j hjt hjw
                obtain ⟨t, ht⟩ : ∃ t, t = ts[j] := ⟨_, rfl⟩
                obtain ⟨z, hz⟩ : ∃ z, z = ws[j] := ⟨_, rfl⟩
                rw [← ht] at y0 hzt hzp
                rw [← hz] at y1 hzp
                have HZP := Lib.hid hzp
                have HFT := Lib.hid fun W => fit_any t z W hzt
                have hji : (j : Int) < (q : Int) := by omega
                have hji2 : (j : Int) < (k : Int) := by omega
                subst hA3
                subst hA4
                have m1 : j + 1 ≤ maxLen := by unfold maxLen; omega
                have m2 : (j + 1) * 16 ≤ 140737488355328 := by omega
                clear ht hz hzp
                go_wp2_with (first
                  | (go_at_call 29; refine (HFT.out _).mono ?_; rintro e w4 ⟨t4, rfl, h4, hb4⟩; have H4 := Lib.hid h4; have O4 := Lib.hid (own_below HO3.out hb4); have B4 := Lib.hid (HB3.out.trans (hb4.mono hs3)); have m3 : wo.heap.size ≤ w4.heap.size := Nat.le_trans hs3 hb4.size; clear h4 hb4)
                  | (at_builtin; refine wpList_append_seg _ rfl (.tmp 62) (.tmp 64) 33 rfl wo.heap.size 9 i0 _ 1 16 Tryd.underlying33 fi fz0 fz1 fz2 rfl (by decide) (.slice A3 j c3) j (sV fs) rfl (World.ownsRow.alloc O4.out _) (w4.heap.size + 1) (some ⟨w4.heap.size, 0, none⟩) 1 1 [.string t4] rfl rfl (seg_new (e := 9) (cs := #[.string t4])) (by simp [Value.oneCell']) m1 m2 (by rw [World.size_alloc]; omega) ?_
                     intro v5 w5 hown5 hg5 _
                     have hb5 : Below wo.heap.size wo w5 := (B4.out.alloc m3 _).grown hg5 (by rw [World.size_alloc]; omega) (fun g hg => (O4.out.lt g hg).1)
                     obtain ⟨A5, c5, rfl⟩ := own_shape hown5
                     have HO5 := Lib.hid hown5; have HB5 := Lib.hid hb5; clear hown5 hg5 hb5)
                  | (fail))
                refine ⟨⟨j + 1, A5, c5, fs ++ [t4], by go_num, hjq, rfl, ?_, ?_, ?_, HB5.out⟩, by simp [intOf]; omega⟩
                · rw [List.length_append, ← HFS.out]; rfl
                · rw [sV_app]; exact HO5.out
                · rw [HZP.out, List.map_append, HN3.out, ← H4.out]; rfl
              · obtain rfl : j = q := by omega
                have hji : ¬ (j : Int) < (j : Int) := by omega
                have hlen := fun e (he : e ∈ fs.map nl) => (show e.length ≤ 20480 from by
                  rw [HN3.out] at he
                  obtain ⟨i, hi, rfl⟩ := List.mem_iff_getElem.1 he
                  rw [List.getElem_zipWith, List.getElem_map]
                  exact fit_len _ (nl_lt _) _)
                have hjl := joinN_len _ _ hlen
                rw [List.length_map, ← HFS.out] at hjl
                have hjl2 : (joinN (fs.map nl)).length ≤ 2000000 := by omega
                have HJ := Lib.hid (join_own A3 c3 j fs HFS.out (by omega) (by omega) wr wo.heap.size HO3.out)
                have HJL := Lib.hid hjl2
                have m1 : k2 + 1 ≤ maxLen := by unfold maxLen; omega
                have m2 : (k2 + 1) * 16 ≤ 140737488355328 := by omega
                have hln : lineF ws (ts.map nl) = trimN (joinN (fs.map nl)) := by
                  unfold lineF
                  rw [HN3.out, List.take_of_length_le (by rw [HQ.out]; exact Nat.le_refl _)]
                have HLN := Lib.hid hln
                clear hlen hjl hjl2 hln
                go_wp2_with (first
                  | (go_at_call 45; refine HJ.out.mono ?_; rintro e w4 ⟨t4, rfl, h4, hb4⟩; have HT := Lib.hid (fun W => trim_any t4 W (by rw [← nl_len, h4]; have := HJL.out; omega)); have H4 := Lib.hid h4; have O4 := Lib.hid (own_below HO.out (HB3.out.trans (hb4.mono hs3))); have B4 := Lib.hid (HWX.out.trans (hb4.mono HWX.out.size)); have m3 : w.heap.size ≤ w4.heap.size := B4.out.size; clear h4 hb4)
                  | (go_at_call 44; refine (HT.out _).mono ?_; rintro e w5 ⟨t5, rfl, h5, rfl⟩; have H5 := Lib.hid h5; clear h5)
                  | (at_builtin; refine wpList_append_seg _ rfl (.tmp 67) (.tmp 71) 33 rfl w.heap.size 9 i0 _ 1 16 Tryd.underlying33 fi fz0 fz1 fz2 rfl (by decide) (.slice Ao k2 co) k2 (sV os) rfl (World.ownsRow.alloc O4.out _) (w4.heap.size + 1) (some ⟨w4.heap.size, 0, none⟩) 1 1 [.string t5] rfl rfl (seg_new (e := 9) (cs := #[.string t5])) (by simp [Value.oneCell']) m1 m2 (by rw [World.size_alloc]; omega) ?_
                     intro v6 w6 hown6 hg6 _
                     have hb6 : Below w.heap.size w w6 := (B4.out.alloc m3 _).grown hg6 (by rw [World.size_alloc]; omega) (fun g hg => (O4.out.lt g hg).1)
                     obtain ⟨A6, c6, rfl⟩ := own_shape hown6
                     have HO6 := Lib.hid hown6; have HB6 := Lib.hid hb6; clear hown6 hg6 hb6)
                  | (fail))
                have hfit2 : ∀ i (hi : i < l.length), i < k2 + 1 → l[i].ts.length ≤ ws.length := fun i hi hik => by
                  rcases (show i < k2 ∨ i = k2 by omega) with h | rfl
                  · exact HF.out i hi h
                  · rw [← HX.out]; show ts.length ≤ ws.length; have := HM.out; have := HQ.out; omega
                have hnl2 : (os ++ [t5]).map nl = ((tdat l).take (k2 + 1)).map (lineF ws) := by
                  rw [List.map_append, HNL.out, List.take_succ_eq_append_getElem (by rw [tdat_len]; exact hkl), List.map_append]
                  congr 1
                  have e : (tdat l)[k2]'(by rw [tdat_len]; exact hkl) = ts.map nl := by simp only [tdat, List.getElem_map]; rw [← HX.out]
                  simp only [List.map_cons, List.map_nil, e]
                  rw [H5.out, H4.out, HLN.out]
                refine ⟨⟨k2 + 1, A6, c6, os ++ [t5], by go_num, hlt, rfl, ?_, ?_, hnl2, hfit2, HB6.out⟩, by simp [intOf]; omega⟩
                · rw [List.length_append, ← HOS.out]; rfl
                · rw [sV_app]; exact HO6.out
        · have hki : ¬ (k2 : Int) < (n : Int) := by omega
          obtain rfl : k2 = n := by omega
          have HC := Lib.hid (cols_yes (l := l) HWD.out (fun j hj => HF.out j hj (by rw [HN.out]; exact hj)))
          clear hb
          go_wp2
          go_ret2
          rw [HC.out]
          refine ⟨⟨Ao, co, os, by rw [← HOS.out]; rfl, by rw [← HOS.out]; exact HO.out, ?_⟩, HB.out⟩
          rw [HNL.out, List.take_of_length_le (by rw [tdat_len, HN.out]; exact Nat.le_refl _)]
end Go.Proofs.YtfipljhlponcoaaDoor
