/- The walk of MatchSettings. -/
import Derived.Test.YtiheibcookcbdaaDoorPSet
import Derived.Test.YtiheibcookcbdaaDoorSame
set_option linter.unusedVariables false
namespace Go.Proofs.YtiheibcookcbdaaDoor
open Go.RowKit
/-- The card and its twin as they lie, through what only makes memory. -/
structure SSt (w wx : World) (b1 b2 : Nat) (A A1 : Option Addr) (c c1 : Nat) (nm fam qk : ByteArray) (lv : Nat) (sc en : Int) (ts : List ByteArray) : Prop where
  r1 : RowAt wx b1 26 [.string nm, .string fam, .int .u8 (lv : Int), .slice A ts.length c, .int .i8 sc, .string qk, .int .i16 en]
  r2 : RowAt wx b2 26 [.string nm, .string fam, .int .u8 (lv : Int), .slice A1 ts.length c1, .int .i8 sc, .string qk, .int .i16 en]
  s1 : Seg wx wx.heap.size A (strs ts)
  s2 : Seg wx wx.heap.size A1 (strs ts)
  laid : Laid wx
  low : Below w.heap.size w wx
theorem SSt.below {w wx w2 : World} {b1 b2 : Nat} {A A1 : Option Addr} {c c1 : Nat} {nm fam qk : ByteArray} {lv : Nat} {sc en : Int} {ts : List ByteArray} (h : SSt w wx b1 b2 A A1 c c1 nm fam qk lv sc en ts) (hb : Below wx.heap.size wx w2) : SSt w w2 b1 b2 A A1 c c1 nm fam qk lv sc en ts :=
  ⟨h.r1.keep (hb.block _ h.r1.lt), h.r2.keep (hb.block _ h.r2.lt), (h.s1.below hb).more hb.size, (h.s2.below hb).more hb.size, h.laid.below hb h.laid.size, h.low.trans (hb.mono h.low.size)⟩
set_option maxRecDepth 100000 in
set_option maxHeartbeats 16000000 in
theorem matchSettings_walk (nm fam qk : ByteArray) (lv : Nat) (sc en : Int) (A : Option Addr) (m c : Nat) (ts : List ByteArray) (hm : m = ts.length) (hc : m ≤ c) (hz : Cc.fits ⟨nm, fam, lv, ts, sc, qk, en⟩) (htn : m * 16 ≤ 140737488355328) (hsc : -128 ≤ sc ∧ sc ≤ 127) (hen : -32768 ≤ en ∧ en ≤ 32767) (name : ByteArray) (n : Int) (hn : -9223372036854775808 ≤ n ∧ n ≤ 9223372036854775807) (w : World) (hlaid : Laid w) (hs : Seg w w.heap.size A (strs ts)) :
    Calls Tryd.prog 3 #[.agg #[.string nm, .string fam, .int .u8 (lv : Int), .slice A m c, .int .i8 sc, .string qk, .int .i16 en], .string name, .int .i64 n] w fun e w' => e = .returned (.bool true) ∧ Below w.heap.size w w' := by
  subst hm
  have htw := twin_any nm fam qk lv sc en A ts.length c ts rfl htn (w.alloc (.cells #[.string nm, .string fam, .int .u8 (lv : Int), .slice A ts.length c, .int .i8 sc, .string qk, .int .i16 en] 26)) w.heap.size (by simp) (hs.alloc (Nat.le_refl _) _)
  have hst : ∀ (w1 : World) A1 c1, Below (w.alloc (.cells #[.string nm, .string fam, .int .u8 (lv : Int), .slice A ts.length c, .int .i8 sc, .string qk, .int .i16 en] 26)).heap.size (w.alloc (.cells #[.string nm, .string fam, .int .u8 (lv : Int), .slice A ts.length c, .int .i8 sc, .string qk, .int .i16 en] 26)) w1 → w1.ownsRow ((w.alloc (.cells #[.string nm, .string fam, .int .u8 (lv : Int), .slice A ts.length c, .int .i8 sc, .string qk, .int .i16 en] 26)).heap.size + 1) 9 1 (.slice A1 ts.length c1) ts.length (strs ts) → SSt w (w1.alloc (.cells #[.string nm, .string fam, .int .u8 (lv : Int), .slice A1 ts.length c1, .int .i8 sc, .string qk, .int .i16 en] 26)) w.heap.size w1.heap.size A A1 c c1 nm fam qk lv sc en ts ∧ ts.length ≤ c1 := fun w1 A1 c1 hb ho => by
    have hsz : (w.alloc (.cells #[.string nm, .string fam, .int .u8 (lv : Int), .slice A ts.length c, .int .i8 sc, .string qk, .int .i16 en] 26)).heap.size = w.heap.size + 1 := by simp
    have hb1 : Below w.heap.size w w1 := ((Below.refl _ w).alloc (Nat.le_refl _) _).trans (hb.mono (by rw [hsz]; omega))
    have hr1 : RowAt w1 w.heap.size 26 _ := (row_new w #[.string nm, .string fam, .int .u8 (lv : Int), .slice A ts.length c, .int .i8 sc, .string qk, .int .i16 en] 26 _ rfl).keep (hb.block _ (by rw [hsz]; omega))
    have ha : Below w1.heap.size w1 (w1.alloc (.cells #[.string nm, .string fam, .int .u8 (lv : Int), .slice A1 ts.length c1, .int .i8 sc, .string qk, .int .i16 en] 26)) := (Below.refl _ _).alloc (Nat.le_refl _) _
    refine ⟨⟨hr1.alloc _, row_new w1 _ 26 _ rfl, ?_, ?_, (hlaid.below hb1 hlaid.size).below ha (Nat.le_trans hlaid.size hb1.size), hb1.alloc hb1.size _⟩, own_cap ho⟩
    · exact ((hs.below hb1).alloc hb1.size _).more (by simp; have := hb1.size; omega)
    · exact ((own_seg ho).alloc (Nat.le_refl _) _).more (by simp)
  have h7 : ∀ (wx : World) b1 b2 A1 c1, SSt w wx b1 b2 A A1 c c1 nm fam qk lv sc en ts → ts.length ≤ c1 → Calls Tryd.prog 7 #[.agg #[.string nm, .string fam, .int .u8 (lv : Int), .slice A1 ts.length c1, .int .i8 sc, .string qk, .int .i16 en]] wx fun e w' => e = .returned (.tuple #[.int .i64 (setF ⟨nm, fam, lv, ts, sc, qk, en⟩).1, .int .i64 (setF ⟨nm, fam, lv, ts, sc, qk, en⟩).2]) ∧ Below wx.heap.size wx w' := fun wx b1 b2 A1 c1 h hc1 =>
    pset_any nm fam qk lv sc en A1 ts.length c1 ts rfl hc1 hz htn hsc hen wx h.laid wx.heap.size (Nat.le_refl _) h.s2
  have h8 : ∀ (wx : World) b1 b2 A1 c1, SSt w wx b1 b2 A A1 c c1 nm fam qk lv sc en ts → Calls Tryd.prog 8 #[.agg #[.string nm, .string fam, .int .u8 (lv : Int), .slice A1 ts.length c1, .int .i8 sc, .string qk, .int .i16 en], .agg #[.string nm, .string fam, .int .u8 (lv : Int), .slice A ts.length c, .int .i8 sc, .string qk, .int .i16 en]] wx fun e w' => e = .returned (.bool true) ∧ Below wx.heap.size wx w' := fun wx b1 b2 A1 c1 h =>
    same_yes nm fam qk lv sc en A1 ts.length c1 A c ts rfl (by omega) wx wx.heap.size (Nat.le_refl _) h.s2 h.s1
  have h6 : ∀ (wx : World) b1 b2 A1 c1, SSt w wx b1 b2 A A1 c c1 nm fam qk lv sc en ts → ∀ (AT : Option Addr) k cT (T : List Int), k = T.length → (T = [] ∨ TabOk T) → T = (tableF fam).getD [] → Seg wx wx.heap.size AT (ints T) →
      Calls Tryd.prog 6 #[.agg #[.string nm, .string fam, .int .u8 (lv : Int), .slice A ts.length c, .int .i8 sc, .string qk, .int .i16 en], .slice AT k cT] wx fun e w' => e = .returned (.tuple #[.int .i64 (setF ⟨nm, fam, lv, ts, sc, qk, en⟩).1, .int .i64 (setF ⟨nm, fam, lv, ts, sc, qk, en⟩).2]) ∧ Below wx.heap.size wx w' := fun wx b1 b2 A1 c1 h AT k cT T h1 h2 h3 h4 => by
    have := rset_any nm fam qk lv sc en A ts.length c ts rfl hc hz htn hsc hen wx wx.heap.size (Nat.le_refl _) h.s1 0 k cT AT T h1 (h2.elim (fun e => by subst e; simp at h1; omega) (fun h => by have := h.len; omega)) (h2.elim (fun e => by subst e; simp) (fun h => h.bd)) h4
    have e := set_same ⟨nm, fam, lv, ts, sc, qk, en⟩ hen.1
    simp only at e
    rw [h3, e] at this
    exact this
  have htd := fun wx => turned_any name n wx hn.1 hn.2
  obtain ⟨S, hS⟩ : ∃ S, S = setF ⟨nm, fam, lv, ts, sc, qk, en⟩ := ⟨_, rfl⟩
  obtain ⟨S1, S2⟩ := S
  simp only [← hS] at h6 h7
  have HTW := Lib.hid htw
  have HST := Lib.hid hst
  have H6 := Lib.hid h6
  have H7 := Lib.hid h7
  have H8 := Lib.hid h8
  have HTD := Lib.hid htd
  clear htw hst h6 h7 h8 htd hS hs hlaid hz
  rcases hT : tableF fam with _ | T
  · have htb : ∀ w1, Laid w1 → Calls Tryd.prog 5 #[.string fam] w1 fun e w' => e = .returned (.tuple #[.slice none 0 0, .int .i64 6]) ∧ Below w1.heap.size w1 w' := fun w1 hl => (table_any fam w1 hl).mono fun e w' ⟨h1, h2⟩ => by
      rw [hT] at h2
      exact ⟨h2, h1⟩
    have HTB := Lib.hid htb
    have HT := Lib.hid hT
    clear htb hT
    go_enter Tryd.func3, Tryd.ntmps3
    go_upto_region 9 with (first
    | (go_at_call 8; refine (H8.out _ _ _ _ _ HS6.out).mono ?_; rintro e w7 ⟨rfl, hb7⟩; have HSX := Lib.hid (HS6.out.below hb7); clear hb7)
    | (go_at_call 7; refine (H7.out _ _ _ _ _ HS5.out HC1.out).mono ?_; rintro e w6 ⟨rfl, hb6⟩; have hs6 := HS5.out.below hb6; obtain ⟨f0, f1, f2, f3, f4, f5, f6⟩ := hs6.r1.seven; obtain ⟨g0, g1, g2, g3, g4, g5, g6⟩ := hs6.r2.seven; have HS6 := Lib.hid hs6; clear hb6 hs6)
    | (go_at_call 6; refine (H6.out _ _ _ _ _ HS4.out none 0 0 [] rfl (.inl rfl) (by rw [HT.out]; rfl) Seg.nil).mono ?_; rintro e w5 ⟨rfl, hb5⟩; have hs5 := HS4.out.below hb5; obtain ⟨d0, d1, d2, d3, d4, d5, d6⟩ := hs5.r1.seven; obtain ⟨e0, e1, e2, e3, e4, e5, e6⟩ := hs5.r2.seven; have HS5 := Lib.hid hs5; clear hb5 hs5)
    | (go_at_call 5; refine (HTB.out _ HS1.out.laid).mono ?_; rintro e w4 ⟨rfl, hb4⟩; have hs4 := HS1.out.below hb4; obtain ⟨p0, p1, p2, p3, p4, p5, p6⟩ := hs4.r1.seven; obtain ⟨q0, q1, q2, q3, q4, q5, q6⟩ := hs4.r2.seven; have HS4 := Lib.hid hs4; clear hb4 hs4)
    | (go_at_call 4; refine HTW.out.mono ?_; rintro e w1 ⟨A1, c1, rfl, ho1, hb1⟩; obtain ⟨hs1, hc1⟩ := HST.out w1 A1 c1 hb1 ho1; obtain ⟨x0, x1, x2, x3, x4, x5, x6⟩ := hs1.r1.seven; obtain ⟨y0, y1, y2, y3, y4, y5, y6⟩ := hs1.r2.seven; have HS1 := Lib.hid hs1; have HC1 := Lib.hid hc1; clear hb1 ho1 hs1 hc1)
    | fail)
    clear H6 H7 H8 HTW HST HTB HS1 HS4 HS5 HS6 HC1
    have hway := turn_ways name
    rcases hway with h | h | h | h | h | h
    · have hr : TurnRet name n = .returned (.tuple #[.int .i64 (n), .bool true]) := by rw [h]; rfl
      have htd := HTD.out
      simp only [hr] at htd
      have HTD2 := Lib.hid htd
      have hq := quirk_by name 1 (.inl ⟨h, rfl⟩)
      have HQ := Lib.hid hq
      have hnf : ∀ p W, (binOp .eql 38 (.func (.func 28) #[] #[p]) .nilFunc).run Tryd.prog W = .ok (.bool false) W := fun p W => by rfl
      clear htd hr h hq HTD
      go_wp2_with (first
        | (go_at_call 28; refine (byd n 1 (by decide) q w11 hn.1 hn.2 HC11.out).mono ?_; rintro e w12 ⟨rfl, rfl⟩)
        | (go_at_call 10; refine (HQ.out _).mono ?_; rintro e w11 ⟨q, rfl, hc11, _, hb11⟩; have HB11 := Lib.hid (HSX.out.below hb11).low; have HC11 := Lib.hid hc11; clear hb11 hc11)
        | (go_at_call 9; refine (HTD2.out _).mono ?_; rintro e w10 ⟨rfl, rfl⟩))
      go_ret
      exact ⟨by first | rfl | simp, HB11.out⟩
    · have hr : TurnRet name n = .returned (.tuple #[.int .i64 (n.tdiv 4), .bool true]) := by rw [h]; rfl
      have htd := HTD.out
      simp only [hr] at htd
      have HTD2 := Lib.hid htd
      have hq := quirk_by name 4 (.inr (.inl ⟨h, rfl⟩))
      have HQ := Lib.hid hq
      have hnf : ∀ p W, (binOp .eql 38 (.func (.func 28) #[] #[p]) .nilFunc).run Tryd.prog W = .ok (.bool false) W := fun p W => by rfl
      clear htd hr h hq HTD
      go_wp2_with (first
        | (go_at_call 28; refine (byd n 4 (by decide) q w11 hn.1 hn.2 HC11.out).mono ?_; rintro e w12 ⟨rfl, rfl⟩)
        | (go_at_call 10; refine (HQ.out _).mono ?_; rintro e w11 ⟨q, rfl, hc11, _, hb11⟩; have HB11 := Lib.hid (HSX.out.below hb11).low; have HC11 := Lib.hid hc11; clear hb11 hc11)
        | (go_at_call 9; refine (HTD2.out _).mono ?_; rintro e w10 ⟨rfl, rfl⟩))
      go_ret
      exact ⟨by first | rfl | simp, HB11.out⟩
    · have hr : TurnRet name n = .returned (.tuple #[.int .i64 (n.tdiv 2), .bool true]) := by rw [h]; rfl
      have htd := HTD.out
      simp only [hr] at htd
      have HTD2 := Lib.hid htd
      have hq := quirk_by name 2 (.inr (.inr ⟨h, rfl⟩))
      have HQ := Lib.hid hq
      have hnf : ∀ p W, (binOp .eql 38 (.func (.func 28) #[] #[p]) .nilFunc).run Tryd.prog W = .ok (.bool false) W := fun p W => by rfl
      clear htd hr h hq HTD
      go_wp2_with (first
        | (go_at_call 28; refine (byd n 2 (by decide) q w11 hn.1 hn.2 HC11.out).mono ?_; rintro e w12 ⟨rfl, rfl⟩)
        | (go_at_call 10; refine (HQ.out _).mono ?_; rintro e w11 ⟨q, rfl, hc11, _, hb11⟩; have HB11 := Lib.hid (HSX.out.below hb11).low; have HC11 := Lib.hid hc11; clear hb11 hc11)
        | (go_at_call 9; refine (HTD2.out _).mono ?_; rintro e w10 ⟨rfl, rfl⟩))
      go_ret
      exact ⟨by first | rfl | simp, HB11.out⟩
    · have hod := fun w => dbl n w hn.1 hn.2
      have hr : TurnRet name n = .returned (.tuple #[.int .i64 (wrap64 (n + n)), .bool true]) := by rw [h]; rfl
      obtain ⟨y2, hy2⟩ : ∃ y2, y2 = (wrap64 (n + n)) := ⟨_, rfl⟩
      rw [← hy2] at hr
      simp only [← hy2] at hod
      have HOD := Lib.hid hod
      have htd := HTD.out
      simp only [hr] at htd
      have HTD2 := Lib.hid htd
      have hq := quirk_fn name 29 (.inl ⟨h, rfl⟩)
      have HQ := Lib.hid hq
      have hnf : ∀ W, (binOp .eql 38 (.func (.func 29) #[] #[]) .nilFunc).run Tryd.prog W = .ok (.bool false) W := fun W => by rfl
      clear htd hr h hq HTD hod hy2
      go_wp2_with (first
        | (go_at_call 29; refine (HOD.out _).mono ?_; rintro e w12 ⟨rfl, rfl⟩)
        | (go_at_call 10; refine (HQ.out _).mono ?_; rintro e w11 ⟨rfl, hb11⟩; have HB11 := Lib.hid (HSX.out.below hb11).low; clear hb11)
        | (go_at_call 9; refine (HTD2.out _).mono ?_; rintro e w10 ⟨rfl, rfl⟩))
      go_ret
      exact ⟨by first | rfl | simp, HB11.out⟩
    · have hod := fun w => odd_ n w hn.1 hn.2
      have hr : TurnRet name n = .returned (.tuple #[.int .i64 (if n.tmod 2 = 0 then n else wrap64 (-n)), .bool true]) := by rw [h]; rfl
      obtain ⟨y2, hy2⟩ : ∃ y2, y2 = (if n.tmod 2 = 0 then n else wrap64 (-n)) := ⟨_, rfl⟩
      rw [← hy2] at hr
      simp only [← hy2] at hod
      have HOD := Lib.hid hod
      have htd := HTD.out
      simp only [hr] at htd
      have HTD2 := Lib.hid htd
      have hq := quirk_fn name 30 (.inr ⟨h, rfl⟩)
      have HQ := Lib.hid hq
      have hnf : ∀ W, (binOp .eql 38 (.func (.func 30) #[] #[]) .nilFunc).run Tryd.prog W = .ok (.bool false) W := fun W => by rfl
      clear htd hr h hq HTD hod hy2
      go_wp2_with (first
        | (go_at_call 30; refine (HOD.out _).mono ?_; rintro e w12 ⟨rfl, rfl⟩)
        | (go_at_call 10; refine (HQ.out _).mono ?_; rintro e w11 ⟨rfl, hb11⟩; have HB11 := Lib.hid (HSX.out.below hb11).low; clear hb11)
        | (go_at_call 9; refine (HTD2.out _).mono ?_; rintro e w10 ⟨rfl, rfl⟩))
      go_ret
      exact ⟨by first | rfl | simp, HB11.out⟩
    · have hr : TurnRet name n = .returned (.tuple #[.int .i64 0, .bool false]) := by
        unfold TurnRet turnF
        rw [if_neg h.1, if_neg h.2.1, if_neg h.2.2.1, if_neg h.2.2.2.1, if_neg h.2.2.2.2]
      have htd := HTD.out
      simp only [hr] at htd
      have HTD2 := Lib.hid htd
      have hq := quirk_none name h
      have HQ := Lib.hid hq
      have hnf : ∀ W, (binOp .eql 38 .nilFunc .nilFunc).run Tryd.prog W = .ok (.bool true) W := fun W => by rfl
      clear htd hr h hq HTD
      go_wp2_with (first
        | (go_at_call 10; refine (HQ.out _).mono ?_; rintro e w11 ⟨rfl, hb11⟩; have HB11 := Lib.hid (HSX.out.below hb11).low; clear hb11)
        | (go_at_call 9; refine (HTD2.out _).mono ?_; rintro e w10 ⟨rfl, rfl⟩))
      go_ret
      exact ⟨by first | rfl | simp, HB11.out⟩
  · have hok := tab_ok hT
    have htb : ∀ w1, Laid w1 → Calls Tryd.prog 5 #[.string fam] w1 fun e w' => (∃ g, e = .returned (.tuple #[.slice (some ⟨g, 0, none⟩) T.length T.length, .int .i64 0]) ∧ w'.rangeAt g 0 (ints T) ∧ g < w'.heap.size) ∧ Below w1.heap.size w1 w' := fun w1 hl => (table_any fam w1 hl).mono fun e w' ⟨h1, h2⟩ => by
      rw [hT] at h2
      exact ⟨h2, h1⟩
    have htp := hok.pos
    have htl := hok.len
    have HOK := Lib.hid hok
    obtain ⟨k, hk⟩ : ∃ k, k = T.length := ⟨_, rfl⟩
    simp only [← hk] at htb htp htl
    have HK := Lib.hid hk
    have HTB := Lib.hid htb
    have HT := Lib.hid hT
    clear htb hT hok hk
    go_enter Tryd.func3, Tryd.ntmps3
    go_upto_region 9 with (first
    | (go_at_call 8; refine (H8.out _ _ _ _ _ HS6.out).mono ?_; rintro e w7 ⟨rfl, hb7⟩; have HSX := Lib.hid (HS6.out.below hb7); clear hb7)
    | (go_at_call 7; refine (H7.out _ _ _ _ _ HS5.out HC1.out).mono ?_; rintro e w6 ⟨rfl, hb6⟩; have hs6 := HS5.out.below hb6; obtain ⟨f0, f1, f2, f3, f4, f5, f6⟩ := hs6.r1.seven; obtain ⟨g0, g1, g2, g3, g4, g5, g6⟩ := hs6.r2.seven; have HS6 := Lib.hid hs6; clear hb6 hs6)
    | (go_at_call 6; refine (H6.out _ _ _ _ _ HS4.out (some ⟨g, 0, none⟩) k k T HK.out (.inr HOK.out) (by rw [HT.out]; rfl) HSG.out).mono ?_; rintro e w5 ⟨rfl, hb5⟩; have hs5 := HS4.out.below hb5; obtain ⟨d0, d1, d2, d3, d4, d5, d6⟩ := hs5.r1.seven; obtain ⟨e0, e1, e2, e3, e4, e5, e6⟩ := hs5.r2.seven; have HS5 := Lib.hid hs5; clear hb5 hs5)
    | (go_at_call 5; refine (HTB.out _ HS1.out.laid).mono ?_; rintro e w4 ⟨⟨g, rfl, hr4, hg4⟩, hb4⟩; have HSG : Hid (Seg w4 w4.heap.size (some ⟨g, 0, none⟩) (ints T)) := Lib.hid (fun _ => ⟨g, 0, rfl, hg4, hr4⟩); have hs4 := HS1.out.below hb4; obtain ⟨p0, p1, p2, p3, p4, p5, p6⟩ := hs4.r1.seven; obtain ⟨q0, q1, q2, q3, q4, q5, q6⟩ := hs4.r2.seven; have HS4 := Lib.hid hs4; clear hb4 hs4 hr4 hg4)
    | (go_at_call 4; refine HTW.out.mono ?_; rintro e w1 ⟨A1, c1, rfl, ho1, hb1⟩; obtain ⟨hs1, hc1⟩ := HST.out w1 A1 c1 hb1 ho1; obtain ⟨x0, x1, x2, x3, x4, x5, x6⟩ := hs1.r1.seven; obtain ⟨y0, y1, y2, y3, y4, y5, y6⟩ := hs1.r2.seven; have HS1 := Lib.hid hs1; have HC1 := Lib.hid hc1; clear hb1 ho1 hs1 hc1)
    | fail)
    clear H6 H7 H8 HTW HST HTB HS1 HS4 HS5 HS6 HC1 HSG
    have hway := turn_ways name
    rcases hway with h | h | h | h | h | h
    · have hr : TurnRet name n = .returned (.tuple #[.int .i64 (n), .bool true]) := by rw [h]; rfl
      have htd := HTD.out
      simp only [hr] at htd
      have HTD2 := Lib.hid htd
      have hq := quirk_by name 1 (.inl ⟨h, rfl⟩)
      have HQ := Lib.hid hq
      have hnf : ∀ p W, (binOp .eql 38 (.func (.func 28) #[] #[p]) .nilFunc).run Tryd.prog W = .ok (.bool false) W := fun p W => by rfl
      clear htd hr h hq HTD
      go_wp2_with (first
        | (go_at_call 28; refine (byd n 1 (by decide) q w11 hn.1 hn.2 HC11.out).mono ?_; rintro e w12 ⟨rfl, rfl⟩)
        | (go_at_call 10; refine (HQ.out _).mono ?_; rintro e w11 ⟨q, rfl, hc11, _, hb11⟩; have HB11 := Lib.hid (HSX.out.below hb11).low; have HC11 := Lib.hid hc11; clear hb11 hc11)
        | (go_at_call 9; refine (HTD2.out _).mono ?_; rintro e w10 ⟨rfl, rfl⟩))
      go_ret
      exact ⟨by first | rfl | simp, HB11.out⟩
    · have hr : TurnRet name n = .returned (.tuple #[.int .i64 (n.tdiv 4), .bool true]) := by rw [h]; rfl
      have htd := HTD.out
      simp only [hr] at htd
      have HTD2 := Lib.hid htd
      have hq := quirk_by name 4 (.inr (.inl ⟨h, rfl⟩))
      have HQ := Lib.hid hq
      have hnf : ∀ p W, (binOp .eql 38 (.func (.func 28) #[] #[p]) .nilFunc).run Tryd.prog W = .ok (.bool false) W := fun p W => by rfl
      clear htd hr h hq HTD
      go_wp2_with (first
        | (go_at_call 28; refine (byd n 4 (by decide) q w11 hn.1 hn.2 HC11.out).mono ?_; rintro e w12 ⟨rfl, rfl⟩)
        | (go_at_call 10; refine (HQ.out _).mono ?_; rintro e w11 ⟨q, rfl, hc11, _, hb11⟩; have HB11 := Lib.hid (HSX.out.below hb11).low; have HC11 := Lib.hid hc11; clear hb11 hc11)
        | (go_at_call 9; refine (HTD2.out _).mono ?_; rintro e w10 ⟨rfl, rfl⟩))
      go_ret
      exact ⟨by first | rfl | simp, HB11.out⟩
    · have hr : TurnRet name n = .returned (.tuple #[.int .i64 (n.tdiv 2), .bool true]) := by rw [h]; rfl
      have htd := HTD.out
      simp only [hr] at htd
      have HTD2 := Lib.hid htd
      have hq := quirk_by name 2 (.inr (.inr ⟨h, rfl⟩))
      have HQ := Lib.hid hq
      have hnf : ∀ p W, (binOp .eql 38 (.func (.func 28) #[] #[p]) .nilFunc).run Tryd.prog W = .ok (.bool false) W := fun p W => by rfl
      clear htd hr h hq HTD
      go_wp2_with (first
        | (go_at_call 28; refine (byd n 2 (by decide) q w11 hn.1 hn.2 HC11.out).mono ?_; rintro e w12 ⟨rfl, rfl⟩)
        | (go_at_call 10; refine (HQ.out _).mono ?_; rintro e w11 ⟨q, rfl, hc11, _, hb11⟩; have HB11 := Lib.hid (HSX.out.below hb11).low; have HC11 := Lib.hid hc11; clear hb11 hc11)
        | (go_at_call 9; refine (HTD2.out _).mono ?_; rintro e w10 ⟨rfl, rfl⟩))
      go_ret
      exact ⟨by first | rfl | simp, HB11.out⟩
    · have hod := fun w => dbl n w hn.1 hn.2
      have hr : TurnRet name n = .returned (.tuple #[.int .i64 (wrap64 (n + n)), .bool true]) := by rw [h]; rfl
      obtain ⟨y2, hy2⟩ : ∃ y2, y2 = (wrap64 (n + n)) := ⟨_, rfl⟩
      rw [← hy2] at hr
      simp only [← hy2] at hod
      have HOD := Lib.hid hod
      have htd := HTD.out
      simp only [hr] at htd
      have HTD2 := Lib.hid htd
      have hq := quirk_fn name 29 (.inl ⟨h, rfl⟩)
      have HQ := Lib.hid hq
      have hnf : ∀ W, (binOp .eql 38 (.func (.func 29) #[] #[]) .nilFunc).run Tryd.prog W = .ok (.bool false) W := fun W => by rfl
      clear htd hr h hq HTD hod hy2
      go_wp2_with (first
        | (go_at_call 29; refine (HOD.out _).mono ?_; rintro e w12 ⟨rfl, rfl⟩)
        | (go_at_call 10; refine (HQ.out _).mono ?_; rintro e w11 ⟨rfl, hb11⟩; have HB11 := Lib.hid (HSX.out.below hb11).low; clear hb11)
        | (go_at_call 9; refine (HTD2.out _).mono ?_; rintro e w10 ⟨rfl, rfl⟩))
      go_ret
      exact ⟨by first | rfl | simp, HB11.out⟩
    · have hod := fun w => odd_ n w hn.1 hn.2
      have hr : TurnRet name n = .returned (.tuple #[.int .i64 (if n.tmod 2 = 0 then n else wrap64 (-n)), .bool true]) := by rw [h]; rfl
      obtain ⟨y2, hy2⟩ : ∃ y2, y2 = (if n.tmod 2 = 0 then n else wrap64 (-n)) := ⟨_, rfl⟩
      rw [← hy2] at hr
      simp only [← hy2] at hod
      have HOD := Lib.hid hod
      have htd := HTD.out
      simp only [hr] at htd
      have HTD2 := Lib.hid htd
      have hq := quirk_fn name 30 (.inr ⟨h, rfl⟩)
      have HQ := Lib.hid hq
      have hnf : ∀ W, (binOp .eql 38 (.func (.func 30) #[] #[]) .nilFunc).run Tryd.prog W = .ok (.bool false) W := fun W => by rfl
      clear htd hr h hq HTD hod hy2
      go_wp2_with (first
        | (go_at_call 30; refine (HOD.out _).mono ?_; rintro e w12 ⟨rfl, rfl⟩)
        | (go_at_call 10; refine (HQ.out _).mono ?_; rintro e w11 ⟨rfl, hb11⟩; have HB11 := Lib.hid (HSX.out.below hb11).low; clear hb11)
        | (go_at_call 9; refine (HTD2.out _).mono ?_; rintro e w10 ⟨rfl, rfl⟩))
      go_ret
      exact ⟨by first | rfl | simp, HB11.out⟩
    · have hr : TurnRet name n = .returned (.tuple #[.int .i64 0, .bool false]) := by
        unfold TurnRet turnF
        rw [if_neg h.1, if_neg h.2.1, if_neg h.2.2.1, if_neg h.2.2.2.1, if_neg h.2.2.2.2]
      have htd := HTD.out
      simp only [hr] at htd
      have HTD2 := Lib.hid htd
      have hq := quirk_none name h
      have HQ := Lib.hid hq
      have hnf : ∀ W, (binOp .eql 38 .nilFunc .nilFunc).run Tryd.prog W = .ok (.bool true) W := fun W => by rfl
      clear htd hr h hq HTD
      go_wp2_with (first
        | (go_at_call 10; refine (HQ.out _).mono ?_; rintro e w11 ⟨rfl, hb11⟩; have HB11 := Lib.hid (HSX.out.below hb11).low; clear hb11)
        | (go_at_call 9; refine (HTD2.out _).mono ?_; rintro e w10 ⟨rfl, rfl⟩))
      go_ret
      exact ⟨by first | rfl | simp, HB11.out⟩
end Go.Proofs.YtiheibcookcbdaaDoor
