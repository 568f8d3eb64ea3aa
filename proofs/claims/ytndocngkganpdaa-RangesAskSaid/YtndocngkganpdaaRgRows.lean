/- ranges.rows: the contract. -/
import Derived.Test.YtndocngkganpdaaRgFit
import Derived.Test.YtndocngkganpdaaOwn
set_option linter.unusedVariables false
namespace Go.Proofs.Ytndocngkganpdaa
open Go.RowKit
theorem info23 : (Try.prog.info? 23).map (fun i => (i.zero, i.size, i.bytes)) = some (some (.int .u64 0), 1, 8) := by kernel_rfl
theorem info93 : (Try.prog.info? 93).map (fun i => (i.zero, i.size, i.bytes)) = some (some (.slice none 0 0), 1, 24) := by kernel_rfl
theorem rowF_append : ∀ (a b l : List Nat), rowF (a ++ b) l = rowF a l ++ rowF b (l.drop (4 * a.sum))
  | [], b, l => by simp [rowF]
  | w :: r, b, l => by
    rw [List.cons_append, rowF, rowF, rowF_append r b, List.cons_append, List.drop_drop, List.sum_cons, show 4 * w + 4 * r.sum = 4 * (w + r.sum) from by omega]
theorem rowF_snoc (ws l : List Nat) {i : Nat} (h : i < ws.length) : rowF (ws.take (i + 1)) l = rowF (ws.take i) l ++ [num ((l.drop (4 * (ws.take i).sum)).take (4 * ws[i]))] := by
  rw [List.take_succ_eq_append_getElem h, rowF_append]
  rfl
theorem sum_take (ws : List Nat) {i : Nat} (h : i < ws.length) : (ws.take (i + 1)).sum = (ws.take i).sum + ws[i] := by
  rw [List.take_succ_eq_append_getElem h, List.sum_append]
  simp
theorem sum_le (ws : List Nat) (i : Nat) : (ws.take i).sum ≤ ws.sum := by
  have := List.take_append_drop i ws
  have h2 : ws.sum = (ws.take i).sum + (ws.drop i).sum := by rw [← List.sum_append, this]
  omega
theorem cut_cut (S : ByteArray) (o a : Nat) (h : o ≤ S.size) : (S.extract o S.size).extract a (S.size - o) = S.extract (o + a) S.size := by
  apply ByteArray.ext
  rw [ByteArray.data_extract, ByteArray.data_extract, ByteArray.data_extract, Array.extract_extract, show o + (S.size - o) = S.size from by omega, Nat.min_self]
/-- A row of numbers as it lies. -/
structure Rw where
  A : Option Addr
  c : Nat
  row : List Nat
def Rw.val (x : Rw) : Value := .slice x.A x.row.length x.c
def u64s (l : List Nat) : List Value := l.map fun (n : Nat) => Value.int .u64 (n : Int)
theorem u64s_len (l : List Nat) : (u64s l).length = l.length := by simp [u64s]
theorem u64s_snoc (l : List Nat) (x : Nat) : u64s l ++ [.int .u64 (x : Int)] = u64s (l ++ [x]) := by simp [u64s]
/-- Rows of the call's own. -/
structure OwnR (w : World) (base : Nat) (A : Option Addr) (n c : Nat) (L : List Rw) : Prop where
  len : n = L.length
  row : w.ownsRow base 93 1 (.slice A n c) n (L.map Rw.val)
  rows : ∀ x ∈ L, w.ownsRow base 23 1 x.val x.row.length (u64s x.row)
section
variable {w w' : World} {base n c : Nat} {A : Option Addr} {L : List Rw}
theorem OwnR.below (h : OwnR w base A n c L) (hb : Below w.heap.size w w') : OwnR w' base A n c L :=
  ⟨h.len, own_keep h.row fun g _ hlt => hb.block g hlt, fun x hx => own_keep (h.rows x hx) fun g _ hlt => hb.block g hlt⟩
theorem ownR_none (w : World) (base : Nat) : OwnR w base none 0 0 [] := ⟨rfl, World.ownsRow_nil _ _ _ _, by simp⟩
theorem OwnR.snoc {w4 w5 : World} {B : Nat} {x : Rw} {A5 : Option Addr} {c5 : Nat} (h : OwnR w base A n c L) (h4 : Below w.heap.size w w4) (hB : base ≤ B)
    (hx : w4.ownsRow B 23 1 x.val x.row.length (u64s x.row)) (h5 : w5.ownsRow base 93 1 (.slice A5 (n + 1) c5) (n + 1) (L.map Rw.val ++ [x.val])) (hp : Pushed base (.slice A n c) w4 w5) : OwnR w5 base A5 (n + 1) c5 (L ++ [x]) := by
  have hr4 := h.below h4
  refine ⟨by simp [h.len], by simpa using h5, fun y hy => ?_⟩
  rcases List.mem_append.1 hy with hy | hy
  · exact own_keep (hr4.rows y hy) fun g hg hlt => hp.row g hlt (own_types (hr4.rows y hy) hr4.row (by decide) g hg)
  · obtain rfl : y = x := by simpa using hy
    exact own_base (own_keep hx fun g hg hlt => hp.row g hlt (own_types hx hr4.row (by decide) g hg)) hB
end
def strLen : Value → Nat
  | .string s => s.size
  | _ => 0
/-- What rows gives. -/
def RowsR (ws : List Nat) (S : ByteArray) (base : Nat) (e : Ending) (w' : World) : Prop := if S.size % wide ws ≠ 0 then e = .returned (.tuple #[.slice none 0 0, .int .i64 4])
  else ∃ A c L, e = .returned (.tuple #[.slice A L.length c, .int .i64 0]) ∧ OwnR w' base A L.length c L ∧ L.map Rw.row = rowsF ws (nl S)
set_option maxRecDepth 100000 in
set_option maxHeartbeats 16000000 in
theorem rows_any (S : ByteArray) (hz : S.size ≤ 1048576) (A : Option Addr) (c n : Nat) (ws : List Nat) (hn : n = ws.length) (hpos : 0 < wide ws) (hw2 : ∀ x ∈ ws, x ≤ 2) (hn4 : n ≤ 4) (w : World) (B : Nat) (hB : B ≤ w.heap.size) (hs : Seg w B A (i64s (ws.map Int.ofNat))) :
    Calls Try.prog 63 #[.string S, .slice A n c] w fun e w' => RowsR ws S w.heap.size e w' ∧ Below w.heap.size w w' := by
  obtain ⟨i0, fi, fz0, fz1, fz2⟩ := info_parts info23
  obtain ⟨i1, gi, gz0, gz1, gz2⟩ := info_parts info93
  have HN := Lib.hid hn
  have HS := Lib.hid hs
  have HPOS := Lib.hid hpos
  have HW2 := Lib.hid hw2
  clear hn hs hpos hw2
  go_enter Try.func63, Try.ntmps63
  go_wp2_with fail
  go_loopw [0, 6] (fun sv rv wx => ∃ (t : Nat) (s : ByteArray) (Ao : Option Addr) (co no : Nat) (L : List Rw), sv = .string s ∧ s = S.extract t S.size ∧ t ≤ S.size ∧ no ≤ t ∧ rv = .slice Ao no co ∧ OwnR wx w.heap.size Ao no co L ∧ L.map Rw.row ++ rowsF ws ((nl S).drop t) = rowsF ws (nl S) ∧ (S.size - t) % wide ws = S.size % wide ws ∧ Below w.heap.size w wx) (fun sv _ _ => strLen sv)
  case atStart => exact ⟨0, S, none, 0, 0, [], rfl, by rw [ByteArray.extract_zero_size], by omega, by omega, rfl, ownR_none _ _, rfl, rfl, Below.refl _ _⟩
  case round =>
    obtain ⟨t, s, Ao, co, no, L, rfl, hs, ht, hnt, rfl, hown, hrows, hmod, hb⟩ := hrel
    have hm : S.size - t = s.size := by rw [hs, ByteArray.size_extract]; omega
    obtain ⟨wo, hwo⟩ : ∃ wo : World, wo = wr := ⟨_, rfl⟩
    rw [← hwo] at hown hb
    have HSS := Lib.hid hs
    have HO := Lib.hid hown
    have HR := Lib.hid hrows
    have HM := Lib.hid hmod
    have HB := Lib.hid hb
    have hbs := hb.size
    clear hs hown hrows hmod hb
    by_cases h0 : 0 < s.size
    · have d0 : decide (0 < s.size) = true := decide_eq_true h0
      have d1 : decide ((0 : Int) < (s.size : Int)) = true := decide_eq_true (by omega)
      subst hwo
      go_wp2_with fail
      go_loopw [0, 7, 18] (fun sv rowv iv wx => ∃ (i : Nat) (s' : ByteArray) (Ar : Option Addr) (cr : Nat), i ≤ n ∧ iv = .int .i64 i ∧ sv = .string s' ∧ s' = S.extract (t + 4 * (ws.take i).sum) S.size ∧ t + 4 * (ws.take i).sum ≤ S.size ∧ rowv = .slice Ar i cr ∧ wx.ownsRow wo.heap.size 23 1 rowv i (u64s (rowF (ws.take i) ((nl S).drop t))) ∧ Below wo.heap.size wo wx) (fun _ _ iv _ => n - (intOf iv).toNat)
      case atStart => exact ⟨0, s, none, 0, by omega, rfl, rfl, by rw [List.take_zero, List.sum_nil, Nat.mul_zero, Nat.add_zero]; exact HSS.out, by rw [List.take_zero, List.sum_nil]; omega, rfl, World.ownsRow_nil _ _ _ _, Below.refl _ _⟩
      case round =>
        obtain ⟨i, s', Ar, cr, hi, rfl, rfl, hs', ht', rfl, hrow, hbx⟩ := hrel
        have hm' : S.size - (t + 4 * (ws.take i).sum) = s'.size := by rw [hs', ByteArray.size_extract]; omega
        have HS' := Lib.hid hs'
        have HROW := Lib.hid hrow
        have HX := Lib.hid hbx
        have hxs := hbx.size
        clear hs' hrow hbx
        by_cases hin : i < n
        · have hiw : i < ws.length := by rw [← HN.out]; exact hin
          have hii : (i : Int) < (n : Int) := by omega
          obtain ⟨b, off, hA, _, x0⟩ := (HS.out.below ((HB.out.trans (HX.out.mono hbs)).mono hB)).i64 (k := i) (by simpa using hiw)
          subst hA
          rw [List.getElem_map] at x0
          have hq2 := HW2.out ws[i] (List.getElem_mem hiw)
          have hst := sum_take ws hiw
          have hsl := sum_le ws (i + 1)
          obtain ⟨q, hq⟩ : ∃ q, q = ws[i] := ⟨_, rfl⟩
          rw [← hq] at x0 hq2 hst
          have HQ := Lib.hid hq
          clear hq
          have x0 : wr.cell? ⟨b, off + i, none⟩ = some (.int .i64 (q : Int)) := x0
          by_cases hlen : s'.size < 4 * q
          · have d2 : (s'.size : Int) < 4 * (q : Int) := by omega
            have d3 : decide (s'.size < 4 * q) = true := decide_eq_true hlen
            have HRES := Lib.hid (show S.size % wide ws ≠ 0 from by
              rw [← HM.out, Nat.mod_eq_of_lt (by unfold wide; omega)]; omega)
            go_wp2_with fail
            go_ret2
            exact ⟨by unfold RowsR; rw [if_pos HRES.out]; rfl, HB.out.trans (HX.out.mono hbs)⟩
          · have d2 : ¬ (s'.size : Int) < 4 * (q : Int) := by omega
            have d3 : decide (s'.size < 4 * q) = false := decide_eq_false hlen
            obtain ⟨bs, hbs'⟩ : ∃ bs, bs = s'.extract 0 (4 * q) := ⟨_, rfl⟩
            have hbz : bs.size = 4 * q := by rw [hbs', ByteArray.size_extract]; omega
            obtain ⟨cap, W, cs, fr, hrun, hbW, hcap, hheap, hcell⟩ := bytes_block (P := Try.prog) wr 9 103 5 bs Try.underlying9 Try.underlying103 Try.underlying5
            rw [hbz] at hrun hcap
            have HBS := Lib.hid hbs'
            rw [hbs'] at hrun
            have HBZ := Lib.hid hbz
            have HBW := Lib.hid hbW
            have HH := Lib.hid hheap
            have HC := Lib.hid hcell
            have HO4 := Lib.hid (own_kept HROW.out fun g _ hlt => hbW.block g hlt)
            clear hbs' hbz hbW hheap hcell
            go_wp2_with fail
            clear hrun
            generalize wr.heap.size = Bc at HH ⊢
            go_loop [10, 33] (fun nv jv => ∃ j : Nat, j ≤ 4 * q ∧ jv = .int .i64 j ∧ nv = .int .u64 (num ((nl bs).take j) : Nat)) (fun _ jv => 4 * q - (intOf jv).toNat)
            case atStart => exact ⟨0, by omega, rfl, rfl⟩
            case round =>
              obtain ⟨j, hj, rfl, rfl⟩ := hrel
              obtain ⟨m, hmm⟩ : ∃ m, m = num ((nl bs).take j) := ⟨_, rfl⟩
              rw [← hmm]
              have HMM := Lib.hid hmm
              by_cases hjq : j < 4 * q
              · have hjb : j < bs.size := by rw [HBZ.out]; exact hjq
                have y0 : W.cell? ⟨Bc, j, none⟩ = some (.int .u8 ((bs[j]).toNat : Int)) := by rw [cell_of_row _ _ _ _ _ _ HH.out, HC.out j hjb]
                have hc := bs[j].toNat_lt
                have hs1 := num_take (nl bs) (k := j) (by rw [nl_len]; exact hjb)
                rw [nl_at bs j hjb, ← hmm] at hs1
                have hb1 := num_lt (take_lt (nl_lt bs) j)
                rw [List.length_take, nl_len, Nat.min_eq_left (by omega), ← hmm] at hb1
                have h7 : 256 ^ j ≤ 256 ^ 7 := Nat.pow_le_pow_right (by omega) (by omega)
                have h77 : 256 ^ 7 = 72057594037927936 := by decide
                generalize bs[j].toNat = cc at y0 hc hs1
                have ho := or64 m cc (by omega) hc
                have hm7 : m < 72057594037927936 := by omega
                have HS1 := Lib.hid hs1
                have hji : (j : Int) < 4 * (q : Int) := by omega
                clear hb1 h7 h77 hs1 hmm
                go_wp2_with fail
                exact ⟨⟨j + 1, by omega, by go_num, by rw [HS1.out]; push_cast; rfl⟩, by simp [intOf]; omega⟩
              · obtain rfl : j = 4 * q := by omega
                have HE := Lib.hid (show m = num (nl bs) from by rw [hmm, List.take_of_length_le (by rw [nl_len, HBZ.out]; exact Nat.le_refl _)])
                clear hmm
                have hi1 : i + 1 ≤ 5 := by omega
                have hWs : wo.heap.size ≤ W.heap.size := Nat.le_trans hxs HBW.out.size
                go_wp2_with (at_builtin; refine wpList_push rfl (.tmp 43) (.tmp 45) 93 rfl wo.heap.size 23 i0 _ 1 8 Try.underlying93 fi fz0 fz1 fz2 rfl (by decide) _ i (u64s (rowF (ws.take i) ((nl S).drop t))) rfl HO4.out #[.int .u64 (m : Int)] rfl rfl ?_ ?_ ?_ ?_ ?_)
                · first | rfl | (intro u hu; simp at hu; subst hu; rfl)
                · unfold maxLen; omega
                · omega
                intro A3 c3 w3 hown3 hp3
                have HB3 := Lib.hid ((HX.out.trans (HBW.out.mono hxs)).trans hp3.low)
                have hmv : m = num ((((nl S).drop t).drop (4 * (ws.take i).sum)).take (4 * ws[i])) := by
                  rw [HE.out, HBS.out, nl_extract, HS'.out, nl_extract, List.drop_zero, Nat.sub_zero, List.drop_drop, ← HQ.out]
                  congr 2
                  exact List.take_of_length_le (by rw [List.length_drop, nl_len]; omega)
                rw [show u64s (rowF (ws.take i) ((nl S).drop t)) ++ (#[Value.int .u64 (m : Int)]).toList = u64s (rowF (ws.take (i + 1)) ((nl S).drop t)) from by rw [rowF_snoc _ _ hiw, ← hmv]; exact u64s_snoc _ _] at hown3
                have H3 := Lib.hid hown3
                have HST := Lib.hid hst
                clear hown3 hp3 hmv hst
                go_wp2_with fail
                go_roundw
                case rel => exact ⟨i + 1, _, A3, c3, by omega, by go_num, rfl, by
                  first | (rw [← hm', HS'.out, cut_cut _ _ _ (by omega), HST.out]; congr 1; omega), by rw [HST.out]; omega, rfl, H3.out, HB3.out⟩
                case measure => simp [intOf]; omega
        · obtain rfl : i = n := by omega
          have hkk : ¬ (i : Int) < (i : Int) := by omega
          have HOW := Lib.hid (HO.out.below HX.out)
          have hno : no ≤ 1048577 := by omega
          go_wp2_with (at_builtin; refine wpList_push rfl (.tmp 52) (.tmp 54) 90 rfl w.heap.size 93 i1 _ 1 24 Try.underlying90 gi gz0 gz1 gz2 rfl (by decide) _ no (L.map Rw.val) rfl HOW.out.row #[.slice Ar i cr] rfl rfl ?_ ?_ ?_ ?_ ?_)
          · first | rfl | (intro u hu; simp at hu; subst hu; rfl)
          · unfold maxLen; omega
          · omega
          · omega
          intro A3 c3 w3 hown3 hp3
          have htw : (ws.take i).sum = ws.sum := by rw [List.take_of_length_le (by rw [← HN.out]; exact Nat.le_refl _)]
          have HTW := Lib.hid htw
          have hro := HROW.out
          rw [List.take_of_length_le (by rw [← HN.out]; exact Nat.le_refl _)] at hro
          obtain ⟨X, hX⟩ : ∃ X : Rw, X = ⟨Ar, cr, rowF ws ((nl S).drop t)⟩ := ⟨_, rfl⟩
          have hxl : (rowF ws ((nl S).drop t)).length = i := by rw [rowF_len, ← HN.out]
          have hxv : X.val = .slice Ar i cr := by rw [hX]; unfold Rw.val; rw [hxl]
          have hpos' := HPOS.out
          have hwd : wide ws = 4 * ws.sum := rfl
          have hne : (nl S).drop t ≠ [] := fun h => by
            have := congrArg List.length h
            rw [List.length_drop, nl_len] at this
            simp at this; omega
          have hO5 : OwnR w3 w.heap.size A3 (no + 1) c3 (L ++ [X]) := HO.out.snoc (B := wo.heap.size) HX.out hbs (by rw [hxv, hX]; show wr.ownsRow _ 23 1 (.slice Ar i cr) (rowF ws ((nl S).drop t)).length _; rw [hxl]; exact hro) (by rw [hxv]; simpa using hown3) hp3
          have HO5 := Lib.hid hO5
          have hb5 := (HB.out.trans (HX.out.mono hbs)).trans hp3.low
          have HB5 := Lib.hid hb5
          have hR5 : (L ++ [X]).map Rw.row ++ rowsF ws ((nl S).drop (t + wide ws)) = rowsF ws (nl S) := by
            rw [← HR.out, rows_step hpos' hne, List.map_append, List.drop_drop, hX]; simp
          have HR5 := Lib.hid hR5
          have hM5 : (S.size - (t + wide ws)) % wide ws = S.size % wide ws := by
            rw [← HM.out, show S.size - t = S.size - (t + wide ws) + wide ws from by omega, Nat.add_mod_right]
          have HM5 := Lib.hid hM5
          have HWD := Lib.hid hwd
          clear hown3 hp3 htw hro hX hxl hxv hne hO5 hb5 hR5 hM5 hwd
          go_wp2_with fail
          go_roundw
          case rel => exact ⟨t + wide ws, _, A3, c3, no + 1, L ++ [X], rfl, by rw [HS'.out, HTW.out, HWD.out], by have := HTW.out; have := HWD.out; omega, by omega, rfl, HO5.out, HR5.out, HM5.out, HB5.out⟩
          case measure =>
            have a1 := HTW.out
            have a2 := HWD.out
            show s'.size < s.size
            omega
    · have d0 : decide (0 < s.size) = false := decide_eq_false h0
      subst hwo
      go_wp2_with fail
      go_ret2
      have hts : t = S.size := by omega
      have h1 := HR.out
      rw [List.drop_of_length_le (by rw [nl_len]; omega), rows_nil, List.append_nil] at h1
      have h2 := HM.out
      rw [hts, Nat.sub_self, Nat.zero_mod] at h2
      refine ⟨?_, HB.out⟩
      unfold RowsR
      rw [if_neg (by omega)]
      have h3 := HO.out.len
      subst h3
      exact ⟨Ao, co, L, rfl, HO.out, h1⟩
end Go.Proofs.Ytndocngkganpdaa
