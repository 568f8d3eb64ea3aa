/- The document's On: the contract. -/
import Derived.Test.YtbahclnpgdejlaaRNet
set_option linter.unusedVariables false
namespace Go.Proofs.Ytbahclnpgdejlaa
open Go.RowKit
theorem Try.info4 : (Try.prog.info? 4).map (fun i => (i.zero, i.size, i.bytes)) = some (some (.bool false), 1, 1) := by kernel_rfl
theorem make_bools (n : Nat) (hl : n ≤ 2513169434843) (w : World) : (Instr.makeSlice 100 (.int .i64 (n : Int)) (.int .i64 (n : Int))).run Try.prog w =
    .ok (.slice (some ⟨w.heap.size, 0, none⟩) n n) (w.alloc (.cells (madeCells #[.bool false] n) 4)) := by
  obtain ⟨i0, hi, hz0, hz1, hz2⟩ := info_parts Try.info4
  have := run_make (P := Try.prog) w 100 4 i0 (.bool false) Try.underlying100 hi hz0 .i64 .i64 n n (by omega) (Int.le_refl _) (by rw [hz2]; omega) (by omega)
  simp only [Int.toNat_natCast, hz1, Nat.mul_one] at this
  exact this
def bools (l : List Bool) : List Value := l.map .bool
theorem bools_len (l : List Bool) : (bools l).length = l.length := by simp [bools]
theorem bools_set (l : List Bool) (k : Nat) (b : Bool) : (bools l).set k (.bool b) = bools (l.set k b) := by simp [bools, List.map_set]
theorem bools_get (l : List Bool) (k : Nat) (b : Bool) (h : l[k]? = some b) : (bools l)[k]? = some (.bool b) := by simp [bools, h]
theorem falses_row (n g : Nat) (w : World) (h : g = w.heap.size) : RowAt (w.alloc (.cells (madeCells #[.bool false] n) 4)) g 4 (bools (List.replicate n false)) := by
  subst h
  refine ⟨_, heap_alloc_new w _, ?_⟩
  rw [toList_madeCells_one]
  simp [bools]
set_option maxRecDepth 100000 in
set_option maxHeartbeats 4000000 in
theorem ron_any {w : World} {B rb n : Nat} {Al Au : Option Addr} {cl cu : Nat} {l : List Clk} {us hs : List Int} (h : RNet w B rb n Al Au cl cu l us) (hg : Good l) (hn5 : n ≤ 512) (hb : Bal l (fun j => us.getD j 0) hs) (hu : ∀ j, 0 ≤ us.getD j 0) :
    Calls Try.prog 42 #[.pointer (some ⟨rb, 0, none⟩)] w fun e w' => e = .returned (.slice (some ⟨w.heap.size, 0, none⟩) n n) ∧ RowAt w' w.heap.size 4 (bools (onL l hs 0)) ∧ Below w.heap.size w w' := by
  have c0 := h.c0
  have hmk := make_bools n (by omega) w
  have hlen := h.len
  have hlow := h.lt
  have hrow0 := falses_row n w.heap.size w rfl
  have htop := onL_top l hs
  rw [← hlen] at htop
  rw [← htop] at hrow0
  have hb0 : Below w.heap.size w (w.alloc (.cells (madeCells #[.bool false] n) 4)) := (Below.refl _ _).alloc (Nat.le_refl _) _
  have HL := Lib.hid hlen
  have HR0 := Lib.hid hrow0
  have HB0 := Lib.hid hb0
  have HG := Lib.hid hg
  have HBAL := Lib.hid hb
  have HU := Lib.hid hu
  have HN := Lib.hid h
  clear hlen hrow0 hb0 hg hb hu h htop
  go_enter Try.func42, Try.ntmps42
  go_wp2
  go_loopw [4] (fun iv wr => ∃ m : Nat, m ≤ n ∧ iv = .int .i64 ((m : Int) - 1) ∧ RowAt wr w.heap.size 4 (bools (onL l hs m)) ∧ Below w.heap.size w wr) (fun iv _ => (intOf iv + 1).toNat)
  case atStart => exact ⟨n, Nat.le_refl _, rfl, HR0.out, HB0.out⟩
  case round =>
    obtain ⟨m, hm, rfl, hrow, hbel⟩ := hrel
    have HR := Lib.hid hrow
    have HB := Lib.hid hbel
    clear hrow hbel
    rcases m with _ | k
    · go_wp2
      go_ret
      exact ⟨rfl, HR.out, HB.out⟩
    · rw [show ((k + 1 : Nat) : Int) - 1 = (k : Int) by omega]
      have hkl : k < l.length := by rw [← HL.out]; omega
      have hN := HN.out.below HB.out
      obtain ⟨gu, rfl, _, hru⟩ := hN.row_u (by omega)
      obtain ⟨gl, rfl, _, hrl⟩ := hN.row_l (by omega)
      have d0 := hN.c0
      have d1 := hN.c1
      have hgu : gu < w.heap.size := (HN.out.row_u (by omega)).elim fun g hg => by obtain ⟨e, _, hr⟩ := hg; injection e with e; injection e with e; subst e; exact hr.lt
      have hgl : gl < w.heap.size := (HN.out.row_l (by omega)).elim fun g hg => by obtain ⟨e, _, hr⟩ := hg; injection e with e; injection e with e; subst e; exact hr.lt
      have n1 : rb ≠ w.heap.size := by omega
      have n2 : gu ≠ w.heap.size := by omega
      have n3 : gl ≠ w.heap.size := by omega
      have n1' := n1.symm
      have n2' := n2.symm
      have n3' := n3.symm
      have cu1 := hru.cell (k := k) (by rw [i64s_len, ← hN.lenu]; omega)
      rw [i64s_get _ _ (by rw [← hN.lenu]; omega)] at cu1
      have cf := hrl.cell (k := k * 7) (by rw [clkCells, flat_length _ 7 clk_len]; omega)
      rw [clkCells, show k * 7 = k * 7 + 0 from rfl, flat_get _ 7 clk_len l k 0 hkl (by omega), show (Clk.cells l[k])[0]? = some (.int .i64 l[k].frm) from rfl, Nat.add_zero] at cf
      have hF : frmAt l k = l[k].frm := by simp [frmAt, hkl]
      rw [← hF] at cf
      have hfl := frm_lt HG.out hkl
      have hcon := HR.out.cell (k := k) (by rw [bools_len, onL_len]; exact hkl)
      rw [bools_get _ _ _ (onL_get l hs (k + 1) k hkl)] at hcon
      have hfz := HR.out.frozen k
      have hmid := onB_mid HG.out HBAL.out HU.out hkl
      have hki : (k : Int) < (n : Int) := by omega
      obtain ⟨b0, hb0⟩ : ∃ b0, b0 = onB l hs (k + 1) k := ⟨_, rfl⟩
      obtain ⟨u, hu⟩ : ∃ u, u = us.getD k 0 := ⟨_, rfl⟩
      rw [← hb0] at hcon hmid
      rw [← hu] at cu1 hmid
      clear hb0 hu hF hru hrl hN
      have hcase : (b0 = true ∧ 0 < hs.getD k 0) ∨ (b0 = false ∧ 0 < u ∧ 0 < hs.getD k 0) ∨ (b0 = false ∧ ¬ 0 < u ∧ ¬ 0 < hs.getD k 0) := by
        generalize hs.getD k 0 = z at *
        rcases b0 with _ | _
        · rw [Bool.false_or, decide_eq_decide] at hmid
          by_cases h0 : 0 < u
          · exact .inr (.inl ⟨rfl, h0, hmid.2 h0⟩)
          · exact .inr (.inr ⟨rfl, h0, fun h => h0 (hmid.1 h)⟩)
        · simp at hmid; left; exact ⟨rfl, hmid⟩
      clear hmid
      have hst := fun b => HR.out.store k (.bool b)
      simp only [bools_set] at hst
      have HST := Lib.hid hst
      have hon := onL_on (l := l) (hs := hs) HG.out hkl
      have hoff := onL_off (l := l) (hs := hs) hkl
      have HON := Lib.hid hon
      have HOF := Lib.hid hoff
      have hb2 := fun b => HB.out.setCell (p := ⟨w.heap.size, k, none⟩) (Nat.le_refl _) (.bool b)
      have HB2 := Lib.hid hb2
      clear hst hon hoff hb2
      have hcf : ∀ f : Nat, f < k → ∃ bf, wr.cell? ⟨w.heap.size, f, none⟩ = some (.bool bf) := fun f hf => by
        have := HR.out.cell (k := f) (by rw [bools_len, onL_len]; omega)
        rw [bools_get _ _ _ (onL_get l hs (k + 1) f (by omega))] at this
        exact ⟨_, this⟩
      have hff := HR.out.frozen
      have HFF := Lib.hid hff
      clear hff
      rcases hcase with ⟨rfl, hp⟩ | ⟨rfl, hup, hp⟩ | ⟨rfl, hup, hp⟩
      case inr.inr =>
        have HE := Lib.hid (HOF.out hp)
        clear hp hcf
        generalize frmAt l k = F at *
        go_wp2
        exact ⟨⟨k, by omega, rfl, by have := HST.out false; rw [HE.out] at this; exact this, HB2.out false⟩, by simp [intOf]⟩
      all_goals
        have HON2 := Lib.hid (HON.out hp)
        clear hp HON HOF
        rcases (show frmAt l k < 0 ∨ 0 ≤ frmAt l k by omega) with hneg | hpos
        · have HE := Lib.hid (HON2.out.1 hneg)
          clear hcf HON2
          generalize frmAt l k = F at *
          go_wp2
          exact ⟨⟨k, by omega, rfl, by have := HST.out true; rw [HE.out] at this; exact this, HB2.out true⟩, by simp [intOf]⟩
        · obtain ⟨f, hf⟩ := Int.eq_ofNat_of_zero_le hpos
          have HE := Lib.hid (HON2.out.2 f hf)
          obtain ⟨bf, hbf⟩ := hcf f (by omega)
          have hfz2 := HFF.out f
          have hfk : f < k := by omega
          have hkf : k ≠ f := by omega
          have hfk' : f ≠ k := by omega
          have hfi : (f : Int) < (n : Int) := by omega
          clear hcf HON2 hpos
          rw [hf] at cf hfl
          clear hf
          go_wp2
          exact ⟨⟨k, by omega, rfl, by have := (HST.out true).store f (.bool true); rw [bools_set, HE.out] at this; exact this, (HB2.out true).setCell (p := ⟨w.heap.size, f, none⟩) (Nat.le_refl _) _⟩, by simp [intOf]⟩
end Go.Proofs.Ytbahclnpgdejlaa
