/- The program's Graft: what is refused. -/
import Derived.Test.YtmdnbajbfnhecaaPiece
import Derived.Test.YtmdnbajbfnhecaaConcat
set_option linter.unusedVariables false
namespace Go.Proofs.Ytmdnbajbfnhecaa
open Go.RowKit
theorem graftE_wrong {l p : List Nd} {i : Int} (h : wrongF l i ≠ 0) : wrongF l i = graftE l i p := by unfold graftE; rw [if_pos h]
theorem graftE_piece {l p : List Nd} {i : Int} (h : wrongF l i = 0) (hp : pieceB p = false) : (40 : Int) = graftE l i p := by unfold graftE; rw [if_neg (by simp [h]), if_pos hp]
theorem graftE_ok {l p : List Nd} {i : Int} (h : wrongF l i = 0) (hp : pieceB p = true) : graftE l i p = (checkF (graftF l i p (endN l i.toNat))).2 := by unfold graftE; rw [if_neg (by simp [h]), if_neg (by simp [hp])]
set_option maxRecDepth 100000 in
set_option maxHeartbeats 8000000 in
/-- The first part: what is refused. -/
theorem pgraft_no (A : Option Addr) (cap n : Nat) (l : List Nm) (hn : n = l.length) (hsz : Sized l) (i : Int) (A' : Option Addr) (cap' n' : Nat) (p : List Nm) (hn' : n' = p.length) (hsz' : Sized p) (w : World) (B : Nat) (hB : B ≤ w.heap.size) (hs : Nodes w B A l) (hs' : Nodes w B A' p)
    (hno : wrongF (dat l) i ≠ 0 ∨ pieceB (dat p) = false) :
    Calls Try.prog 14 #[.slice A n cap, .int .i64 i, .slice A' n' cap'] w fun e w' => GraftRet (dat l) i (dat p) w' w.heap.size e ∧ Below w.heap.size w w' := by
  have hpl := place_any A cap n l hn hsz i w B hB hs
  have hnn : n' ≤ 2932031007403 := by have := hsz'.n; omega
  by_cases hw0 : wrongF (dat l) i = 0
  case neg =>
    have hfin := fun w' => graftret_no (w' := w') (base := w.heap.size) hw0 (graftE_wrong (p := dat p) hw0)
    generalize wrongF (dat l) i = e0 at *
    have e1 : (e0 != 0) = true := by simpa using hw0
    have HP := Lib.hid hpl
    have HF := Lib.hid hfin
    clear hpl hfin hn hsz hs hw0 hn' hsz' hs' hno
    go_enter Try.func14, Try.ntmps14
    go_wp2_with (first
      | (go_at_call 23; refine HP.out.mono ?_; rintro e w1 ⟨rfl, hb1⟩; have HB1 := Lib.hid hb1; clear hb1))
    go_ret2
    exact ⟨HF.out _, HB1.out⟩
  have hpb : pieceB (dat p) = false := hno.resolve_left (by simp [hw0])
  have hfin := fun w' => graftret_no (w' := w') (base := w.heap.size) (show (40 : Int) ≠ 0 by omega) (graftE_piece hw0 hpb)
  rw [hw0] at hpl
  have htw := fun w1 (hb : Below w.heap.size w w1) => ptwin_any A' cap' n' p hn' hsz' w1 B (Nat.le_trans hB hb.size) (hs'.below (hb.mono hB))
  have HP := Lib.hid hpl
  have HF := Lib.hid hfin
  have HTW := Lib.hid htw
  clear hpl hfin htw hno
  by_cases h0 : n' = 0
  · subst h0
    clear hn hsz hs hn' hsz' hs' hpb hw0
    go_enter Try.func14, Try.ntmps14
    go_wp2_with (first
      | (go_at_call 23; refine HP.out.mono ?_; rintro e w1 ⟨rfl, hb1⟩; have HB1 := Lib.hid hb1; clear hb1)
      | (go_at_call 25; refine (HTW.out _ HB1.out).mono ?_; rintro e w2 ⟨A1, c1, l1, rfl, hd1, ho1, hb2⟩; have HB2 := Lib.hid (HB1.out.trans (hb2.mono HB1.out.size)); clear hd1 ho1 hb2))
    go_ret2
    exact ⟨HF.out _, HB2.out⟩
  have hl0 : 0 < p.length := by omega
  have e0 : ((n' : Int) == 0) = false := by rw [beq_eq_false_iff_ne]; omega
  have hn0 : (0 : Int) < (n' : Int) := by omega
  have hn0' : 0 < n' := by omega
  have hps := pieceB_some (l := dat p) (by rw [dat_len]; exact hl0)
  rw [hpb, dat_get p hl0] at hps
  have hnm : ∀ w1, Calls Try.prog 28 #[.string p[0].d.n] w1 fun e w' => e = .returned (.int .i64 (if nameB p[0].d.n.data.toList then 0 else 10)) ∧ Below w1.heap.size w1 w' := fun w1 => by
    have := pname_any p[0].d.n w1 (by have := (hsz'.small p[0].d (by unfold dat; exact List.mem_map_of_mem (List.getElem_mem hl0))).1; unfold maxLen; omega)
    unfold nameE at this
    exact this
  have hfirst : ∀ l1 : List Nm, dat l1 = dat p → ∀ h : 0 < l1.length, l1[0].d.n = p[0].d.n := fun l1 hd h => by
    have h1 := dat_at h
    rw [hd, dat_at hl0] at h1
    rw [Option.some.inj h1]
  have hset : ∀ l1 : List Nm, dat l1 = dat p → ∀ h : 0 < l1.length, dat (l1.set 0 ⟨⟨l1[0].d.p, ByteArray.empty, l1[0].d.ps⟩, l1[0].A, l1[0].c⟩) = headless (dat p) := fun l1 hd h => by
    have e : (dat p)[0]'(by rw [dat_len]; exact hl0) = l1[0].d := by
      have h1 := dat_at h
      rw [hd, List.getElem?_eq_getElem (by rw [dat_len]; exact hl0)] at h1
      exact Option.some.inj h1
    rw [dat_set, headless_set (by rw [dat_len]; exact hl0), hd, e]
  have hck : ∀ (A1 : Option Addr) (c1 : Nat) (l1 : List Nm) (w1 : World), n' = l1.length → dat l1 = headless (dat p) → Nodes w1 w1.heap.size A1 l1 → Calls Try.prog 7 #[.slice A1 n' c1] w1 fun e w' => e = .returned (.tuple #[.int .i64 (checkF (headless (dat p))).1, .int .i64 (checkF (headless (dat p))).2]) ∧ Below w1.heap.size w1 w' := fun A1 c1 l1 w1 h1 h2 h3 => by
    have := pCheck_any A1 c1 n' l1 h1 (sized_head hsz' h2) w1 w1.heap.size (Nat.le_refl _) h3
    rw [h2] at this
    exact this
  have htwo := check_two (headless (dat p))
  generalize p[0].d.n = s at *
  generalize nameB s.data.toList = bn at *
  generalize checkF (headless (dat p)) = R at *
  obtain ⟨R1, R2⟩ := R
  have HNM := Lib.hid hnm
  have HFI := Lib.hid hfirst
  have HSET := Lib.hid hset
  have HCK := Lib.hid hck
  clear hnm hfirst hset hck hn hsz hs hn' hsz' hs' hpb hw0
  rcases bn with _ | _
  · clear hps htwo
    go_enter Try.func14, Try.ntmps14
    go_wp2_with (first
      | (go_at_call 23; refine HP.out.mono ?_; rintro e w1 ⟨rfl, hb1⟩; have HB1 := Lib.hid hb1; clear hb1)
      | (go_at_call 25; refine (HTW.out _ HB1.out).mono ?_; rintro e w2 ⟨A1, c1, l1, rfl, hd1, ho1, hb2⟩
         have hl1 : 0 < l1.length := by have := ho1.len; omega
         obtain ⟨g, rfl, hgb, y1, y1f, hst⟩ := ho1.name_ hl1
         rw [HFI.out l1 hd1 hl1] at y1
         simp only [Nat.zero_mul, Nat.zero_add] at y1 y1f
         have HB2 := Lib.hid (HB1.out.trans (hb2.mono HB1.out.size))
         clear hd1 ho1 hb2 hst)
      | (go_at_call 28; refine (HNM.out _).mono ?_; rintro e w3 ⟨rfl, hb3⟩; have HB3 := Lib.hid (HB2.out.trans (hb3.mono HB2.out.size)); clear hb3))
    go_ret2
    exact ⟨HF.out _, HB3.out⟩
  have hR2 : R2 = 40 := by
    rcases htwo with h | h
    · simp at h; subst h; simp at hps
    · exact h
  subst hR2
  clear hps htwo
  go_enter Try.func14, Try.ntmps14
  go_wp2_with (first
    | (go_at_call 23; refine HP.out.mono ?_; rintro e w1 ⟨rfl, hb1⟩; have HB1 := Lib.hid hb1; clear hb1)
    | (go_at_call 25; refine (HTW.out _ HB1.out).mono ?_; rintro e w2 ⟨A1, c1, l1, rfl, hd1, ho1, hb2⟩
       have hl1 : 0 < l1.length := by have := ho1.len; omega
       obtain ⟨g, rfl, hgb, y1, y1f, hst⟩ := ho1.name_ hl1
       rw [HFI.out l1 hd1 hl1] at y1
       simp only [Nat.zero_mul, Nat.zero_add] at y1 y1f hst
       have HB2 := Lib.hid (HB1.out.trans (hb2.mono HB1.out.size))
       have HD1 := Lib.hid hd1
       have HO1 := Lib.hid ho1
       clear hd1 hb2 hst)
    | (go_at_call 28; refine (HNM.out _).mono ?_; rintro e w3 ⟨rfl, hb3⟩
       have HB3 := Lib.hid (HB2.out.trans (hb3.mono HB2.out.size))
       have ho3 := HO1.out.below hb3
       obtain ⟨g', hg', hgb', z1, z1f, hst⟩ := ho3.name_ hl1
       injection hg' with hg'
       injection hg' with hg'
       subst hg'
       rw [HFI.out l1 HD1.out hl1] at z1
       have ho4 := hst ByteArray.empty
       have hd4 := HSET.out l1 HD1.out hl1
       generalize l1.set 0 ⟨⟨l1[0].d.p, ByteArray.empty, l1[0].d.ps⟩, l1[0].A, l1[0].c⟩ = l2 at ho4 hd4
       simp only [Nat.zero_mul, Nat.zero_add] at z1 z1f ho4
       have HO4 := Lib.hid ho4
       have HD4 := Lib.hid hd4
       have HB4 := Lib.hid (HB3.out.setCell (p := ⟨g, 1, none⟩) (Nat.le_trans HB1.out.size hgb) (.string ByteArray.empty))
       clear hb3 ho3 hst ho4 hd4)
    | (go_at_call 7; refine (HCK.out _ _ _ _ HO4.out.len HD4.out HO4.out.nodes).mono ?_; rintro e w5 ⟨rfl, hb5⟩; have HB5 := Lib.hid (HB4.out.trans (hb5.mono HB4.out.size)); clear hb5))
  go_ret2
  exact ⟨HF.out _, HB5.out⟩
end Go.Proofs.Ytmdnbajbfnhecaa
