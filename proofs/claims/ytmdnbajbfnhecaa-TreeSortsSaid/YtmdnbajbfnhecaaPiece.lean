/- The document's Piece: the contract. -/
import Derived.Test.YtmdnbajbfnhecaaGrLaw
import Derived.Test.YtmdnbajbfnhecaaPlace
set_option linter.unusedVariables false
namespace Go.Proofs.Ytmdnbajbfnhecaa
open Go.RowKit
theorem sized_head {l l' : List Nm} (h : Sized l) (hd : dat l' = headless (dat l)) : Sized l' := by
  have hl : l'.length = l.length := by have := congrArg List.length hd; rwa [dat_len, headless_len, dat_len] at this
  have key : ∀ x ∈ l', ∃ y ∈ l, x.d.p = y.d.p ∧ x.d.ps = y.d.ps ∧ x.d.n.size ≤ y.d.n.size := fun x hx => by
    have hm : x.d ∈ dat l' := by unfold dat; exact List.mem_map_of_mem hx
    rw [hd] at hm
    rcases l with _ | ⟨y, r⟩
    · simp [dat, headless] at hm
    · rcases List.mem_cons.1 hm with e | hm
      · exact ⟨y, List.mem_cons_self, by rw [e], by rw [e], by rw [e]; exact Nat.zero_le _⟩
      · obtain ⟨y', hy', e⟩ := List.mem_map.1 hm
        exact ⟨y', List.mem_cons_of_mem _ hy', by rw [e], by rw [e], by rw [e]; exact Nat.le_refl _⟩
  refine ⟨by rw [hl]; exact h.n, fun x hx => ?_, fun x hx => ?_, fun x hx => ?_⟩
  · unfold dat at hx
    obtain ⟨x', hx', rfl⟩ := List.mem_map.1 hx
    obtain ⟨y, hy, e1, e2, e3⟩ := key x' hx'
    have := h.small y.d (by unfold dat; exact List.mem_map_of_mem hy)
    rw [← e2] at this
    exact ⟨by omega, this.2⟩
  · obtain ⟨y, hy, _, e2, _⟩ := key x hx
    rw [e2]; exact h.props y hy
  · obtain ⟨y, hy, e1, _, _⟩ := key x hx
    rw [e1]; exact h.wf y hy
set_option maxRecDepth 100000 in
set_option maxHeartbeats 2000000 in
theorem piece_any (A : Option Addr) (cap n : Nat) (l : List Nm) (hn : n = l.length) (hsz : Sized l) (w : World) (B : Nat) (hB : B ≤ w.heap.size) (hs : Nodes w B A l) :
    Calls Try.prog 30 #[.slice A n cap] w fun e w' => e = .returned (.bool (pieceB (dat l))) ∧ Below w.heap.size w w' := by
  obtain ⟨r, hr⟩ : ∃ r, r = pieceB (dat l) := ⟨_, rfl⟩
  rw [← hr]
  have hnn : n ≤ 2932031007403 := by have := hsz.n; omega
  by_cases h0 : n = 0
  · obtain rfl : r = false := by rw [hr]; exact pieceB_no (by rw [dat_len, ← hn]; exact h0)
    subst h0
    clear hn hsz hs hr
    go_enter Try.func30, Try.ntmps30
    go_wp2
    go_ret
    exact ⟨rfl, Below.refl _ _⟩
  have hl0 : 0 < l.length := by omega
  have hp := pieceB_some (l := dat l) (by rw [dat_len]; exact hl0)
  rw [← hr, dat_get l hl0] at hp
  have e0 : ((n : Int) == 0) = false := by rw [beq_eq_false_iff_ne]; omega
  have hnm2 : ∀ w1, Calls Try.prog 42 #[.string l[0].d.n] w1 fun e w' => e = .returned (.bool (nameB l[0].d.n.data.toList)) ∧ w1 = w' := fun w1 =>
    rname_any _ _ (by have := (hsz.small l[0].d (by unfold dat; exact List.mem_map_of_mem (List.getElem_mem hl0))).1; unfold maxLen; omega)
  have htw := rtwin_any A cap n l hn hsz w B hB hs
  have hmay : ∀ (A1 : Option Addr) (c1 : Nat) (l1 : List Nm) (w1 : World), n = l1.length → dat l1 = headless (dat l) → Nodes w1 w1.heap.size A1 l1 → Calls Try.prog 31 #[.slice A1 n c1] w1 fun e w' => e = .returned (.bool ((checkF (headless (dat l))).2 == 0)) ∧ Below w1.heap.size w1 w' := fun A1 c1 l1 w1 h1 h2 h3 => by
    have := may_any A1 c1 n l1 h1 (sized_head hsz h2) w1 w1.heap.size (Nat.le_refl _) h3
    rw [h2] at this
    exact this
  obtain ⟨b, off, rfl, hbB, _, x1, _, _⟩ := hs.at_ hl0
  have hset : ∀ l1 : List Nm, dat l1 = dat l → ∀ h : 0 < l1.length, dat (l1.set 0 ⟨⟨l1[0].d.p, ByteArray.empty, l1[0].d.ps⟩, l1[0].A, l1[0].c⟩) = headless (dat l) := fun l1 hd h => by
    have e : (dat l)[0]'(by rw [dat_len]; exact hl0) = l1[0].d := by
      have h1 := dat_at h
      rw [hd, List.getElem?_eq_getElem (by rw [dat_len]; exact hl0)] at h1
      exact Option.some.inj h1
    rw [dat_set, headless_set (by rw [dat_len]; exact hl0), hd, e]
  obtain ⟨s, hss⟩ : ∃ s, s = l[0].d.n := ⟨_, rfl⟩
  rw [← hss] at x1 hnm2 hp
  simp only [Nat.zero_mul, Nat.add_zero] at x1
  obtain ⟨bn, hbn⟩ : ∃ bn, bn = nameB s.data.toList := ⟨_, rfl⟩
  obtain ⟨bc, hbc⟩ : ∃ bc, bc = ((checkF (headless (dat l))).2 == 0) := ⟨_, rfl⟩
  rw [← hbn, ← hbc] at hp
  simp only [← hbn] at hnm2
  simp only [← hbc] at hmay
  have HN := Lib.hid hn
  have HNM := Lib.hid hnm2
  have HTW := Lib.hid htw
  have HMAY := Lib.hid hmay
  have HSET := Lib.hid hset
  have HS := Lib.hid hs
  clear hr hnm2 htw hmay hset hn hs hsz hbn hbc hss
  have hn0 : (0 : Int) < (n : Int) := by omega
  have hn0' : 0 < n := by omega
  rcases bn with _ | _
  · obtain rfl : r = false := hp
    go_enter Try.func30, Try.ntmps30
    go_wp2_with (first
      | (go_at_call 42; refine (HNM.out _).mono ?_; rintro e w' ⟨rfl, rfl⟩))
    go_ret
    exact ⟨rfl, Below.refl _ _⟩
  · obtain rfl : r = bc := by rw [hp]; rfl
    clear hp
    go_enter Try.func30, Try.ntmps30
    go_wp2_with (first
      | (go_at_call 42; refine (HNM.out _).mono ?_; rintro e w' ⟨rfl, rfl⟩)
      | (go_at_call 6; refine HTW.out.mono ?_; rintro e w1 ⟨A1, c1, l1, rfl, hd1, ho1, hb1⟩
         have hl1 : 0 < l1.length := by have := ho1.len; omega
         obtain ⟨g, rfl, hgb, y1, y1f, hst⟩ := ho1.name_ hl1
         have ho2 := hst ByteArray.empty
         have hd2 := HSET.out l1 hd1 hl1
         generalize l1.set 0 ⟨⟨l1[0].d.p, ByteArray.empty, l1[0].d.ps⟩, l1[0].A, l1[0].c⟩ = l2 at ho2 hd2
         generalize l1[0].d.n = t1 at y1
         simp only [Nat.zero_mul, Nat.zero_add] at y1 y1f ho2
         have HO2 := Lib.hid ho2
         have HD2 := Lib.hid hd2
         have HB1 := Lib.hid hb1
         have HB2 := Lib.hid (hb1.setCell (p := ⟨g, 1, none⟩) hgb (.string ByteArray.empty))
         clear ho2 hd2 hb1 hst ho1 hd1)
      | (go_at_call 31; refine (HMAY.out _ _ _ _ HO2.out.len HD2.out HO2.out.nodes).mono ?_; rintro e w3 ⟨rfl, hb3⟩; have HB3 := Lib.hid (HB2.out.trans (hb3.mono HB2.out.size)); clear hb3))
    go_ret
    exact ⟨rfl, HB3.out⟩
end Go.Proofs.Ytmdnbajbfnhecaa
