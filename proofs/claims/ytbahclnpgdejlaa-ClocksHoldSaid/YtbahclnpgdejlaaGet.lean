/- Contracts of On and Get. -/
import Derived.Test.YtbahclnpgdejlaaHold
set_option linter.unusedVariables false
namespace Go.Proofs.Ytbahclnpgdejlaa
open Go.RowKit
/-- A net whose 'users' alone has changed. -/
theorem net_user {w w' : World} {B nb n gu : Nat} {Ac Ar Ah : Option Addr} {cc cr cu ch : Nat} {s : St} {us' : List Int} (h : NetAt w B nb n Ac Ar (some ⟨gu, 0, none⟩) Ah cc cr cu ch s) (hn : 0 < n)
    (hf : Frame (fun k => k = gu) w w') (hr : RowAt w' gu 3 (i64s us')) (hl : n = us'.length) : NetAt w' B nb n Ac Ar (some ⟨gu, 0, none⟩) Ah cc cr cu ch { s with us := us' } := by
  have hh : RowAt w gu 3 (i64s s.us) ∧ B ≤ gu := by
    obtain ⟨g, e, hb, hr⟩ := h.vu (by intro e; have := congrArg List.length e; simp [i64s] at this; have := h.lenu; rw [‹s.us = []›] at this; simp at this; omega)
    injection e with e
    injection e with e
    subst e
    exact ⟨hr, hb⟩
  have hnb : nb ≠ gu := by
    rintro rfl
    obtain ⟨cur, hc, _⟩ := hh.1
    rw [h.box] at hc
    injection hc with hc
    injection hc with _ ht
    exact absurd ht (by decide)
  have keepv : ∀ (A : Option Addr) (e : TypeId) (xs : List Value), (e ≠ 3 ∨ A ≠ some ⟨gu, 0, none⟩) → Vec w B A e xs → Vec w' B A e xs := fun A e xs hne hv hx => by
    obtain ⟨g, ha, hb, hrg⟩ := hv hx
    refine ⟨g, ha, hb, hrg.frame hf ?_⟩
    rintro rfl
    rcases hne with hne | hne
    · exact (hrg.ne_type hh.1 hne) rfl
    · exact hne ha
  exact ⟨h.low, h.len, h.lenr, hl, h.lenh, (hf.heap h.lt hnb).trans h.box, keepv _ _ _ (.inl (by decide)) h.vc, keepv _ _ _ (.inl (by decide)) h.vr, hr.vec hh.2, keepv _ _ _ (.inr (h.ne hn).symm) h.vh, h.ne⟩
theorem NetAt.row_u {w : World} {B nb n : Nat} {Ac Ar Au Ah : Option Addr} {cc cr cu ch : Nat} {s : St} (h : NetAt w B nb n Ac Ar Au Ah cc cr cu ch s) (hn : 0 < n) : ∃ gu, Au = some ⟨gu, 0, none⟩ ∧ B ≤ gu ∧ RowAt w gu 3 (i64s s.us) :=
  h.vu (by intro e; have := congrArg List.length e; simp [i64s] at this; have := h.lenu; rw [‹s.us = []›] at this; simp at this; omega)
theorem on_ok {w : World} {B nb n : Nat} {Ac Ar Au Ah : Option Addr} {cc cr cu ch : Nat} {s : St} (h : NetAt w B nb n Ac Ar Au Ah cc cr cu ch s) {k : Nat} (hk : k < n) :
    Calls Try.prog 13 #[.pointer (some ⟨nb, 0, none⟩), .int .i64 k] w fun e w' => e = .returned (.bool (decide (0 < s.hs.getD k 0))) ∧ w = w' := by
  obtain ⟨gh, rfl, _, hrow⟩ := h.row_h (by omega)
  have hlenh := h.lenh
  have c0 := h.c0
  have c3 := h.c3
  have hcl := hrow.cell (k := k) (by rw [i64s_len]; omega)
  rw [i64s_get _ _ (by omega)] at hcl
  have hki : (k : Int) < (n : Int) := by omega
  obtain ⟨z, hz⟩ : ∃ z, z = s.hs.getD k 0 := ⟨_, rfl⟩
  rw [← hz] at hcl ⊢
  clear hz hrow hlenh h
  go_enter Try.func13, Try.ntmps13
  go_wp2_with (go_at_call 25; refine (there_ok _ _ _ _ _ _ c0 (by omega) (by omega)).mono ?_; rintro e w' ⟨rfl, rfl⟩)
  go_ret
  exact ⟨rfl, rfl⟩
set_option maxRecDepth 100000 in
set_option maxHeartbeats 1000000 in
theorem get_ok {w : World} {B nb n gu gh : Nat} {Ac Ar : Option Addr} {cc cr cu ch : Nat} {s : St} (h : NetAt w B nb n Ac Ar (some ⟨gu, 0, none⟩) (some ⟨gh, 0, none⟩) cc cr cu ch s) (hg : Good s.l) (hn5 : n ≤ 512) {k : Nat} (hk : k < n)
    (hu : s.us.getD k 0 ≠ 65535) (hu1 : 0 ≤ s.us.getD k 0) (hu2 : s.us.getD k 0 ≤ 65535) (hb : ∀ j : Nat, j ≤ k → 0 ≤ s.hs.getD j 0 ∧ s.hs.getD j 0 ≤ 1099511627776) :
    Calls Try.prog 12 #[.pointer (some ⟨nb, 0, none⟩), .int .i64 k] w fun e w' => ∃ A c, e = .returned (.tuple #[.slice A (holdF s.l 513 k s.hs).2.length c, .int .i64 0]) ∧
      w'.ownsRow w.heap.size 80 2 (.slice A (holdF s.l 513 k s.hs).2.length c) (holdF s.l 513 k s.hs).2.length (turnCells (holdF s.l 513 k s.hs).2) ∧
      NetAt w' B nb n Ac Ar (some ⟨gu, 0, none⟩) (some ⟨gh, 0, none⟩) cc cr cu ch { s with us := s.us.set k (s.us.getD k 0 + 1), hs := (holdF s.l 513 k s.hs).1 } ∧ Frame (fun j => j = gu ∨ j = gh) w w' := by
  obtain ⟨g', e', hBg, hrow⟩ := h.row_u (by omega)
  obtain rfl : gu = g' := by injection e' with e'; injection e'
  have hlenu := h.lenu
  have hcl := hrow.cell (k := k) (by rw [i64s_len]; omega)
  rw [i64s_get _ _ (by omega)] at hcl
  have hfz := hrow.frozen k
  have hst := hrow.store k (.int .i64 (s.us.getD k 0 + 1))
  rw [i64s_set] at hst
  have hfr := (Frame.refl (fun k => k = gu) w).setCell (p := ⟨gu, k, none⟩) (fun _ => rfl) (.int .i64 (s.us.getD k 0 + 1))
  have hnet := net_user h (by omega) hfr hst (by simp; omega)
  have hh := hold_any B nb n gh Ac Ar (some ⟨gu, 0, none⟩) cc cr cu ch (by omega) hn5 513 k _ _ hnet hg (fun j hj => hb j (by omega)) (by omega) (by omega) (by omega) (by omega)
  have hsz : (w.setCell ⟨gu, k, none⟩ (.int .i64 (s.us.getD k 0 + 1))).heap.size = w.heap.size := by simp
  rw [hsz] at hh
  have c0 := h.c0
  have c2 := h.c2
  have hki : (k : Int) < (n : Int) := by omega
  obtain ⟨z, hz⟩ : ∃ z, z = s.us.getD k 0 := ⟨_, rfl⟩
  rw [← hz] at hcl hu hu1 hu2 hh hfr
  have hzn : (z == 65535) = false := by simpa using hu
  have HH := Lib.hid hh
  have HF := Lib.hid hfr
  have HZ := Lib.hid hz
  clear hz hh hnet hst hrow hlenu h hg hb hsz hu e' hfr
  go_enter Try.func12, Try.ntmps12
  go_wp2_with (first
    | (go_at_call 25; refine (there_ok _ _ _ _ _ _ c0 (by omega) (by omega)).mono ?_; rintro e w' ⟨rfl, rfl⟩)
    | (go_at_call 30; refine HH.out.mono ?_; rintro e w2 ⟨A2, c2', rfl, hown2, hnet2, hfr2⟩))
  go_ret2
  refine ⟨A2, c2', rfl, hown2, ?_, (HF.out.mono (fun _ _ h => .inl h)).next hfr2 (fun _ _ h => .inr h)⟩
  rw [← HZ.out]
  exact hnet2
end Go.Proofs.Ytbahclnpgdejlaa
