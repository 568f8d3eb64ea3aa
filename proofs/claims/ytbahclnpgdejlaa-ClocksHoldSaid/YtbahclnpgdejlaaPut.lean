import Derived.Test.YtbahclnpgdejlaaDrop
set_option linter.unusedVariables false
namespace Go.Proofs.Ytbahclnpgdejlaa
open Go.RowKit
theorem users_ok {w : World} {B nb n : Nat} {Ac Ar Au Ah : Option Addr} {cc cr cu ch : Nat} {s : St} (h : NetAt w B nb n Ac Ar Au Ah cc cr cu ch s) {k : Nat} (hk : k < n) :
    Calls Try.prog 15 #[.pointer (some ⟨nb, 0, none⟩), .int .i64 k] w fun e w' => e = .returned (.int .i64 (s.us.getD k 0)) ∧ w = w' := by
  obtain ⟨gu, rfl, _, hrow⟩ := h.row_u (by omega)
  have hlenu := h.lenu
  have c0 := h.c0
  have c2 := h.c2
  have hcl := hrow.cell (k := k) (by rw [i64s_len]; omega)
  rw [i64s_get _ _ (by omega)] at hcl
  have hki : (k : Int) < (n : Int) := by omega
  obtain ⟨z, hz⟩ : ∃ z, z = s.us.getD k 0 := ⟨_, rfl⟩
  rw [← hz] at hcl ⊢
  clear hz hrow hlenu h
  go_enter Try.func15, Try.ntmps15
  go_wp2_with (go_at_call 25; refine (there_ok _ _ _ _ _ _ c0 (by omega) (by omega)).mono ?_; rintro e w' ⟨rfl, rfl⟩)
  go_ret
  exact ⟨rfl, rfl⟩
theorem put_none {w : World} {B nb n : Nat} {Ac Ar Au Ah : Option Addr} {cc cr cu ch : Nat} {s : St} (h : NetAt w B nb n Ac Ar Au Ah cc cr cu ch s) {k : Nat} (hk : k < n) (hu : s.us.getD k 0 = 0) :
    Calls Try.prog 14 #[.pointer (some ⟨nb, 0, none⟩), .int .i64 k] w fun e w' => e = .returned (.tuple #[.slice none 0 0, .int .i64 6]) ∧ w = w' := by
  obtain ⟨gu, rfl, _, hrow⟩ := h.row_u (by omega)
  have hlenu := h.lenu
  have c0 := h.c0
  have c2 := h.c2
  have hcl := hrow.cell (k := k) (by rw [i64s_len]; omega)
  rw [i64s_get _ _ (by omega), hu] at hcl
  have hki : (k : Int) < (n : Int) := by omega
  clear hrow hlenu h hu
  go_enter Try.func14, Try.ntmps14
  go_wp2_with (go_at_call 25; refine (there_ok _ _ _ _ _ _ c0 (by omega) (by omega)).mono ?_; rintro e w' ⟨rfl, rfl⟩)
  go_ret2
  exact ⟨rfl, rfl⟩
set_option maxRecDepth 100000 in
set_option maxHeartbeats 1000000 in
theorem put_ok {w : World} {B nb n gu gh : Nat} {Ac Ar : Option Addr} {cc cr cu ch : Nat} {s : St} (h : NetAt w B nb n Ac Ar (some ⟨gu, 0, none⟩) (some ⟨gh, 0, none⟩) cc cr cu ch s) (hg : Good s.l) (hn5 : n ≤ 512) {k : Nat} (hk : k < n)
    (hu : s.us.getD k 0 ≠ 0) (hu1 : 0 ≤ s.us.getD k 0) (hu2 : s.us.getD k 0 ≤ 65535) (hb : ∀ j : Nat, j ≤ k → -1099511627776 ≤ s.hs.getD j 0 ∧ s.hs.getD j 0 ≤ 1099511627776) :
    Calls Try.prog 14 #[.pointer (some ⟨nb, 0, none⟩), .int .i64 k] w fun e w' => ∃ A c, e = .returned (.tuple #[.slice A (dropF s.l 513 k s.hs).2.length c, .int .i64 0]) ∧
      w'.ownsRow w.heap.size 80 2 (.slice A (dropF s.l 513 k s.hs).2.length c) (dropF s.l 513 k s.hs).2.length (turnCells (dropF s.l 513 k s.hs).2) ∧
      NetAt w' B nb n Ac Ar (some ⟨gu, 0, none⟩) (some ⟨gh, 0, none⟩) cc cr cu ch { s with us := s.us.set k (s.us.getD k 0 - 1), hs := (dropF s.l 513 k s.hs).1 } ∧ Frame (fun j => j = gu ∨ j = gh) w w' := by
  obtain ⟨g', e', hBg, hrow⟩ := h.row_u (by omega)
  obtain rfl : gu = g' := by injection e' with e'; injection e'
  have hlenu := h.lenu
  have hcl := hrow.cell (k := k) (by rw [i64s_len]; omega)
  rw [i64s_get _ _ (by omega)] at hcl
  have hfz := hrow.frozen k
  have hst := hrow.store k (.int .i64 (s.us.getD k 0 - 1))
  rw [i64s_set] at hst
  have hfr := (Frame.refl (fun k => k = gu) w).setCell (p := ⟨gu, k, none⟩) (fun _ => rfl) (.int .i64 (s.us.getD k 0 - 1))
  have hnet := net_user h (by omega) hfr hst (by simp; omega)
  have hh := drop_any B nb n gh Ac Ar (some ⟨gu, 0, none⟩) cc cr cu ch (by omega) hn5 513 k _ _ hnet hg (fun j hj => hb j (by omega)) (by omega) (by omega) (by omega) (by omega)
  have hsz : (w.setCell ⟨gu, k, none⟩ (.int .i64 (s.us.getD k 0 - 1))).heap.size = w.heap.size := by simp
  rw [hsz] at hh
  have c0 := h.c0
  have c2 := h.c2
  have hki : (k : Int) < (n : Int) := by omega
  obtain ⟨z, hz⟩ : ∃ z, z = s.us.getD k 0 := ⟨_, rfl⟩
  rw [← hz] at hcl hu hu1 hu2 hh hfr
  have hzn : (z == 0) = false := by simpa using hu
  have HH := Lib.hid hh
  have HF := Lib.hid hfr
  have HZ := Lib.hid hz
  clear hz hh hnet hst hrow hlenu h hg hb hsz hu e' hfr
  go_enter Try.func14, Try.ntmps14
  go_wp2_with (first
    | (go_at_call 25; refine (there_ok _ _ _ _ _ _ c0 (by omega) (by omega)).mono ?_; rintro e w' ⟨rfl, rfl⟩)
    | (go_at_call 31; refine HH.out.mono ?_; rintro e w2 ⟨A2, c2', rfl, hown2, hnet2, hfr2⟩))
  go_ret2
  refine ⟨A2, c2', rfl, hown2, ?_, (HF.out.mono (fun _ _ h => .inl h)).next hfr2 (fun _ _ h => .inr h)⟩
  rw [← HZ.out]
  exact hnet2
end Go.Proofs.Ytbahclnpgdejlaa
