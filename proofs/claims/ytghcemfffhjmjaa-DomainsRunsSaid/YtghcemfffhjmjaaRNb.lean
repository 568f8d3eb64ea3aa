/- DomainsRuns: the document's net by its data; Level and On. -/
import Derived.Test.YtghcemfffhjmjaaRChg
set_option linter.unusedVariables false
namespace Go.Proofs.Ytghcemfffhjmjaa
open Go.RowKit
/-- The document's net that stands as what is wanted says. -/
def RNb (w : World) (B rb N : Nat) (ds : List Dm) (W : Int → Int → Nat) : Prop :=
  ∃ n m Ad cd Aw cw lr wl, RMem w B rb n m Ad cd Aw cw lr wl ∧ mayD lr ∧ (∀ x ∈ lr, x.t ≤ 255) ∧ dms lr = ds ∧ Rep n wl W ∧ m ≤ N
section
variable {w w' : World} {B rb N : Nat} {ds : List Dm} {W : Int → Int → Nat}
theorem RNb.other {S : Nat → Prop} (h : RNb w B rb N ds W) (hf : Frame S w w') (hs : ∀ j, S j → j < B) : RNb w' B rb N ds W := by
  obtain ⟨n, m, Ad, cd, Aw, cw, lr, wl, h1, h2⟩ := h
  exact ⟨n, m, Ad, cd, Aw, cw, lr, wl, h1.other hf hs, h2⟩
theorem RNb.below (h : RNb w B rb N ds W) (hb : Below w.heap.size w w') : RNb w' B rb N ds W := h.other (S := fun _ => False) (Frame.of_below hb) (fun _ x => x.elim)
theorem RNb.more {M : Nat} (h : RNb w B rb N ds W) (hM : N ≤ M) : RNb w B rb M ds W := by
  obtain ⟨n, m, Ad, cd, Aw, cw, lr, wl, h1, h2, h3, h4, h5, h6⟩ := h
  exact ⟨n, m, Ad, cd, Aw, cw, lr, wl, h1, h2, h3, h4, h5, by omega⟩
theorem RNb.lt (h : RNb w B rb N ds W) : B ≤ rb ∧ rb < w.heap.size := by
  obtain ⟨n, m, Ad, cd, Aw, cw, lr, wl, h1, h2⟩ := h
  exact ⟨h1.low, h1.lt⟩
theorem RMem.n_eq {n m : Nat} {Ad : Option Addr} {cd : Nat} {Aw : Option Addr} {cw : Nat} {lr : List Dmi} {wl : List Wt} (h : RMem w B rb n m Ad cd Aw cw lr wl) (hds : dms lr = ds) : n = ds.length := by
  rw [← hds, dms_len]; exact h.len
theorem rlev_nb (h : RNb w B rb N ds W) (hN : N ≤ 100000) :
    Calls Try.prog 35 #[.pointer (some ⟨rb, 0, none⟩)] w fun e w' => e = .returned (.slice (some ⟨w.heap.size, 0, none⟩) ds.length ds.length) ∧ RowAt w' w.heap.size 5 (lvs (lev ds W) ds.length) ∧ Below w.heap.size w w' := by
  obtain ⟨n, m, Ad, cd, Aw, cw, lr, wl, h1, h2, h3, h4, h5, h6⟩ := h
  have hn := h1.n_eq h4
  have := rlevels_any h1 h2 (by omega) (fun x hx => (h5.ok x hx).2.1)
  rw [h5.tops, h4, hn] at this
  exact this
theorem rwants_nb (h : RNb w B rb N ds W) (hN : N ≤ 100000) (u d : Int) :
    Calls Try.prog 32 #[.pointer (some ⟨rb, 0, none⟩), .int .i64 u, .int .i64 d] w fun e w' => e = .returned (.int .u8 (W u d : Int)) ∧ w = w' := by
  obtain ⟨n, m, Ad, cd, Aw, cw, lr, wl, h1, h2, h3, h4, h5, h6⟩ := h
  have := rwants_any h1 (by omega) u d
  rw [← h5.get] at this
  exact this
set_option maxRecDepth 100000 in
set_option maxHeartbeats 4000000 in
theorem rlevel_nb (h : RNb w B rb N ds W) (hN : N ≤ 100000) (d : Int) :
    Calls Try.prog 41 #[.pointer (some ⟨rb, 0, none⟩), .int .i64 d] w fun e w' => e = .returned (.int .u8 (levelAt ds W d : Int)) ∧ Below w.heap.size w w' := by
  have hl := rlev_nb h hN
  have c0 : ∃ Ad cd, w.cell? ⟨rb, 0, none⟩ = some (.slice Ad ds.length cd) := by
    obtain ⟨n, m, Ad, cd, Aw, cw, lr, wl, h1, h2, h3, h4, h5⟩ := h
    rw [← h1.n_eq h4]
    exact ⟨Ad, cd, h1.c0⟩
  obtain ⟨Ad, cd, c0⟩ := c0
  obtain ⟨n, hn⟩ : ∃ n, n = ds.length := ⟨_, rfl⟩
  rw [← hn] at hl c0
  have HL := Lib.hid hl
  have HN := Lib.hid hn
  unfold levelAt
  rw [← hn]
  clear hl h hn
  by_cases h1 : 0 ≤ d
  · by_cases h2 : d < (n : Int)
    · rw [if_pos ⟨h1, h2⟩]
      obtain ⟨d, rfl⟩ : ∃ d' : Nat, d = d' := ⟨d.toNat, (Int.toNat_of_nonneg h1).symm⟩
      have hdn : d < n := by omega
      go_enter Try.func41, Try.ntmps41
      go_wp2_with (go_at_call 35; refine HL.out.mono ?_; rintro e w2 ⟨rfl, hr2, hb2⟩
                   have c2 := (hr2.cell (k := d) (by rw [lvs_len]; exact hdn)).trans (lvs_get _ hdn)
                   have HB2 := Lib.hid hb2
                   clear hr2 hb2)
      go_ret
      exact ⟨by rw [Int.toNat_natCast]; rfl, HB2.out⟩
    · rw [if_neg (fun h => h2 h.2)]
      go_enter Try.func41, Try.ntmps41
      go_wp2_with fail
      go_ret
      exact ⟨by rfl, Below.refl _ _⟩
  · rw [if_neg (fun h => h1 h.1)]
    go_enter Try.func41, Try.ntmps41
    go_wp2_with fail
    go_ret
    exact ⟨by rfl, Below.refl _ _⟩
set_option maxRecDepth 100000 in
set_option maxHeartbeats 4000000 in
theorem ron_nb (h : RNb w B rb N ds W) (hN : N ≤ 100000) (hn256 : ds.length ≤ 256) :
    Calls Try.prog 38 #[.pointer (some ⟨rb, 0, none⟩)] w fun e w' => ∃ A c, e = .returned (.slice A (onL (lev ds W) ds.length).length c) ∧ w'.ownsRow w.heap.size 3 1 (.slice A (onL (lev ds W) ds.length).length c) (onL (lev ds W) ds.length).length (nats (onL (lev ds W) ds.length)) ∧ Below w.heap.size w w' := by
  have hl := rlev_nb h hN
  generalize ds.length = n at *
  generalize lev ds W = f at *
  have HL := Lib.hid hl
  clear hl h
  obtain ⟨i3, e3, z30, z31, z32⟩ := info_parts Try.info3
  go_enter Try.func38, Try.ntmps38
  go_wp2_with (go_at_call 35; refine HL.out.mono ?_; rintro e w2 ⟨rfl, hr2, hb2⟩
               have HB2 := Lib.hid hb2
               have HR2 := Lib.hid hr2
               clear hr2 hb2)
  obtain ⟨g, hg⟩ : ∃ g, g = w.heap.size := ⟨_, rfl⟩
  have hgl : w.heap.size < w2.heap.size := HR2.out.lt
  go_loopw [3, 5] (fun sv iv wr => ∃ (k : Nat) (A : Option Addr) (c : Nat), k ≤ n ∧ iv = .int .i64 k ∧ sv = .slice A (onL f k).length c ∧ wr.ownsRow w2.heap.size 3 1 (.slice A (onL f k).length c) (onL f k).length (nats (onL f k)) ∧ Below w2.heap.size w2 wr) (fun _ iv _ => n - (intOf iv).toNat)
  case atStart => exact ⟨0, none, 0, by omega, rfl, rfl, World.ownsRow_nil _ _ _ _, Below.refl _ _⟩
  case round =>
    obtain ⟨k, A, c, hk, rfl, rfl, hown, hb⟩ := hrel
    have HOWN := Lib.hid hown
    have HB := Lib.hid hb
    clear hown hb
    by_cases hkn : k < n
    · have hki : (k : Int) < (n : Int) := by omega
      have c2 := ((HR2.out.keep (HB.out.block _ hgl)).cell (k := k) (by rw [lvs_len]; exact hkn)).trans (lvs_get _ hkn)
      have hln := onL_len f k
      have e1 : onL f (k + 1) = if 0 < f k then onL f k ++ [k] else onL f k := rfl
      obtain ⟨q, hq⟩ : ∃ q, q = f k := ⟨_, rfl⟩
      rw [← hq] at c2 e1
      have E1 := Lib.hid e1
      clear hq e1
      by_cases hp : 0 < q
      · have hpi : (0 : Int) < (q : Int) := by omega
        have E2 := Lib.hid (E1.out.trans (if_pos hp))
        obtain ⟨x, hx⟩ : ∃ x, x = onL f k := ⟨_, rfl⟩
        have ho := HOWN.out
        have e2 := E2.out
        rw [← hx] at ho e2 hln ⊢
        have HO := Lib.hid ho
        have EE := Lib.hid e2
        clear ho e2 hx HOWN E1 E2
        have m1 : x.length + 1 ≤ maxLen := by unfold maxLen; omega
        have m2 : (x.length + 1) * 8 ≤ 140737488355328 := by omega
        have m3 : w2.heap.size ≤ wr.heap.size + 1 := by have := HB.out.size; omega
        go_wp2_with (at_builtin; refine wpList_append_seg _ rfl (.tmp 19) (.tmp 21) 43 rfl w2.heap.size 3 i3 _ 1 8 Try.underlying43 e3 z30 z31 z32 rfl (by decide) (.slice A x.length c) x.length (nats x) rfl (World.ownsRow.alloc HO.out _) (wr.heap.size + 1) (some ⟨wr.heap.size, 0, none⟩) 1 1 [.int .i64 (k : Int)] rfl rfl (seg_new _ 3 #[.int .i64 (k : Int)]) (by simp [Value.oneCell']) m1 m2 (by rw [World.size_alloc]; exact m3) ?_
                     intro v4 w8 hown4 hg4 _
                     obtain ⟨A4, c4, rfl⟩ := own_shape hown4
                     have hb8 : Below w2.heap.size w2 w8 := (HB.out.alloc HB.out.size _).grown hg4 (by rw [World.size_alloc]; exact m3) (fun g hg => (HO.out.lt g hg).1)
                     have hnn : nats x ++ [.int .i64 (k : Int)] = nats (onL f (k + 1)) := by rw [EE.out]; simp [nats]
                     have hll : x.length + 1 = (onL f (k + 1)).length := by rw [EE.out]; simp
                     rw [hnn, hll] at hown4
                     have HOWN4 := Lib.hid hown4
                     have HB8 := Lib.hid hb8
                     have HLL := Lib.hid hll
                     clear hown4 hg4 hb8 hnn hll)
        exact ⟨⟨k + 1, A4, c4, by omega, by go_num, by rw [HLL.out], HOWN4.out, HB8.out⟩, by simp [intOf]; omega⟩
      · have hpi : ¬ (0 : Int) < (q : Int) := by omega
        have E2 := Lib.hid (E1.out.trans (if_neg hp))
        go_wp2_with fail
        exact ⟨⟨k + 1, A, c, by omega, by go_num, by rw [E2.out], by rw [E2.out]; exact HOWN.out, HB.out⟩, by simp [intOf]; omega⟩
    · obtain rfl : k = n := by omega
      go_wp2_with fail
      go_ret
      exact ⟨A, c, by rfl, own_base HOWN.out (Nat.le_of_lt hgl), HB2.out.trans (HB.out.mono HB2.out.size)⟩
end
end Go.Proofs.Ytghcemfffhjmjaa
