/- The walk of ClaimsAsked. -/
import Derived.Test.YtdnncpikndgabaaOver
set_option linter.unusedVariables false
namespace Go.Proofs.Ytdnncpikndgabaa
open Go.RowKit
theorem Try.info30 : (Try.prog.info? 30).map (fun i => (i.zero, i.size, i.bytes)) = some (some (.agg #[.int .i64 0, .int .u8 0, .int .u64 0, .int .u64 0]), 4, 32) := by kernel_rfl
theorem owCells_len (l : List Ow) : (owCells l).length = l.length * 4 := flat_length _ 4 ow_len l
theorem one_ow (l : List Ow) : ∀ u ∈ owCells l, u.oneCell' = true := by
  intro u hu
  obtain ⟨o, _, ho⟩ := List.mem_flatMap.1 hu
  simp [Ow.cells] at ho
  rcases ho with rfl | rfl | rfl | rfl <;> rfl
theorem own_empty (w : World) (B e size g : Nat) (hg : g = w.heap.size) (hB : B ≤ w.heap.size) : (w.alloc (.cells #[] e)).ownsRow B e size (.slice (some ⟨g, 0, none⟩) 0 0) 0 [] := by
  subst hg
  exact ⟨by simp, .inr ⟨w.heap.size, 0, #[], rfl, hB, heap_alloc_new w _, Nat.le_refl _, by unfold maxLen; omega, by simp, by simp⟩⟩
theorem own_cap {w : World} {base : Nat} {e : TypeId} {size g n cap : Nat} {xs : List Value} (h : w.ownsRow base e size (.slice (some ⟨g, 0, none⟩) n cap) n xs) : n ≤ cap := by
  rcases h.2 with ⟨h, _⟩ | ⟨g', cap', cur, hv, _, _, hnc, _⟩
  · cases h
  · injection hv with _ _ hc
    omega
theorem Seg.left {w : World} {B : Nat} {A : Option Addr} {xs ys : List Value} (h : Seg w B A (xs ++ ys)) : Seg w B A xs := fun hx => by
  obtain ⟨b, off, e, hb, hc⟩ := h (by intro e; exact hx (List.append_eq_nil_iff.1 e).1)
  exact ⟨b, off, e, hb, fun j u hu => hc j u (by rw [List.getElem?_append_left (List.getElem?_eq_some_iff.1 hu).1]; exact hu)⟩
theorem free_out {l : List Ow} {k f t : Nat} {w w' : World} {e : Ending} (h : FreeR l k f t w e w') : ∃ (A' : Option Addr) (c' : Nat), e = .returned (.tuple #[.slice A' (freeL l k f t).length c', .int .i64 (freeE k f t)]) ∧
    w'.ownsRow w.heap.size 24 3 (.slice A' (freeL l k f t).length c') (freeL l k f t).length (clCells (freeL l k f t)) ∧ Below w.heap.size w w' := by
  obtain ⟨⟨A', m, c', rfl, ho⟩, hb⟩ := h
  have hm : m = (freeL l k f t).length := by have := ho.1; rw [clCells_len] at this; omega
  subst hm
  exact ⟨A', c', rfl, ho, hb⟩
theorem free_len (l : List Ow) (k f t : Nat) : (freeL l k f t).length ≤ l.length + 1 := by
  unfold freeL
  by_cases h : k < 1 ∨ 3 < k ∨ t < f
  · rw [if_pos h]; simp
  · rw [if_neg h]
    exact doc_len l (by omega)
set_option maxRecDepth 100000 in
set_option maxHeartbeats 4000000 in
theorem claimsAsked_walk (A : Option Addr) (cap n : Nat) (l : List Ow) (hn : n = l.length) (hn2 : (n + 40) * 32 ≤ 140737488355328) (k m f t : Nat) (ht : t < 18446744073709551616) (hl : ∀ o ∈ l, o.c.f < 18446744073709551616 ∧ o.c.t < 18446744073709551616) (w : World) (hs : Seg w w.heap.size A (owCells l)) :
    Calls Try.prog 4 #[.slice A n cap, .int .u8 (k : Int), .int .u64 (m : Int), .int .u64 (f : Int), .int .u64 (t : Int)] w fun e w' => e = .returned (.bool true) ∧ Below w.heap.size w w' := by
  obtain ⟨i0, fi, fz0, fz1, fz2⟩ := info_parts Try.info30
  have HN := Lib.hid hn
  have HS := Lib.hid hs
  have HL := Lib.hid hl
  have hcl : (owCells l).length = n * 4 := by rw [owCells_len, hn]
  have HCL := Lib.hid hcl
  clear hn hs hl hcl
  go_enter Try.func4, Try.ntmps4
  go_wp2_with (first
    | (at_builtin; refine wpList_append_seg _ rfl (.tmp 22) (.tmp 23) 31 rfl w.heap.size 30 i0 _ 4 32 Try.underlying31 fi fz0 fz1 fz2 rfl (by decide) _ 0 [] rfl (own_empty _ _ _ _ _ rfl (Nat.le_refl _)) w.heap.size A n cap (owCells l) rfl HCL.out (HS.out.alloc (Nat.le_refl _) _) (one_ow l) ?_ ?_ ?_ ?_))
  · unfold maxLen; omega
  · omega
  · simp
  intro v1 w1 hown1 hg1 hnil1
  have hb1 : Below w.heap.size w w1 := ((Below.refl w.heap.size w).alloc (Nat.le_refl _) (.cells #[] 30)).grown hg1 (by simp) (by simp [Value.ownBlock])
  obtain ⟨A1, c1, rfl⟩ := own_shape hown1
  have HO1 := Lib.hid hown1
  have HB1 := Lib.hid hb1
  have hw1 : w.heap.size ≤ w1.heap.size := hb1.size
  clear hown1 hg1 hnil1 hb1
  go_wp2_with (first
    | (at_builtin
       refine wpList_push rfl (.tmp 24) (.tmp 26) 31 rfl w.heap.size 30 i0 _ 4 32 Try.underlying31 fi fz0 fz1 fz2 rfl (by decide) _ n (owCells l) rfl HO1.out #[.int .i64 987, .int .u8 0, .int .u64 0, .int .u64 0] rfl rfl ?_ ?_ ?_ ?_ ?_))
  · first | exact ⟨rfl, rfl, rfl⟩ | (intro u hu; simp at hu; rcases hu with rfl | rfl | rfl <;> rfl)
  · unfold maxLen; omega
  · omega
  · first | exact hw1 | (simp; omega)
  intro A5 c5 w5 hown5 hp5
  have hb5 : Below w.heap.size w w5 := HB1.out.trans hp5.low
  have hw5 : w.heap.size ≤ w5.heap.size := hb5.size
  obtain ⟨g5, eA5, hg5, hg5l⟩ := own_head hown5 (by omega)
  subst eA5
  have hcp := own_cap hown5
  have hcp1 : n ≤ c5 := by omega
  have hcpi : (n : Int) ≤ (c5 : Int) := by omega
  have hseg := (own_seg hown5).left
  obtain ⟨r1, e1⟩ : ∃ r1, r1 = (whoV l ⟨k, m, m⟩).1 := ⟨_, rfl⟩
  obtain ⟨r2, e2⟩ : ∃ r2, r2 = (whoV l ⟨k, m, m⟩).2 := ⟨_, rfl⟩
  have hrw := fun w' B hB hs => rwho_any A cap n l HN.out (by unfold maxLen; omega) k m w' B hB hs
  have hpw := fun w' B hB hs => pwho_any (some ⟨g5, 0, none⟩) c5 n l HN.out (by unfold maxLen; omega) k m w' B hB hs
  have hrf := fun w' B hB hs => rfree_any A cap n l HN.out (by omega) k f t ht HL.out w' B hB hs
  have hpf := fun w' B hB hs => pfree_any (some ⟨g5, 0, none⟩) c5 n l HN.out (by omega) k f t ht HL.out w' B hB hs
  simp only [← e1, ← e2] at hrw hpw
  have hfl := free_len l k f t
  have hrf2 : ∀ (w' : World) (B : Nat), B ≤ w'.heap.size → Seg w' B A (owCells l) → Calls Try.prog 9 #[.slice A n cap, .int .u8 (k : Int), .int .u64 (f : Int), .int .u64 (t : Int)] w' fun e w2 => ∃ (A' : Option Addr) (c' : Nat), e = .returned (.tuple #[.slice A' (freeL l k f t).length c', .int .i64 (freeE k f t)]) ∧
    w2.ownsRow w'.heap.size 24 3 (.slice A' (freeL l k f t).length c') (freeL l k f t).length (clCells (freeL l k f t)) ∧ Below w'.heap.size w' w2 := fun w' B hB hs => Calls.mono (hrf w' B hB hs) fun e w2 hh => free_out hh
  have hpf2 : ∀ (w' : World) (B : Nat), B ≤ w'.heap.size → Seg w' B (some ⟨g5, 0, none⟩) (owCells l) → Calls Try.prog 5 #[.slice (some ⟨g5, 0, none⟩) n c5, .int .u8 (k : Int), .int .u64 (f : Int), .int .u64 (t : Int)] w' fun e w2 => ∃ (A' : Option Addr) (c' : Nat), e = .returned (.tuple #[.slice A' (freeL l k f t).length c', .int .i64 (freeE k f t)]) ∧
    w2.ownsRow w'.heap.size 24 3 (.slice A' (freeL l k f t).length c') (freeL l k f t).length (clCells (freeL l k f t)) ∧ Below w'.heap.size w' w2 := fun w' B hB hs => Calls.mono (hpf w' B hB hs) fun e w2 hh => free_out hh
  generalize freeE k f t = E at hrf2 hpf2
  generalize freeL l k f t = X at hrf2 hpf2 hfl
  obtain ⟨q, hq⟩ : ∃ q, q = X.length := ⟨_, rfl⟩
  rw [← hq] at hrf2 hpf2 hfl
  have HQ := Lib.hid hq
  have hq2 : q ≤ n + 1 := by rw [HN.out]; exact hfl
  have f1 : (r1 == r1) = true := beq_self_eq_true _
  have f2 : (r2 == r2) = true := beq_self_eq_true _
  have f3 : (E == E) = true := beq_self_eq_true _
  have HRW := Lib.hid hrw
  have HPW := Lib.hid hpw
  have HRF := Lib.hid hrf2
  have HPF := Lib.hid hpf2
  have HO5 := Lib.hid hown5
  have HB5 := Lib.hid hb5
  have HSG := Lib.hid hseg
  have hx987 : (owCells l ++ #[Value.int .i64 987, .int .u8 0, .int .u64 0, .int .u64 0].toList)[n * 4]? = some (.int .i64 987) := by
    rw [List.getElem?_append_right (by rw [HCL.out]; exact Nat.le_refl _), HCL.out, Nat.sub_self]
    rfl
  have HX := Lib.hid hx987
  clear hown5 hp5 hb5 hseg e1 e2 hrw hpw hrf hpf hrf2 hpf2 hfl hq hx987 HO1 HB1 HL
  go_wp2_with (first
    | (go_at_call 5
       refine (HPF.out w9 w9.heap.size (Nat.le_refl _) ((HSG.out.below HX59.out).more HX59.out.size)).mono ?_
       rintro e w10 ⟨A10, c10, rfl, ho10, hb10⟩
       have HO10 := Lib.hid ho10
       have HX10 := Lib.hid hb10
       have HX810 := Lib.hid (below_next HX89.out hb10)
       have HX510 := Lib.hid (below_next HX59.out hb10)
       have HB10 := Lib.hid (below_next HB9.out hb10)
       have hw810 : w8.heap.size ≤ w10.heap.size := Nat.le_trans HX89.out.size hb10.size
       clear ho10 hb10)
    | (go_at_call 5
       refine (HPF.out w8 w8.heap.size (Nat.le_refl _) ((HSG.out.below HX58.out).more HX58.out.size)).mono ?_
       rintro e w9 ⟨A9, c9, rfl, ho9, hb9⟩
       have HO9 := Lib.hid ho9
       have HX89 := Lib.hid hb9
       have HX59 := Lib.hid (below_next HX58.out hb9)
       have HB9 := Lib.hid (below_next HB8.out hb9)
       clear ho9 hb9)
    | (go_at_call 9
       refine (HRF.out w7 w7.heap.size (Nat.le_refl _) ((HS.out.below HB7.out).more HB7.out.size)).mono ?_
       rintro e w8 ⟨A8, c8, rfl, ho8, hb8⟩
       have HO8 := Lib.hid ho8
       have HX58 := Lib.hid (below_next HX57.out hb8)
       have HB8 := Lib.hid (below_next HB7.out hb8)
       have hw58' : w.heap.size ≤ w8.heap.size := (below_next HB7.out hb8).size
       have hw78 : w7.heap.size ≤ w8.heap.size := hb8.size
       have hw58 : w5.heap.size ≤ w8.heap.size := (below_next HX57.out hb8).size
       clear ho8 hb8)
    | (go_at_call 8
       refine (HPW.out w6 w6.heap.size (Nat.le_refl _) ((HSG.out.below HX56.out).more HX56.out.size)).mono ?_
       rintro e w7 ⟨rfl, hb7⟩
       have HX57 := Lib.hid (below_next HX56.out hb7)
       have HB7 := Lib.hid (below_next HB6.out hb7)
       clear hb7)
    | (go_at_call 7
       refine (HRW.out w5 w5.heap.size (Nat.le_refl _) ((HS.out.below HB5.out).more HB5.out.size)).mono ?_
       rintro e w6 ⟨rfl, hb6⟩
       have HX56 := Lib.hid hb6
       have HB6 := Lib.hid (below_next HB5.out hb6)
       clear hb6))
  have ho9 := own_keep HO9.out fun g _ hlt => HX10.out.block g hlt
  have ho8 := own_keep HO8.out fun g _ hlt => HX810.out.block g hlt
  have hov := over_any X q HQ.out (by omega) A9 A10 A8 c9 c10 c8 w10 w8.heap.size hw810 ho9 w10.heap.size (Nat.le_refl _) (own_seg HO10.out) (own_seg ho8) w9.heap.size w7.heap.size HO10.out ho8 (fun g h1 h2 => by
         have a1 := (HO9.out.lt g (own1_val.2 h1)).2
         have a2 := (HO10.out.lt g (own1_val.2 h2)).1
         omega) (fun g h1 h2 => by
         have a1 := (HO9.out.lt g (own1_val.2 h1)).1
         have a2 := (HO8.out.lt g (own1_val.2 h2)).2
         omega)
  refine hov.mono ?_
  rintro e w11 ⟨rfl, hf11⟩
  have hb11 : Below w8.heap.size w10 w11 := hf11.toBelow hw810 fun g hg hs => by have := (HO9.out.lt g (own1_val.2 hs)).1; omega
  have HB11 := Lib.hid (HB10.out.trans (hb11.mono hw58'))
  have ho11 := own_keep HO5.out (w' := w11) fun g _ hlt => by
    rw [hb11.block g (by omega), HX510.out.block g hlt]
  have h987 : w11.cell? ⟨g5, n * 4, none⟩ = some (.int .i64 987) := by
    have := ho11.cells (g := g5) rfl (n * 4) _ HX.out
    rwa [addr_add, Nat.zero_add] at this
  have HS11 := Lib.hid (own_seg ho11).left
  clear hf11 hb11 ho11 hov ho8 ho9
  go_wp2_with (first
    | (go_at_call 11
       refine (sameo_any l n HN.out (by unfold maxLen; omega) (some ⟨g5, 0, none⟩) A c5 cap w11 w11.heap.size (Nat.le_refl _) HS11.out ((HS.out.below HB11.out).more HB11.out.size)).mono ?_
       rintro e w12 ⟨rfl, hb12⟩
       have z12 := (hb12.cell (p := ⟨g5, n * 4, none⟩) (World.block_lt_of_cell? _ _ h987)).trans h987
       have HB12 := Lib.hid (below_next HB11.out hb12)
       clear hb12))
  go_ret
  exact ⟨rfl, HB12.out⟩
end Go.Proofs.Ytdnncpikndgabaa
