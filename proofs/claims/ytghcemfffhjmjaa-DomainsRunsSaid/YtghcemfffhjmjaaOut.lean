/- The statement's 'out': the contract. -/
import Derived.Test.YtghcemfffhjmjaaNew
set_option linter.unusedVariables false
namespace Go.Proofs.Ytghcemfffhjmjaa
open Go.RowKit
def Dmi.core (x : Dmi) : List Int × Nat := (x.u, x.t)
structure OutK (W w0 : World) (k : Nat) (A : Option Addr) (c : Nat) (lo l : List Dmi) : Prop where
  low : Below w0.heap.size w0 W
  own : W.ownsRow w0.heap.size 57 2 (.slice A k c) k (dmiCells lo)
  same : lo.map Dmi.core = (l.take k).map Dmi.core
  under : ∀ x ∈ lo, Vec W w0.heap.size x.A 3 (ints x.u ++ [.int .i64 987])
  cap : ∀ x ∈ lo, x.u.length + 1 ≤ x.c
theorem OutK.below {W W' w0 : World} {k c : Nat} {A : Option Addr} {lo l : List Dmi} (h : OutK W w0 k A c lo l) (hb : Below W.heap.size W W') : OutK W' w0 k A c lo l :=
  ⟨h.low.trans (hb.mono h.low.size), own_keep h.own fun g hg => hb.block g (h.own.lt g hg).2, h.same, fun x hx => (h.under x hx).below hb, h.cap⟩
theorem OutK.push {W W3 W4 w0 : World} {k c c3 c' : Nat} {A A3 A' : Option Addr} {lo l : List Dmi} {o : Obj} (h : OutK W w0 k A c lo l) (hk : k < l.length) (hb3 : Below W.heap.size W W3)
    (hown3 : W3.ownsRow W.heap.size 3 1 (.slice A3 (l[k].u.length + 1) c3) (l[k].u.length + 1) (ints l[k].u ++ [.int .i64 987])) (hg : (W3.alloc o).grownBy W4 (Value.slice A k c).ownBlock)
    (hown : W4.ownsRow w0.heap.size 57 2 (.slice A' (k + 1) c') (k + 1) (dmiCells lo ++ [.slice A3 l[k].u.length c3, .int .u8 (l[k].t : Int)])) :
    OutK W4 w0 (k + 1) A' c' (lo ++ [⟨l[k].u, l[k].t, A3, c3⟩]) l := by
  have h3 := h.below hb3
  have s0 := h.low.size
  have s2 := hb3.size
  have hap : ∀ g, (Value.slice A k c).ownBlock = some g → w0.heap.size ≤ g ∧ g < W3.heap.size := fun g hg => h3.own.lt g hg
  have hkeep : ∀ g, g < W3.heap.size → (Value.slice A k c).ownBlock ≠ some g → W4.heap[g]? = W3.heap[g]? := fun g h1 h2 => by
    rw [hg.block g (by simp; omega) (fun e => h2 e.symm), Below.heap_alloc _ _ _ h1]
  have hap3 : ∀ g ys, RowAt W3 g 3 ys → (Value.slice A k c).ownBlock ≠ some g := fun g ys hr => own_apart h3.own hr (by decide)
  have hcap : l[k].u.length + 1 ≤ c3 := by
    rcases hown3.2 with ⟨_, h0⟩ | ⟨_, _, _, hv, _, _, hc, _⟩
    · omega
    · injection hv with _ _ hv; omega
  refine ⟨?_, ?_, ?_, ?_, ?_⟩
  · exact (h3.low.alloc (by omega) o).grown hg (by simp; omega) (fun g hg => (hap g hg).1)
  · have e : dmiCells (lo ++ [⟨l[k].u, l[k].t, A3, c3⟩]) = dmiCells lo ++ [.slice A3 l[k].u.length c3, .int .u8 (l[k].t : Int)] := by simp [dmiCells, Dmi.cells]
    rw [e]
    exact hown
  · rw [List.take_succ_eq_append_getElem hk, List.map_append, List.map_append, h.same]
    rfl
  · intro x hx
    rcases List.mem_append.1 hx with hx | hx
    · exact (h3.under x hx).keep2 fun g hb hr => hkeep g hr.lt (hap3 _ _ hr)
    · rw [List.mem_singleton] at hx
      subst hx
      exact ((Vec.of_own hown3).mono (B' := w0.heap.size) (by omega)).keep2 fun g hb hr => hkeep g hr.lt (hap3 _ _ hr)
  · intro x hx
    rcases List.mem_append.1 hx with hx | hx
    · exact h.cap x hx
    · rw [List.mem_singleton] at hx
      subst hx
      exact hcap
/-- What 'out' gives: domains in memory of their own; 77 and 987 behind. -/
structure OutAt (W : World) (B n : Nat) (A : Option Addr) (c : Nat) (lo l : List Dmi) : Prop where
  own : W.ownsRow B 57 2 (.slice A (n + 1) c) (n + 1) (dmiCells lo ++ [.slice none 0 0, .int .u8 77])
  same : lo.map Dmi.core = l.map Dmi.core
  under : ∀ x ∈ lo, Vec W B x.A 3 (ints x.u ++ [.int .i64 987])
  cap : ∀ x ∈ lo, x.u.length + 1 ≤ x.c
set_option maxRecDepth 100000 in
set_option maxHeartbeats 4000000 in
theorem out_any (A : Option Addr) (cap : Nat) (l : List Dmi) (n : Nat) (hn : n = l.length) (hmax : n ≤ 4398046510976) (hu : ∀ x ∈ l, x.u.length ≤ 17592186043904) (w : World) (hs : Domi w w.heap.size A l) :
    Calls Try.prog 10 #[.slice A n cap] w fun e w' => ∃ A' c' lo, e = .returned (.slice A' n c') ∧ Below w.heap.size w w' ∧ OutAt w' w.heap.size n A' c' lo l := by
  have Hn := Lib.hid hn
  have HS := Lib.hid hs
  have HU := Lib.hid hu
  clear hn hs hu
  obtain ⟨i3, e3, z30, z31, z32⟩ := info_parts Try.info3
  obtain ⟨i57, e57, z570, z571, z572⟩ := info_parts Try.info57
  go_enter Try.func10, Try.ntmps10
  go_wp2_with fail
  go_loopw [3, 4] (fun xv iv wr => ∃ (k : Nat) (Ak : Option Addr) (ck : Nat) (lo : List Dmi), k ≤ n ∧ iv = .int .i64 k ∧ xv = .slice Ak k ck ∧ OutK wr w k Ak ck lo l) (fun _ iv _ => n - (intOf iv).toNat)
  case atStart => exact ⟨0, none, 0, [], by omega, rfl, rfl, ⟨Below.refl _ _, World.ownsRow_nil _ _ _ _, by rfl, (fun x hx => by cases hx), (fun x hx => by cases hx)⟩⟩
  case round =>
    obtain ⟨k, Ak, ck, lo, hk, rfl, rfl, hok⟩ := hrel
    have HOK := Lib.hid hok
    clear hok
    by_cases hkn : k < n
    · have hkl : k < l.length := by rw [← Hn.out]; exact hkn
      have hki : (k : Int) < (n : Int) := by omega
      obtain ⟨b, off, rfl, hbB, x0, x1, hun⟩ := (HS.out.below HOK.out.low).at_ hkl
      have hm17 := HU.out _ (List.getElem_mem hkl)
      obtain ⟨m, hm⟩ : ∃ m, m = l[k].u.length := ⟨_, rfl⟩
      obtain ⟨a, ha⟩ : ∃ a, a = l[k].A := ⟨_, rfl⟩
      obtain ⟨c, hc⟩ : ∃ c, c = l[k].c := ⟨_, rfl⟩
      obtain ⟨t, ht⟩ : ∃ t, t = l[k].t := ⟨_, rfl⟩
      obtain ⟨u, hu⟩ : ∃ u, u = l[k].u := ⟨_, rfl⟩
      rw [← hm, ← ha, ← hc] at x0
      rw [← ht] at x1
      rw [← hu] at hm hm17 hun
      rw [← ha] at hun
      have s0 := HOK.out.low.size
      have hown0 : (wr.alloc (.cells #[] 3)).ownsRow wr.heap.size 3 1 (.slice (some ⟨wr.heap.size, 0, none⟩) 0 0) 0 [] := World.ownsRow_lit wr #[] 0 (Nat.le_refl _) (by unfold maxLen; omega) rfl
      have hb0 := (Below.refl wr.heap.size wr).alloc (Nat.le_refl _) (.cells #[] 3)
      have hs0 := hun.alloc s0 (.cells #[] 3)
      have x0' := (World.cell?_alloc_lt wr (.cells #[] 3) ⟨b, off + k * 2, none⟩ (by show b < _; omega)).trans x0
      have HUN := Lib.hid hs0
      have HM := Lib.hid hm
      have HUU := Lib.hid hu
      have HT := Lib.hid ht
      clear ha hc ht hu hun hm hs0
      have hm1 : 0 + m ≤ maxLen := by unfold maxLen; have := HM.out; omega
      have hm2 : (0 + m) * 8 ≤ 140737488355328 := by have := HM.out; omega
      have hm3 : m + 1 ≤ maxLen := by unfold maxLen; have := HM.out; omega
      have hm4 : (m + 1) * 8 ≤ 140737488355328 := by have := HM.out; omega
      go_wp2_with (first
        | (at_builtin; refine wpList_append_seg _ rfl (.tmp 19) (.tmp 24) 43 rfl wr.heap.size 3 i3 _ 1 8 Try.underlying43 e3 z30 z31 z32 rfl (by decide) _ 0 [] rfl hown0 w.heap.size a m c (ints u) rfl (by rw [ints_len, Nat.mul_one]; exact HM.out.symm) HUN.out (ints_one u) hm1 hm2 (by simp) ?_
           intro v1 w1 hown1 hg1 _
           have hb1 : Below wr.heap.size wr w1 := hb0.grown hg1 (by simp) (fun g hg => (hown0.lt g hg).1)
           rw [Nat.zero_add, List.nil_append] at hown1
           obtain ⟨A1, c1, rfl⟩ := own_shape hown1
           have hown1' := World.ownsRow.alloc hown1 (.cells #[.int .i64 987] 3)
           have hb2 := hb1.alloc hb1.size (.cells #[.int .i64 987] 3)
           have hsz1 : wr.heap.size ≤ (w1.alloc (.cells #[.int .i64 987] 3)).heap.size := hb2.size
           have HB2 := Lib.hid hb2
           clear hown1 hg1 hb1 hb2)
        | (at_builtin; refine wpList_append_seg _ rfl (.tmp 25) (.tmp 26) 43 rfl wr.heap.size 3 i3 _ 1 8 Try.underlying43 e3 z30 z31 z32 rfl (by decide) _ m (ints u) rfl hown1' (w1.heap.size + 1) (some ⟨w1.heap.size, 0, none⟩) 1 1 [.int .i64 987] rfl rfl (seg_new _ 3 #[.int .i64 987]) (by simp [Value.oneCell']) hm3 hm4 hsz1 ?_
           intro v2 w2 hown2 hg2 _
           have hb3 : Below wr.heap.size wr w2 := HB2.out.grown hg2 hsz1 (fun g hg => (hown1'.lt g hg).1)
           obtain ⟨A2, c2, rfl⟩ := own_shape hown2
           obtain ⟨g2, rfl, hg20, hg21⟩ := own_head hown2 (by omega)
           have hc2 : m + 1 ≤ c2 := by
             rcases hown2.2 with ⟨_, h0⟩ | ⟨_, _, _, hv, _, _, hc, _⟩
             · omega
             · injection hv with _ _ hv; omega
           have hc2i : (m : Int) ≤ (c2 : Int) := by omega
           have x1' := (hb3.cell (p := ⟨b, off + k * 2 + 1, none⟩) (by show b < _; omega)).trans x1
           have HOWN2 := Lib.hid hown2
           have HB3 := Lib.hid hb3
           clear hown1' hown2 hb3 hg2 HB2 hown0 hb0))
      have m2 : k + 1 ≤ maxLen := by unfold maxLen; omega
      have m3 : (k + 1) * 32 ≤ 140737488355328 := by omega
      have y1 : ∀ e : some b = (Value.slice Ak k ck).ownBlock, False := fun e => by have := (HOK.out.own.lt b e.symm).1; omega
      have y2 : b < w2.heap.size := by have := HB3.out.size; omega
      go_region_held3 (fun W => W.cell? ⟨b, off + k * 2 + 1, none⟩ = some (.int .u8 (t : Int))) (first | exact x1' | exact (World.cell?_alloc_lt _ _ _ (by exact y2)).trans x1' | exact (World.cell?_of_block (hg4.block b (by simp; omega) y1)).trans ((World.cell?_alloc_lt _ _ _ (by exact y2)).trans x1')) (first
        | (refine step_append_seg rfl (.tmp 28) (.tmp 38) 31 rfl w.heap.size 57 i57 _ 2 32 Try.underlying31 e57 z570 z571 z572 rfl (by decide) (.slice Ak k ck) k (dmiCells lo) (by simp [Act.eval]) (World.ownsRow.alloc (w := _) (by exact (HOK.out.below HB3.out).own) _) (w2.heap.size + 1) (some ⟨w2.heap.size, 0, none⟩) 1 1 [.slice (some ⟨g2, 0, none⟩) m c2, .int .u8 (t : Int)] (by simp [Act.eval]) rfl (by exact seg_new _ 57 #[.slice (some ⟨g2, 0, none⟩) m c2, .int .u8 (t : Int)]) (by simp [Value.oneCell']) m2 m3 (by simp; omega) ?_; intro v4 w4 hown4 hg4 _))
      obtain ⟨A4, c4, rfl⟩ := own_shape hown4
      have hg4' : (w2.alloc (.cells #[.slice (some ⟨g2, 0, none⟩) m c2, .int .u8 (t : Int)] 57)).grownBy w4 (Value.slice Ak k ck).ownBlock := ⟨hg4.os, hg4.tape, hg4.output, hg4.size, hg4.block⟩
      have HOWN4 := Lib.hid hown4
      have HG4 := Lib.hid hg4'
      clear hown4 hg4 hg4' y1 y2 m2 m3
      go_wp2_with fail
      have q1 := HUU.out
      have q2 := HM.out
      have q3 := HT.out
      subst q1
      subst q2
      subst q3
      exact ⟨⟨k + 1, A4, c4, lo ++ [⟨l[k].u, l[k].t, some ⟨g2, 0, none⟩, c2⟩], by omega, by go_num, by rfl, OutK.push HOK.out hkl HB3.out HOWN2.out HG4.out HOWN4.out⟩, by simp [intOf]; omega⟩
    · obtain rfl : k = n := by omega
      have m2 : k + 1 ≤ maxLen := by unfold maxLen; omega
      have m3 : (k + 1) * 32 ≤ 140737488355328 := by omega
      have s0 := HOK.out.low.size
      have hki : (k : Int) ≤ (k : Int) + 1 := by omega
      go_wp2_with (at_builtin; refine wpList_append_seg _ rfl (.tmp 40) (.tmp 42) 31 rfl w.heap.size 57 i57 _ 2 32 Try.underlying31 e57 z570 z571 z572 rfl (by decide) (.slice Ak k ck) k (dmiCells lo) rfl (World.ownsRow.alloc HOK.out.own (.cells #[.slice none 0 0, .int .u8 77] 57)) (wr.heap.size + 1) (some ⟨wr.heap.size, 0, none⟩) 1 1 [.slice none 0 0, .int .u8 77] rfl rfl (seg_new _ 57 #[.slice none 0 0, .int .u8 77]) (by simp [Value.oneCell']) m2 m3 (by simp; omega) ?_
                   intro v4 w4 hown4 hg4 _
                   obtain ⟨A4, c4, rfl⟩ := own_shape hown4
                   obtain ⟨g4, rfl, hg40, hg41⟩ := own_head hown4 (by omega)
                   have hc4 : k + 1 ≤ c4 := by
                     rcases hown4.2 with ⟨_, h0⟩ | ⟨_, _, _, hv, _, _, hc, _⟩
                     · omega
                     · injection hv with _ _ hv; omega
                   have hc4i : (k : Int) ≤ (c4 : Int) := by omega
                   have HOWN4 := Lib.hid hown4
                   have HG4 := Lib.hid hg4
                   clear hown4 hg4)
      go_ret
      have hap3 : ∀ g ys, RowAt wr g 3 ys → (Value.slice Ak k ck).ownBlock ≠ some g := fun g ys hr => own_apart HOK.out.own hr (by decide)
      refine ⟨_, c4, lo, by rfl, (HOK.out.low.alloc s0 _).grown HG4.out (by simp; omega) (fun g hg => (HOK.out.own.lt g hg).1), HOWN4.out, ?_, fun x hx => ?_, HOK.out.cap⟩
      · rw [HOK.out.same, Hn.out, List.take_length]
      · exact (HOK.out.under x hx).keep2 fun g hb hr => by
          rw [HG4.out.block g (by have := hr.lt; simp; omega) (fun e => hap3 _ _ hr e.symm), Below.heap_alloc _ _ _ hr.lt]
end Go.Proofs.Ytghcemfffhjmjaa
