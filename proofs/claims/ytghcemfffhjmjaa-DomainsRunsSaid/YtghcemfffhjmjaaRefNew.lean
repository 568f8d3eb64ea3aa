/- DomainsRuns: the document's New (a long build: a region with 48 orders). -/
import Derived.Test.YtghcemfffhjmjaaRNb
import Derived.Test.YtghcemfffhjmjaaMay
import Derived.Deep.RegionLaw
set_option linter.unusedVariables false
namespace Go.Proofs.Ytghcemfffhjmjaa
open Go.RowKit
theorem Try.info48 : (Try.prog.info? 48).map (fun i => (i.zero, i.size, i.bytes)) = some (some (.agg #[.slice none 0 0, .int .u8 0]), 2, 32) := by kernel_rfl
structure RNewK (W w0 : World) (rb k : Nat) (A : Option Addr) (c : Nat) (lr l : List Dmi) : Prop where
  low : Below w0.heap.size w0 W
  ge : w0.heap.size ≤ rb
  box : RowAt W rb 73 [.slice A k c, .slice none 0 0]
  own : W.ownsRow (rb + 1) 48 2 (.slice A k c) k (dmiCells lr)
  same : lr.map Dmi.core = (l.take k).map Dmi.core
  under : ∀ x ∈ lr, Vec W (rb + 1) x.A 3 (ints x.u)
  cap : ∀ x ∈ lr, x.u.length ≤ x.c
theorem RNewK.push {W W3 W4 w0 : World} {rb k c c3 c' : Nat} {A A3 A' : Option Addr} {lr l : List Dmi} {o : Obj} (h : RNewK W w0 rb k A c lr l) (hk : k < l.length) (hb3 : Below W.heap.size W W3)
    (hown3 : W3.ownsRow W.heap.size 3 1 (.slice A3 l[k].u.length c3) l[k].u.length (ints l[k].u)) (hg : (W3.alloc o).grownBy W4 (Value.slice A k c).ownBlock)
    (hown : W4.ownsRow (rb + 1) 48 2 (.slice A' (k + 1) c') (k + 1) (dmiCells lr ++ [.slice A3 l[k].u.length c3, .int .u8 (l[k].t : Int)])) :
    RNewK (W4.setCell ⟨rb, 0, none⟩ (.slice A' (k + 1) c')) w0 rb (k + 1) A' c' (lr ++ [⟨l[k].u, l[k].t, A3, c3⟩]) l := by
  have s0 := h.low.size
  have s1 := h.box.lt
  have s2 := hb3.size
  have hge := h.ge
  have hown1 := own_keep (w' := W3) h.own fun g hg => hb3.block g (h.own.lt g hg).2
  have hbox1 := h.box.keep (hb3.block _ s1)
  have hund1 : ∀ x ∈ lr, Vec W3 (rb + 1) x.A 3 (ints x.u) := fun x hx => (h.under x hx).below hb3
  have hap : ∀ g, (Value.slice A k c).ownBlock = some g → rb + 1 ≤ g ∧ g < W3.heap.size := fun g hg => hown1.lt g hg
  have hkeep : ∀ g, g < W3.heap.size → (Value.slice A k c).ownBlock ≠ some g → g ≠ rb → (W4.setCell ⟨rb, 0, none⟩ (.slice A' (k + 1) c')).heap[g]? = W3.heap[g]? := fun g h1 h2 h4 => by
    rw [Below.heap_setCell _ _ _ _ h4, hg.block g (by simp; omega) (fun e => h2 e.symm), Below.heap_alloc _ _ _ h1]
  have hno : ∀ g, g < rb + 1 → (Value.slice A k c).ownBlock ≠ some g := fun g h1 h2 => by have := (hap g h2).1; omega
  have hap3 : ∀ g ys, RowAt W3 g 3 ys → (Value.slice A k c).ownBlock ≠ some g := fun g ys hr => own_apart hown1 hr (by decide)
  have hcap : l[k].u.length ≤ c3 := by
    rcases hown3.2 with ⟨hv, h0⟩ | ⟨_, _, _, hv, _, _, hc, _⟩
    · injection hv with _ hv _; omega
    · injection hv with _ _ hv; omega
  refine ⟨?_, hge, ?_, ?_, ?_, ?_, ?_⟩
  · have hl3 := h.low.trans (hb3.mono s0)
    refine ((hl3.alloc (by omega) o).grown hg (by simp; omega) (fun g hg => by have := (hap g hg).1; omega)).setCell (p := ⟨rb, 0, none⟩) hge _
  · have hb := (hbox1.keep (w' := W4) (by rw [hg.block _ (by simp; omega) (fun e => hno _ (by omega) e.symm), Below.heap_alloc _ _ _ (by omega)])).store 0 (.slice A' (k + 1) c')
    exact hb
  · have e : dmiCells (lr ++ [⟨l[k].u, l[k].t, A3, c3⟩]) = dmiCells lr ++ [.slice A3 l[k].u.length c3, .int .u8 (l[k].t : Int)] := by simp [dmiCells, Dmi.cells]
    rw [e]
    exact ownsRow_setCell_below hown (a := ⟨rb, 0, none⟩) (by simp) _
  · rw [List.take_succ_eq_append_getElem hk, List.map_append, List.map_append, h.same]
    rfl
  · intro x hx
    rcases List.mem_append.1 hx with hx | hx
    · exact (hund1 x hx).keep2 fun g hb hr => hkeep g hr.lt (hap3 _ _ hr) (by omega)
    · rw [List.mem_singleton] at hx
      subst hx
      exact ((Vec.of_own hown3).mono (B' := rb + 1) (by omega)).keep2 fun g hb hr => hkeep g hr.lt (hap3 _ _ hr) (by omega)
  · intro x hx
    rcases List.mem_append.1 hx with hx | hx
    · exact h.cap x hx
    · rw [List.mem_singleton] at hx
      subst hx
      exact hcap
theorem RNewK.net {W w0 : World} {rb k c : Nat} {A : Option Addr} {lr l : List Dmi} (h : RNewK W w0 rb k A c lr l) (hk : k = l.length) (hmay : mayD l) (ht : ∀ x ∈ l, x.t ≤ 255) : RNb W w0.heap.size rb 0 (dms l) (fun _ _ => 0) := by
  have e : lr.map Dmi.core = l.map Dmi.core := by rw [h.same, hk, List.take_length]
  have hge := h.ge
  refine ⟨k, 0, A, c, none, 0, lr, [], ⟨hge, by rw [hk]; exact (core_len e).symm, rfl, h.box, (Vec.of_own h.own).mono (by omega), fun x hx => (h.under x hx).mono (by omega), h.cap, fun hx => absurd rfl hx⟩, core_may e hmay, core_all (p := fun _ t => t ≤ 255) e ht, dms_same e, rep_none k, by omega⟩
set_option maxRecDepth 100000 in
set_option maxHeartbeats 4000000 in
theorem rnew_any (A : Option Addr) (cap : Nat) (l : List Dmi) (n : Nat) (hn : n = l.length) (ht : ∀ x ∈ l, x.t ≤ 255) (w : World) (hs : Domi w w.heap.size A l) :
    Calls Try.prog 19 #[.slice A n cap] w fun e w' => Below w.heap.size w w' ∧ ((¬ mayD l ∧ e = .returned (.tuple #[.pointer none, .int .i64 200])) ∨
      (mayD l ∧ ∃ rb, e = .returned (.tuple #[.pointer (some ⟨rb, 0, none⟩), .int .i64 0]) ∧ RNb w' w.heap.size rb 0 (dms l) (fun _ _ => 0))) := by
  have hmy := may_any A cap l n hn w w.heap.size (Nat.le_refl _) hs
  have HMY := Lib.hid hmy
  have HN := Lib.hid hn
  have HS := Lib.hid hs
  have HT := Lib.hid ht
  clear hmy hn hs ht
  by_cases hmay : mayD l
  · have HMAY := Lib.hid hmay
    clear hmay
    go_enter Try.func19, Try.ntmps19
    go_wp2_with (go_at_call 16; refine HMY.out.mono ?_; rintro e w1 ⟨bb, rfl, hbb, hb1⟩; obtain rfl : bb = true := hbb.2 HMAY.out; have HB1 := Lib.hid hb1; clear hb1 hbb)
    have hn256 : n ≤ 256 := by have := HMAY.out.1; have := HN.out; omega
    have hk0 : RNewK (w1.alloc (.cells #[.slice none 0 0, .slice none 0 0] 73)) w w1.heap.size 0 none 0 [] l :=
      ⟨HB1.out.alloc HB1.out.size _, HB1.out.size, ⟨_, heap_alloc_new _ _, rfl⟩, World.ownsRow_nil _ _ _ _, rfl, (fun x hx => by cases hx), fun x hx => by cases hx⟩
    have HK0 := Lib.hid hk0
    clear hk0 HMY
    generalize w1.alloc (.cells #[.slice none 0 0, .slice none 0 0] 73) = w2 at *
    generalize w1.heap.size = rb at *
    go_loopw [5] (fun iv wr => ∃ (k : Nat) (Ak : Option Addr) (ck : Nat) (lr : List Dmi), k ≤ n ∧ iv = .int .i64 k ∧ RNewK wr w rb k Ak ck lr l) (fun iv _ => n - (intOf iv).toNat)
    case atStart => exact ⟨0, none, 0, [], by omega, rfl, HK0.out⟩
    case round =>
      obtain ⟨k, Ak, ck, lr, hk, rfl, hnk⟩ := hrel
      clear HK0
      have HNK := Lib.hid hnk
      clear hnk
      by_cases hkn : k < n
      · have hkl : k < l.length := by rw [← HN.out]; exact hkn
        have hki : (k : Int) < (n : Int) := by omega
        obtain ⟨b, off, rfl, hbB, x0, x1, hun⟩ := (HS.out.below HNK.out.low).at_ hkl
        have s0 := HNK.out.low.size
        have hbr : b < wr.heap.size := by omega
        have hrb := HNK.out.box.lt
        have hrb0 := HNK.out.ge
        have c0 := HNK.out.box.cell (k := 0) (by simp)
        simp only [List.getElem?_cons_zero] at c0
        obtain ⟨m, hm⟩ : ∃ m, m = l[k].u.length := ⟨_, rfl⟩
        rw [← hm] at x0
        have hm8 : m ≤ 8 := by rw [hm]; exact (HMAY.out.2 k hkl).1
        obtain ⟨a, ha⟩ : ∃ a, a = l[k].A := ⟨_, rfl⟩
        obtain ⟨c, hc⟩ : ∃ c, c = l[k].c := ⟨_, rfl⟩
        obtain ⟨t, ht⟩ : ∃ t, t = l[k].t := ⟨_, rfl⟩
        obtain ⟨u, hu⟩ : ∃ u, u = l[k].u := ⟨_, rfl⟩
        rw [← ha, ← hc] at x0
        rw [← ht] at x1
        rw [← hu] at hm
        rw [← hu, ← ha] at hun
        have hown0 : (wr.drew.alloc (.cells #[] 3)).ownsRow wr.heap.size 3 1 (.slice (some ⟨wr.heap.size, 0, none⟩) 0 0) 0 [] := World.ownsRow_lit wr.drew #[] 0 (Nat.le_refl _) (by unfold maxLen; omega) rfl
        have hb0 := (Below.refl wr.heap.size wr).drew.alloc (Nat.le_refl _) (.cells #[] 3)
        have hs0 := hun.alloc (w := wr.drew) s0 (.cells #[] 3)
        have x0' := (World.cell?_alloc_lt wr.drew (.cells #[] 3) ⟨b, off + k * 2, none⟩ hbr).trans x0
        have x1' := (World.cell?_alloc_lt wr.drew (.cells #[] 3) ⟨b, off + k * 2 + 1, none⟩ hbr).trans x1
        have c0' := (World.cell?_alloc_lt wr.drew (.cells #[] 3) ⟨rb, 0, none⟩ hrb).trans c0
        have y0 : wr.drew.cell? ⟨b, off + k * 2, none⟩ = some (.slice a m c) := x0
        have y1 : wr.drew.cell? ⟨b, off + k * 2 + 1, none⟩ = some (.int .u8 (t : Int)) := x1
        have d0 : wr.drew.cell? ⟨rb, 0, none⟩ = some (.slice Ak k ck) := c0
        have HUN := Lib.hid hs0
        have HM := Lib.hid hm
        have HUU := Lib.hid hu
        have HT' := Lib.hid ht
        have HOWN0 := Lib.hid hown0
        have HB0 := Lib.hid hb0
        obtain ⟨i3, e3, z30, z31, z32⟩ := info_parts Try.info3
        obtain ⟨i48, e48, z480, z481, z482⟩ := info_parts Try.info48
        have m1 : 0 + m ≤ maxLen := by unfold maxLen; omega
        have m2 : (0 + m) * 8 ≤ 140737488355328 := by omega
        have m3 : k + 1 ≤ maxLen := by unfold maxLen; omega
        have m4 : (k + 1) * 32 ≤ 140737488355328 := by omega
        clear ha hc ht hu hun hm hs0 hown0 hb0
        go_wp2_with fail
        go_region_law (first
          | (refine step_append_seg rfl (.tmp 21) (.tmp 35) 22 rfl (rb + 1) 48 i48 _ 2 32 Try.underlying22 e48 z480 z481 z482 rfl (by decide) (.slice Ak k ck) k (dmiCells lr) (by simp [Act.eval]) (World.ownsRow.alloc (w := w3) (by exact (own_keep (w' := w3) HNK.out.own fun g hg => HB3.out.block g (HNK.out.own.lt g hg).2)) _) (w3.heap.size + 1) (some ⟨w3.heap.size, 0, none⟩) 1 1 [.slice A3 m c3, .int .u8 (t : Int)] (by simp [Act.eval]) rfl (by exact seg_new _ 48 #[.slice A3 m c3, .int .u8 (t : Int)]) (by simp [Value.oneCell']) m3 m4 (by simp; omega) ?_; intro v4 w4 hown4 hg4 _
             obtain ⟨A4, c4, rfl⟩ := own_shape hown4
             have q2 : ∀ e : some rb = (Value.slice Ak k ck).ownBlock, False := fun e => by have := (HNK.out.own.lt _ e.symm).1; omega
             have q3 : w4.heap[rb]? = w3.heap[rb]? := (hg4.block _ (by simp; omega) q2).trans (Below.heap_alloc _ _ _ (by omega))
             have u2 : w4.cell? ⟨rb, 0, none⟩ = some (.slice Ak k ck) := (World.cell?_of_block q3).trans v2
             have u3 : w4.frozen? ⟨rb, 0, none⟩ = false := ((HNK.out.box.keep (HB3.out.block _ hrb)).keep q3).frozen 0
             have HOWN4 := Lib.hid hown4
             have HG4 := Lib.hid hg4
             clear hown4 hg4 q2 q3)
          | (refine step_append_seg rfl (.tmp 22) (.tmp 27) 43 rfl wr.heap.size 3 i3 _ 1 8 Try.underlying43 e3 z30 z31 z32 rfl (by decide) (.slice (some ⟨wr.heap.size, 0, none⟩) 0 0) 0 [] (by simp [Act.eval]) (by exact HOWN0.out) w.heap.size a m c (ints u) (by simp [Act.eval]) (by rw [ints_len, Nat.mul_one]; exact HM.out.symm) (by exact HUN.out) (ints_one u) m1 m2 (by simp) ?_; intro v1 w3 hown1 hg1 _
             have hb3 : Below wr.heap.size wr w3 := HB0.out.grown hg1 (by simp) (fun g hg => (HOWN0.out.lt g hg).1)
             rw [Nat.zero_add, List.nil_append] at hown1
             obtain ⟨A3, c3, rfl⟩ := own_shape hown1
             have v0 := (hb3.cell (p := ⟨b, off + k * 2, none⟩) hbr).trans x0
             have v1 := (hb3.cell (p := ⟨b, off + k * 2 + 1, none⟩) hbr).trans x1
             have v2 := (hb3.cell (p := ⟨rb, 0, none⟩) hrb).trans c0
             have hs3 : wr.heap.size ≤ w3.heap.size := hb3.size
             have v3 : (w3.alloc (.cells #[.slice A3 m c3, .int .u8 (t : Int)] 48)).cell? ⟨rb, 0, none⟩ = some (.slice Ak k ck) := (World.cell?_alloc_lt _ _ _ (by show rb < w3.heap.size; omega)).trans v2
             have HOWN3 := Lib.hid hown1
             have HB3 := Lib.hid hb3
             clear hown1 hg1 hb3))
        all_goals go_wp2_with fail
        all_goals
          have q1 := HUU.out
          have q2 := HM.out
          have q3 := HT'.out
          subst q1
          subst q2
          subst q3
          exact ⟨⟨k + 1, A4, c4, lr ++ [⟨l[k].u, l[k].t, A3, c3⟩], by omega, by go_num, RNewK.push HNK.out hkl HB3.out HOWN3.out HG4.out HOWN4.out⟩, by simp [intOf]; omega⟩
      · obtain rfl : k = n := by omega
        go_wp2_with fail
        go_ret2
        exact ⟨HNK.out.low, .inr ⟨HMAY.out, rb, by rfl, HNK.out.net HN.out HMAY.out HT.out⟩⟩
  · have hmy2 : Calls Try.prog 16 #[.slice A n cap] w fun e w' => e = .returned (.bool false) ∧ Below w.heap.size w w' := HMY.out.mono fun e w' ⟨b, he, hb, hbl⟩ => by
      cases b with
      | false => exact ⟨he, hbl⟩
      | true => exact absurd (hb.1 rfl) hmay
    have HMY2 := Lib.hid hmy2
    have HMAY := Lib.hid hmay
    clear hmay hmy2 HMY
    go_enter Try.func19, Try.ntmps19
    go_wp2_with (go_at_call 16; refine HMY2.out.mono ?_; rintro e w1 ⟨rfl, hb1⟩; have HB1 := Lib.hid hb1; clear hb1)
    go_ret2
    exact ⟨HB1.out, .inl ⟨HMAY.out, by rfl⟩⟩
end Go.Proofs.Ytghcemfffhjmjaa
