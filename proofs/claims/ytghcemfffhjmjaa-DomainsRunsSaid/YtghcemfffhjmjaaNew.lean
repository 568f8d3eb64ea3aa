/- New: the contract. -/
import Derived.Test.YtghcemfffhjmjaaIn
import Derived.Deep.RegionLaw
set_option linter.unusedVariables false
namespace Go.Proofs.Ytghcemfffhjmjaa
open Go.RowKit
/-- A domain as it is handed in. -/
structure Dmi where
  u : List Int
  t : Nat
  A : Option Addr
  c : Nat
def Dmi.cells (x : Dmi) : List Value := [.slice x.A x.u.length x.c, .int .u8 (x.t : Int)]
def dmiCells (l : List Dmi) : List Value := l.flatMap Dmi.cells
theorem dmi_len (x : Dmi) : (Dmi.cells x).length = 2 := rfl
def toDm (x : Dmi) : Dm := ⟨x.u.map Int.toNat, x.t⟩
def goodAt (i : Nat) (u : List Int) : Prop := u.length ≤ 8 ∧ ∀ k (h : k < u.length), 0 ≤ u[k] ∧ u[k] < (i : Int) ∧ u[k] ∉ u.take k
def mayD (l : List Dmi) : Prop := l.length ≤ 256 ∧ ∀ i (h : i < l.length), goodAt i l[i].u
structure Domi (w : World) (B : Nat) (a : Option Addr) (l : List Dmi) : Prop where
  seg : Seg w B a (dmiCells l)
  under : ∀ x ∈ l, Seg w B x.A (ints x.u)
  cap : ∀ x ∈ l, x.u.length ≤ x.c
theorem seg_take {w : World} {B : Nat} {a : Option Addr} {u : List Int} (h : Seg w B a (ints u)) (j : Nat) : Seg w B a (ints (u.take j)) := fun hx => by
  obtain ⟨b, off, e, hb, hc⟩ := h (fun e => hx (by unfold ints at e ⊢; rw [List.map_eq_nil_iff] at e; rw [e]; simp))
  refine ⟨b, off, e, hb, fun i v hv => hc i v ?_⟩
  unfold ints at hv ⊢
  rw [List.map_take] at hv
  have hi : i < j := by
    have := (List.getElem?_eq_some_iff.1 hv).1
    rw [List.length_take] at this
    omega
  rwa [List.getElem?_take_of_lt hi] at hv
section
variable {w w' : World} {B B' : Nat} {a : Option Addr} {l : List Dmi}
theorem Domi.below (h : Domi w B a l) (hb : Below B w w') : Domi w' B a l := ⟨h.seg.below hb, fun x hx => (h.under x hx).below hb, h.cap⟩
theorem Domi.more (h : Domi w B a l) (hB : B ≤ B') : Domi w B' a l := ⟨h.seg.more hB, fun x hx => (h.under x hx).more hB, h.cap⟩
theorem Domi.at_ (h : Domi w B a l) {k : Nat} (hk : k < l.length) : ∃ b off, a = some ⟨b, off, none⟩ ∧ b < B ∧ w.cell? ⟨b, off + k * 2, none⟩ = some (.slice l[k].A l[k].u.length l[k].c) ∧ w.cell? ⟨b, off + k * 2 + 1, none⟩ = some (.int .u8 (l[k].t : Int)) ∧ Seg w B l[k].A (ints l[k].u) := by
  obtain ⟨b, off, e, hb, hc⟩ := h.seg.thing (f := Dmi.cells) (m := 2) dmi_len (by omega) hk
  exact ⟨b, off, e, hb, hc 0 _ rfl, hc 1 _ rfl, h.under _ (List.getElem_mem hk)⟩
end
theorem zero62 (w : World) : (zeroValue 62).run Try.prog w = .ok (.agg (.slice none 0 0 :: .map none :: arr fun _ => 0).toArray) w := by kernel_rfl

theorem Vec.keep2 {w w' : World} {B : Nat} {A : Option Addr} {e : TypeId} {xs : List Value} (h : Vec w B A e xs) (hk : ∀ g, B ≤ g → RowAt w g e xs → w'.heap[g]? = w.heap[g]?) : Vec w' B A e xs := fun hx => by
  obtain ⟨g, ha, hb, hr⟩ := h hx
  exact ⟨g, ha, hb, hr.keep (hk g hb hr)⟩
theorem own_keep {w w' : World} {base size n : Nat} {e : TypeId} {v : Value} {xs : List Value} (h : w.ownsRow base e size v n xs) (hk : ∀ g, v.ownBlock = some g → w'.heap[g]? = w.heap[g]?) : w'.ownsRow base e size v n xs := by
  refine ⟨h.1, ?_⟩
  rcases h.2 with h2 | ⟨g, cap, cur, a1, a2, a3, a4⟩
  · exact .inl h2
  · exact .inr ⟨g, cap, cur, a1, a2, (hk g (by rw [a1]; rfl)).trans a3, a4⟩
theorem Try.info57 : (Try.prog.info? 57).map (fun i => (i.zero, i.size, i.bytes)) = some (some (.agg #[.slice none 0 0, .int .u8 0]), 2, 32) := by kernel_rfl
/-- What New has made behind k domains. -/
structure NetK (W w0 : World) (k : Nat) (A : Option Addr) (c : Nat) (ls : List Dmm) (l : List Dmi) : Prop where
  low : Below w0.heap.size w0 W
  box : RowAt W (w0.heap.size + 1) 62 (.slice A k c :: .map (some w0.heap.size) :: arr fun _ => 0)
  own : W.ownsRow (w0.heap.size + 2) 57 2 (.slice A k c) k (dmCells ls)
  ds : dsOf ls = (l.take k).map toDm
  under : ∀ x ∈ ls, Vec W (w0.heap.size + 2) x.A 3 (nats x.d.u)
  wants : W.heap[w0.heap.size]? = some (.map #[] 0)
theorem NetK.below {W W' w0 : World} {k c : Nat} {A : Option Addr} {ls : List Dmm} {l : List Dmi} (h : NetK W w0 k A c ls l) (hb : Below W.heap.size W W') : NetK W' w0 k A c ls l := by
  have := h.low.size
  have := h.box.lt
  exact ⟨h.low.trans (hb.mono h.low.size), h.box.keep (hb.block _ h.box.lt), own_keep h.own fun g hg => hb.block g (h.own.lt g hg).2, h.ds, fun x hx => (h.under x hx).below hb, (hb.block _ (by omega)).trans h.wants⟩
theorem arr_fin {c : Nat} {k : Nat} {A : Option Addr} {mb : Nat} (v : Value) (Z : List Value) : (Value.slice A k c :: .map (some mb) :: Z).set 0 v = v :: .map (some mb) :: Z := rfl
theorem heap_new (X : World) (o : Obj) (nb : Nat) (h : nb = X.heap.size) : (X.alloc o).heap[nb]? = some o := by subst h; exact heap_alloc_new X o
theorem NetK.push {W W3 W4 w0 : World} {k c c3 c' : Nat} {A A3 A' : Option Addr} {ls : List Dmm} {l : List Dmi} {o : Obj} (h : NetK W w0 k A c ls l) (hk : k < l.length) (hb3 : Below W.heap.size W W3)
    (hown3 : W3.ownsRow W.heap.size 3 1 (.slice A3 l[k].u.length c3) l[k].u.length (ints l[k].u)) (hgood : goodAt k l[k].u) (hg : (W3.alloc o).grownBy W4 (Value.slice A k c).ownBlock)
    (hown : W4.ownsRow (w0.heap.size + 2) 57 2 (.slice A' (k + 1) c') (k + 1) (dmCells ls ++ [.slice A3 l[k].u.length c3, .int .u8 (l[k].t : Int)])) :
    NetK (W4.setCell ⟨w0.heap.size + 1, 0, none⟩ (.slice A' (k + 1) c')) w0 (k + 1) A' c' (ls ++ [⟨toDm l[k], A3, c3⟩]) l := by
  have h3 := h.below hb3
  have s0 := h.low.size
  have s1 := h.box.lt
  have s2 := hb3.size
  have hap : ∀ g, (Value.slice A k c).ownBlock = some g → w0.heap.size + 2 ≤ g ∧ g < W3.heap.size := fun g hg => h3.own.lt g hg
  have hkeep : ∀ g, g < W3.heap.size → (Value.slice A k c).ownBlock ≠ some g → g ≠ w0.heap.size + 1 → (W4.setCell ⟨w0.heap.size + 1, 0, none⟩ (.slice A' (k + 1) c')).heap[g]? = W3.heap[g]? := fun g h1 h2 h4 => by
    rw [Below.heap_setCell _ _ _ _ h4, hg.block g (by simp; omega) (fun e => h2 e.symm), Below.heap_alloc _ _ _ h1]
  have hno : ∀ g, g < w0.heap.size + 2 → (Value.slice A k c).ownBlock ≠ some g := fun g h1 h2 => by have := (hap g h2).1; omega
  have hap3 : ∀ g ys, RowAt W3 g 3 ys → (Value.slice A k c).ownBlock ≠ some g := fun g ys hr => own_apart h3.own hr (by decide)
  refine ⟨?_, ?_, ?_, ?_, ?_, ?_⟩
  · refine ((h3.low.alloc (by omega) o).grown hg (by simp; omega) (fun g hg => by have := (hap g hg).1; omega)).setCell (p := ⟨w0.heap.size + 1, 0, none⟩) (by simp) _
  · have hb := (h3.box.keep (w' := W4) (by rw [hg.block _ (by simp; omega) (fun e => hno _ (by omega) e.symm), Below.heap_alloc _ _ _ (by omega)])).store 0 (.slice A' (k + 1) c')
    exact hb
  · have e : dmCells (ls ++ [⟨toDm l[k], A3, c3⟩]) = dmCells ls ++ [.slice A3 l[k].u.length c3, .int .u8 (l[k].t : Int)] := by simp [dmCells, Dmm.cells, toDm]
    rw [e]
    exact ownsRow_setCell_below hown (a := ⟨w0.heap.size + 1, 0, none⟩) (by simp) _
  · rw [List.take_succ_eq_append_getElem hk, List.map_append, ← h.ds]
    simp [dsOf]
  · intro x hx
    rcases List.mem_append.1 hx with hx | hx
    · exact (h3.under x hx).keep2 fun g hb hr => hkeep g hr.lt (hap3 _ _ hr) (by omega)
    · rw [List.mem_singleton] at hx
      subst hx
      have hnn : ints l[k].u = nats (l[k].u.map Int.toNat) := ints_nats fun x hx => by
        obtain ⟨j, hj, rfl⟩ := List.getElem_of_mem hx
        exact (hgood.2 j hj).1
      have hv := Vec.of_own hown3
      rw [hnn] at hv
      exact (hv.mono (B' := w0.heap.size + 2) (by omega)).keep2 fun g hb hr => hkeep g hr.lt (hap3 _ _ hr) (by omega)
  · rw [hkeep _ (by omega) (hno _ (by omega)) (by omega)]
    exact h3.wants
theorem NetK.net {W w0 : World} {k c : Nat} {A : Option Addr} {ls : List Dmm} {l : List Dmi} (h : NetK W w0 k A c ls l) (hk : k = l.length) :
    NetAt W (w0.heap.size + 1) w0.heap.size 0 k A c ls (fun _ _ => 0) (fun _ => 0) ∧ dsOf ls = l.map toDm := by
  have e : dsOf ls = l.map toDm := by rw [h.ds, hk, List.take_length]
  have hl : ls.length = k := by have := congrArg List.length e; rw [ds_len, List.length_map] at this; omega
  have s1 := h.box.lt
  refine ⟨⟨h.box, by omega, hl.symm, ⟨own_seg h.own, fun x hx => (h.under x hx).seg (Nat.le_refl _)⟩, ⟨fun hne b off hA => ?_, fun x hx hne b off hA => ?_⟩, ?_⟩, e⟩
  · obtain ⟨g, hA', hb, _⟩ := own_head h.own (by have := List.length_pos_iff.2 hne; omega)
    rw [hA] at hA'
    injection hA' with hA'
    injection hA' with hA'
    omega
  · obtain ⟨g, hA', hb, _⟩ := h.under x hx (by intro e; have := congrArg List.length e; unfold nats at this; rw [List.length_map] at this; exact hne (List.eq_nil_of_length_eq_zero this))
    rw [hA] at hA'
    injection hA' with hA'
    injection hA' with hA'
    omega
  · refine (wants_made w0 k).block ?_
    rw [h.wants, heap_alloc_new]
theorem goodAt.step {i k : Nat} {u : List Int} (h : ∀ j (hj : j < u.length), j < k → 0 ≤ u[j] ∧ u[j] < (i : Int) ∧ u[j] ∉ u.take j) (hk : k < u.length) (h1 : 0 ≤ u[k]) (h2 : u[k] < (i : Int)) (h3 : u[k] ∉ u.take k) : ∀ j (hj : j < u.length), j < k + 1 → 0 ≤ u[j] ∧ u[j] < (i : Int) ∧ u[j] ∉ u.take j := fun j hj hjk => by
  rcases (show j < k ∨ j = k by omega) with h4 | rfl
  · exact h j hj h4
  · exact ⟨h1, h2, h3⟩
set_option maxRecDepth 100000 in
set_option maxHeartbeats 4000000 in
theorem new_any (A : Option Addr) (cap : Nat) (l : List Dmi) (n : Nat) (hn : n = l.length) (w : World) (hs : Domi w w.heap.size A l) :
    Calls Try.prog 9 #[.slice A n cap] w fun e w' => Below w.heap.size w w' ∧ ((¬ mayD l ∧ e = .returned (.tuple #[.pointer none, .int .i64 200])) ∨
      (mayD l ∧ e = .returned (.tuple #[.pointer (some ⟨w.heap.size + 1, 0, none⟩), .int .i64 0]) ∧ ∃ Ad cd ls, NetAt w' (w.heap.size + 1) w.heap.size 0 n Ad cd ls (fun _ _ => 0) (fun _ => 0) ∧ dsOf ls = l.map toDm)) := by
  have hz := zero62
  obtain ⟨Z, hZ⟩ : ∃ Z, Z = arr fun _ => 0 := ⟨_, rfl⟩
  rw [← hZ] at hz
  have hmk : ∀ w : World, (Instr.makeMap 59 none).run Try.prog w = .ok (.map (some w.heap.size)) (w.alloc (.map #[] 0)) := fun w => by rfl
  have Hn := Lib.hid hn
  have HZ := Lib.hid hZ
  have HS := Lib.hid hs
  clear hn hZ hs
  by_cases h256 : 256 < n
  · have hi : (256 : Int) < (n : Int) := by omega
    clear hz hmk
    go_enter Try.func9, Try.ntmps9
    go_wp2_with fail
    go_ret2
    exact ⟨Below.refl _ _, .inl ⟨fun h => by have := h.1; have := Hn.out; omega, by rfl⟩⟩
  · have hi : ¬ (256 : Int) < (n : Int) := by omega
    go_enter Try.func9, Try.ntmps9
    go_wp2_with fail
    have hk0 : NetK ((w.alloc (.map #[] 0)).alloc (.cells (.slice none 0 0 :: .map (some w.heap.size) :: Z).toArray 62)) w 0 none 0 [] l := by
      refine ⟨((Below.refl _ _).alloc (Nat.le_refl _) _).alloc (by simp) _, ⟨_, heap_new _ _ _ (by simp), ?_⟩, World.ownsRow_nil _ _ _ _, by rfl, (fun x hx => by cases hx), ?_⟩
      · rw [HZ.out]; exact List.take_of_length_le (Nat.le_refl _)
      · rw [Below.heap_alloc _ _ _ (by simp), heap_alloc_new]
    have HK0 := Lib.hid hk0
    clear hk0 hmk hz
    go_loopw [17] (fun iv wr => ∃ (k : Nat) (Ak : Option Addr) (ck : Nat) (ls : List Dmm), k ≤ n ∧ iv = .int .i64 k ∧ (∀ i (h : i < l.length), i < k → goodAt i l[i].u) ∧ NetK wr w k Ak ck ls l) (fun iv _ => n - (intOf iv).toNat)
    case atStart => exact ⟨0, none, 0, [], by omega, rfl, fun i h hi => by omega, HK0.out⟩
    case round =>
      obtain ⟨k, Ak, ck, ls, hk, rfl, hgood, hnk⟩ := hrel
      clear HK0 HZ
      have HGOOD := Lib.hid hgood
      have HNK := Lib.hid hnk
      clear hgood hnk
      by_cases hkn : k < n
      · have hkl : k < l.length := by rw [← Hn.out]; exact hkn
        have hki : (k : Int) < (n : Int) := by omega
        obtain ⟨b, off, rfl, hbB, x0, x1, hun⟩ := (HS.out.below HNK.out.low).at_ hkl
        have HUN := Lib.hid hun
        obtain ⟨m, hm⟩ : ∃ m, m = l[k].u.length := ⟨_, rfl⟩
        rw [← hm] at x0
        have HM := Lib.hid hm
        clear hm hun
        have hcap : m ≤ l[k].c := by have := HS.out.cap _ (List.getElem_mem hkl); have := HM.out; omega
        obtain ⟨a, ha⟩ : ∃ a, a = l[k].A := ⟨_, rfl⟩
        obtain ⟨c, hc⟩ : ∃ c, c = l[k].c := ⟨_, rfl⟩
        obtain ⟨t, ht⟩ : ∃ t, t = l[k].t := ⟨_, rfl⟩
        obtain ⟨u, hu⟩ : ∃ u, u = l[k].u := ⟨_, rfl⟩
        rw [← ha, ← hc] at x0
        rw [← ht] at x1
        rw [← hc] at hcap
        have hun1 := HUN.out
        have hm1 := HM.out
        rw [← hu] at hm1
        rw [← hu, ← ha] at hun1
        have HUN1 := Lib.hid hun1
        have HM1 := Lib.hid hm1
        have HU := Lib.hid hu
        have HT := Lib.hid ht
        clear ha hc ht hu hun1 hm1 HUN HM
        by_cases h8 : 8 < m
        · have h8i : (8 : Int) < (m : Int) := by omega
          go_wp2_with fail
          go_ret2
          refine ⟨HNK.out.low.alloc HNK.out.low.size _, .inl ⟨fun h => ?_, by rfl⟩⟩
          have := (h.2 k hkl).1
          have := HM1.out
          rw [HU.out] at this
          omega
        · have h8i : ¬ (8 : Int) < (m : Int) := by omega
          go_wp2_with fail
          have hn1 := HNK.out.below (W' := wr.alloc (.cells #[.slice a m c, .int .u8 (t : Int)] 57)) ((Below.refl _ _).alloc (Nat.le_refl _) _)
          have hg1 : wr.heap.size < (wr.alloc (.cells #[.slice a m c, .int .u8 (t : Int)] 57)).heap.size := by simp
          have hg2 : w.heap.size + 2 ≤ wr.heap.size := by have := HNK.out.box.lt; omega
          have hrow : RowAt (wr.alloc (.cells #[.slice a m c, .int .u8 (t : Int)] 57)) wr.heap.size 57 [.slice a m c, .int .u8 (t : Int)] := ⟨_, heap_alloc_new _ _, rfl⟩
          have hno : ∀ g', (Value.slice Ak k ck).ownBlock = some g' → w.heap.size + 2 ≤ g' ∧ g' < wr.heap.size := fun g' h => HNK.out.own.lt g' h
          have hun2 := HUN1.out.alloc HNK.out.low.size (.cells #[.slice a m c, .int .u8 (t : Int)] 57)
          generalize wr.alloc (.cells #[.slice a m c, .int .u8 (t : Int)] 57) = w1 at hn1 hg1 hrow hun2 ⊢
          generalize wr.heap.size = g at hg1 hg2 hrow hno ⊢
          have HNO := Lib.hid hno
          clear hno
          have y0 := hrow.cell (k := 0) (by simp)
          have y1 := hrow.cell (k := 1) (by simp)
          simp only [List.getElem?_cons_succ, List.getElem?_cons_zero] at y0 y1
          have HN1 := Lib.hid hn1
          have HROW := Lib.hid hrow
          have HUN2 := Lib.hid hun2
          clear hn1 hrow hun2 x0 x1 HUN1 HNK
          go_loopw [29] (fun jv wr1 => ∃ j : Nat, j ≤ m ∧ jv = .int .i64 j ∧ (∀ i (h : i < u.length), i < j → 0 ≤ u[i] ∧ u[i] < (k : Int) ∧ u[i] ∉ u.take i) ∧ wr1 = w1) (fun jv _ => m - (intOf jv).toNat)
          case atStart => exact ⟨0, by omega, rfl, fun i h hi => by omega, rfl⟩
          case round =>
            obtain ⟨j, hj, rfl, hjs, rfl⟩ := hrel
            have HJS := Lib.hid hjs
            clear hjs
            by_cases hjm : j < m
            · have hju : j < u.length := by rw [← HM1.out]; exact hjm
              have hji : (j : Int) < (m : Int) := by omega
              obtain ⟨b', off', rfl, _, z0⟩ := HUN2.out.ints hju
              obtain ⟨v, hv⟩ : ∃ v, v = u[j] := ⟨_, rfl⟩
              rw [← hv] at z0
              have HV := Lib.hid hv
              clear hv
              by_cases hv0 : v < 0
              · go_wp2_with fail
                go_ret2
                refine ⟨HN1.out.low, .inl ⟨fun h => ?_, by rfl⟩⟩
                have h2 := (h.2 k hkl).2
                rw [← HU.out] at h2
                have := (h2 j hju).1
                rw [← HV.out] at this
                omega
              · by_cases hvk : (k : Int) ≤ v
                · go_wp2_with fail
                  go_ret2
                  refine ⟨HN1.out.low, .inl ⟨fun h => ?_, by rfl⟩⟩
                  have h2 := (h.2 k hkl).2
                  rw [← HU.out] at h2
                  have := (h2 j hju).2.1
                  rw [← HV.out] at this
                  omega
                · have hct := contains_any (some ⟨b', off', none⟩) c (u.take j) j (by rw [List.length_take]; omega) (by omega) v wr w.heap.size (seg_take HUN2.out j)
                  have HCT := Lib.hid hct
                  clear hct
                  by_cases hin : v ∈ u.take j
                  · have hdc : decide (v ∈ u.take j) = true := decide_eq_true hin
                    go_wp2_with (go_at_call 22; refine HCT.out.mono ?_; rw [hdc]; rintro e w2 ⟨rfl, rfl⟩)
                    go_ret2
                    refine ⟨HN1.out.low, .inl ⟨fun h => ?_, by rfl⟩⟩
                    have h2 := (h.2 k hkl).2
                    rw [← HU.out] at h2
                    have := (h2 j hju).2.2
                    rw [← HV.out] at this
                    exact this hin
                  · have hdc : decide (v ∈ u.take j) = false := decide_eq_false hin
                    go_wp2_with (go_at_call 22; refine HCT.out.mono ?_; rw [hdc]; rintro e w2 ⟨rfl, rfl⟩)
                    refine ⟨⟨j + 1, by omega, by go_num, ?_, by first | rfl | trivial⟩, by simp [intOf]; omega⟩
                    exact goodAt.step HJS.out hju (by rw [← HV.out]; omega) (by rw [← HV.out]; omega) (by rw [← HV.out]; exact hin)
            · obtain rfl : j = m := by omega
              go_wp2_with fail
              have hgk : goodAt k l[k].u := by
                rw [← HU.out]
                have := HM1.out
                exact ⟨by omega, fun i hi => HJS.out i hi (by omega)⟩
              have HGK := Lib.hid hgk
              have hcl := clone_any a c u j HM1.out wr.drew w.heap.size HN1.out.low.size HUN2.out (by omega)
              have HCL := Lib.hid hcl
              have c0 := HN1.out.box.cell (k := 0) (by simp)
              simp only [List.getElem?_cons_zero] at c0
              have c0' : wr.drew.cell? ⟨w.heap.size + 1, 0, none⟩ = some (.slice Ak k ck) := c0
              clear hgk hcl
              obtain ⟨i0, ei, ez0, ez1, ez2⟩ := info_parts Try.info57
              have m2 : k + 1 ≤ maxLen := by unfold maxLen; omega
              have m3 : (k + 1) * 32 ≤ 140737488355328 := by omega
              have y0' : wr.drew.cell? ⟨g, 0, none⟩ = some (.slice a j c) := y0
              have y1' : wr.drew.cell? ⟨g, 1, none⟩ = some (.int .u8 (t : Int)) := y1
              go_region_law (first
                | (refine step_append_seg rfl (.tmp 54) (.tmp 61) 31 rfl (w.heap.size + 2) 57 i0 _ 2 32 Try.underlying31 ei ez0 ez1 ez2 rfl (by decide) (.slice Ak k ck) k (dmCells ls) (by simp [Act.eval]) (World.ownsRow.alloc (w := w3) (by exact (HN1.out.below (HB3.out)).own) _) (w3.heap.size + 1) (some ⟨w3.heap.size, 0, none⟩) 1 1 [.slice A3 j c3, .int .u8 (t : Int)] (by simp [Act.eval]) rfl (by exact seg_new _ 57 #[.slice A3 j c3, .int .u8 (t : Int)]) (by simp [Value.oneCell']) m2 m3 (by simp; omega) ?_; intro v4 w4 hown4 hg4 _
                   obtain ⟨A4, c4, rfl⟩ := own_shape hown4
                   have q1 : ∀ e : some g = (Value.slice Ak k ck).ownBlock, False := fun e => by have := (HNO.out g e.symm).2; omega
                   have q2 : ∀ e : some (w.heap.size + 1) = (Value.slice Ak k ck).ownBlock, False := fun e => by have := (HNO.out _ e.symm).1; omega
                   have q3 : w4.heap[w.heap.size + 1]? = w3.heap[w.heap.size + 1]? := (hg4.block _ (by simp; omega) q2).trans (Below.heap_alloc _ _ _ (by omega))
                   have q4 : w4.heap[g]? = w3.heap[g]? := (hg4.block _ (by simp; omega) q1).trans (Below.heap_alloc _ _ _ (by omega))
                   have x0 : w4.cell? ⟨g, 0, none⟩ = some (.slice a j c) := (World.cell?_of_block q4).trans z0
                   have x1 : w4.cell? ⟨g, 1, none⟩ = some (.int .u8 (t : Int)) := (World.cell?_of_block q4).trans z1
                   have x2 : w4.cell? ⟨w.heap.size + 1, 0, none⟩ = some (.slice Ak k ck) := (World.cell?_of_block q3).trans z6
                   have x3 : w4.frozen? ⟨w.heap.size + 1, 0, none⟩ = false := ((HN1.out.below HB3.out).box.keep q3).frozen 0
                   have HOWN4 := Lib.hid hown4
                   have HG4 := Lib.hid hg4
                   clear hown4 hg4 q1 q2 q3 q4)
                | (go_simp; go_at_call 23; refine HCL.out.mono ?_; rintro e w3 ⟨A3, c3, rfl, hown3, hb3⟩
                   have z0 := (hb3.cell (p := ⟨g, 0, none⟩) (by exact hg1)).trans y0
                   have z1 := (hb3.cell (p := ⟨g, 1, none⟩) (by exact hg1)).trans y1
                   have z2 : g < w3.heap.size := Nat.lt_of_lt_of_le hg1 hb3.size
                   have z6 : w3.cell? ⟨w.heap.size + 1, 0, none⟩ = some (.slice Ak k ck) := (hb3.cell (p := ⟨w.heap.size + 1, 0, none⟩) HN1.out.box.lt).trans c0
                   have z8 : (w3.alloc (.cells #[.slice A3 j c3, .int .u8 (t : Int)] 57)).cell? ⟨g, 0, none⟩ = some (.slice a j c) := (World.cell?_alloc_lt _ _ _ z2).trans z0
                   have z9 : (w3.alloc (.cells #[.slice A3 j c3, .int .u8 (t : Int)] 57)).cell? ⟨g, 1, none⟩ = some (.int .u8 (t : Int)) := (World.cell?_alloc_lt _ _ _ z2).trans z1
                   have z7 : (w3.alloc (.cells #[.slice A3 j c3, .int .u8 (t : Int)] 57)).cell? ⟨w.heap.size + 1, 0, none⟩ = some (.slice Ak k ck) := (World.cell?_alloc_lt _ _ _ (by show w.heap.size + 1 < w3.heap.size; omega)).trans z6
                   have HOWN3 := Lib.hid hown3
                   have hb3' : Below wr.heap.size wr w3 := ⟨hb3.os, hb3.tape, hb3.output, hb3.size, hb3.block⟩
                   have HB3 := Lib.hid hb3'
                   clear hb3'
                   clear hown3 hb3))
              all_goals go_wp2_with fail
              all_goals
                clear HCL y0 y1 y0' y1' c0 c0' HUN2 HJS HROW m2 m3
                have e1 := HU.out
                have e2 := HM1.out
                have e3 := HT.out
                subst e1
                subst e2
                subst e3
                refine ⟨⟨k + 1, A4, c4, ls ++ [⟨toDm l[k], A3, c3⟩], by omega, by go_num, fun i h hi => ?_, NetK.push HN1.out hkl HB3.out HOWN3.out HGK.out HG4.out HOWN4.out⟩, by simp [intOf]; omega⟩
                rcases (show i < k ∨ i = k by omega) with h2 | rfl
                · exact HGOOD.out i h h2
                · exact HGK.out
      · obtain rfl : k = n := by omega
        go_wp2_with fail
        go_ret2
        obtain ⟨h1, h2⟩ := HNK.out.net Hn.out
        exact ⟨HNK.out.low, .inr ⟨⟨by have := Hn.out; omega, fun i h => HGOOD.out i h (by have := Hn.out; omega)⟩, by rfl, Ak, ck, ls, h1, h2⟩⟩
end Go.Proofs.Ytghcemfffhjmjaa
