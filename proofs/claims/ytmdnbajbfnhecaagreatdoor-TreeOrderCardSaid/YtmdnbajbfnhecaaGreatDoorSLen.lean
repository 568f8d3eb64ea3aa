/- A row of the call's own, put in order by the library. The library's sort of props and of places: the contracts. The kids' rows, the boxes and the list that is put together, while a tree is put in order. A tree in order has as many nodes as before. No program in sight. -/
import Derived.Test.YtmdnbajbfnhecaaGreatDoorOwn
import Derived.Test.YtmdnbajbfnhecaaGreatDoorSortLaw
import Derived.Shelf.SlSortCmp.WholeK
import Derived.Shelf.SlSortCmp.Whole1
import Derived.Test.YtmdnbajbfnhecaaGreatDoorShelfS
import Derived.Test.YtmdnbajbfnhecaaGreatDoorShelf
import Derived.Test.YtmdnbajbfnhecaaGreatDoorLow
import Derived.Test.YtmdnbajbfnhecaaGreatDoorAC
import Derived.Test.YtmdnbajbfnhecaaGreatDoorFindLaw
set_option linter.unusedVariables false
namespace Go.Proofs.YtmdnbajbfnhecaaGreatDoor
open Go.RowKit Go.Sort Go.Lib
theorem putRow_map {α : Type} [Inhabited α] (enc : α → Value) (w : World) (blk off : Nat) (d : Array α) : putRow enc w blk off d = putRow id w blk off (d.map enc) := by
  unfold putRow
  refine mapBlock_congr _ _ _ _ fun c _ _ _ => ?_
  unfold putCells
  apply Array.ext_getElem?
  intro k
  simp only [Array.getElem?_mapIdx, Array.size_map]
  cases c[k]? with
  | none => rfl
  | some y =>
    simp only [Option.map_some]
    split
    · rename_i hk
      rw [getElem!_pos d _ (by omega), getElem!_pos (d.map enc) _ (by simp; omega)]
      simp
    · rfl
theorem flatK_flat {α : Type} [Inhabited α] (enc : α → List Value) (k : Nat) (hk : ∀ x, (enc x).length = k) (d : Array α) : flatK enc k d = (d.toList.flatMap enc).toArray := by
  have hl := flat_length enc k hk d.toList
  refine ext_get! (by rw [size_flatK]; simp [hl]) fun t ht => ?_
  rw [size_flatK] at ht
  rw [get_flatK _ _ _ _ ht]
  have hk0 : 0 < k := by
    rcases Nat.eq_zero_or_pos k with h | h
    · subst h; simp at ht
    · exact h
  have h1 : t / k < d.toList.length := by
    rw [Array.length_toList]
    exact (Nat.div_lt_iff_lt_mul hk0).2 ht
  have h2 : t % k < k := Nat.mod_lt _ hk0
  have h3 := flat_get enc k hk d.toList (t / k) (t % k) h1 h2
  have h4 : t / k * k + t % k = t := by have := Nat.div_add_mod t k; rw [Nat.mul_comm] at this; omega
  rw [h4] at h3
  have h5 : t < (d.toList.flatMap enc).toArray.size := by simp only [List.size_toArray]; rw [hl, Array.length_toList]; exact ht
  rw [getElem!_pos d _ (by simpa using h1), getElem!_pos _ t h5, getElem!_pos _ (t % k) (by rw [hk]; exact h2)]
  simp only [List.getElem_toArray]
  have h6 : (d.toList.flatMap enc)[t]? = some ((d.toList.flatMap enc)[t]'(by simpa using h5)) := List.getElem?_eq_getElem _
  rw [h6] at h3
  rw [List.getElem?_eq_getElem (by rw [hk]; exact h2)] at h3
  injection h3 with h3
  rw [h3]
  simp
theorem own_holds {w : World} {base : Nat} {e : TypeId} {size n g c : Nat} {xs : List Value} (h : w.ownsRow base e size (.slice (some ⟨g, 0, none⟩) n c) n xs) : Holds id w g 0 xs.toArray := by
  intro j hj
  have hj' : j < xs.length := by simpa using hj
  rcases h.2 with ⟨h0, _⟩ | ⟨g', cap, cur, hv, _, hb, _, _, _, ht⟩
  · cases h0
  injection hv with hv
  injection hv with hv
  injection hv with hv
  subst hv
  refine ⟨?_, by simp [World.frozen?, hb]⟩
  have hc := h.cells (g := g) rfl j xs[j] (List.getElem?_eq_getElem hj')
  rw [addr_add] at hc
  rw [hc, getElem!_pos _ j hj]
  simp
/-- Behind the library's sort: the same row with other things in it; nothing else of what lay. -/
theorem own_put {w : World} {base : Nat} {e : TypeId} {size n g c : Nat} {xs ys : List Value} (h : w.ownsRow base e size (.slice (some ⟨g, 0, none⟩) n c) n xs) (hl : ys.length = xs.length) (m : Nat) (os : Array Obj) :
    (grow (putRow id (Sort.ahead w m) g 0 ys.toArray) os).ownsRow base e size (.slice (some ⟨g, 0, none⟩) n c) n ys ∧ Frame (fun k => k = g) w (grow (putRow id (Sort.ahead w m) g 0 ys.toArray) os) := by
  have h0 := h.1
  rcases h.2 with ⟨hv, _⟩ | ⟨g', cap, cur, hv, hbase, hb, h1, h2, h3, ht⟩
  · cases hv
  injection hv with hv _ hc
  injection hv with hv
  injection hv with hv
  subst hv hc
  have hg : g < w.heap.size := lt_of_heap hb
  refine ⟨⟨by rw [hl]; exact h0, .inr ⟨g, c, putCells id 0 ys.toArray cur, rfl, hbase, ?_, h1, h2, by simp [putCells, h3], ?_⟩⟩, ?_⟩
  · rw [heap_grow_old _ _ (by simpa [putRow, mapBlock] using hg)]
    simp [putRow, mapBlock, Sort.ahead, Array.getElem?_modify, hb, onCells]
  · have hle : ys.length ≤ cur.size := by rw [hl, h0, h3]; exact Nat.mul_le_mul_right _ h1
    rw [← h0, ← hl]
    apply List.ext_getElem?
    intro j
    by_cases hj : j < ys.length
    · rw [List.getElem?_take_of_lt hj, Array.getElem?_toList]
      simp [putCells, hj, show j < cur.size by omega]
    · rw [List.getElem?_take_eq_none (by omega), List.getElem?_eq_none (by omega)]
  · refine ⟨rfl, rfl, rfl, by simp [putRow, mapBlock, Sort.ahead], fun k hk hne => ?_⟩
    rw [heap_grow_old _ _ (by simpa [putRow, mapBlock] using hk)]
    have : g ≠ k := fun e => hne e.symm
    simp [putRow, mapBlock, Sort.ahead, Array.getElem?_modify, this]
theorem extract_all {α : Type} (d : Array α) : (d.extract 0 d.size).toList = d.toList := by simp
theorem permIn_all {α : Type} [Inhabited α] {d d' : Array α} (h : PermIn 0 d.size d d') : d'.toList.Perm d.toList := by
  obtain ⟨h1, _, h3⟩ := h
  have h4 : (d'.extract 0 d.size).toList = d'.toList := by rw [← h1]; exact extract_all d'
  rw [h4, extract_all] at h3
  exact h3
/-- What the library's sort leaves, by a key whose values are apart. -/
theorem sorted_by {α : Type} [Inhabited α] {k : α → List UInt8} {d d' : Array α} (ha : Apart k d.toList) (hp : PermIn 0 d.size d d') (hs : SortedIn (ltK k) 0 d.size d') : d'.toList = sortN k d.toList := by
  have hpp := permIn_all hp
  have ha' : Apart k d'.toList := by
    unfold Apart at *
    exact (hpp.symm.pairwise_iff fun h => h.symm).mp ha
  refine sort_is k ha hpp (up_of_sorted k ?_ ha')
  rw [hp.1]
  exact hs
end Go.Proofs.YtmdnbajbfnhecaaGreatDoor

set_option linter.unusedVariables false
namespace Go.Proofs.YtmdnbajbfnhecaaGreatDoor
open Go.RowKit Go.Sort Go.Lib
instance : Inhabited Pr := ⟨⟨ByteArray.empty, ByteArray.empty⟩⟩
def prKey (q : Pr) : List UInt8 := q.n.data.toList
theorem natsV_len (l : List Nat) : (natsV l).length = l.length := by simp [natsV]
theorem cmpP_any (x y : Pr) (W : World) : Calls Tryz.prog 30 #[.agg #[.string x.n, .string x.v], .agg #[.string y.n, .string y.v]] W fun e w' => e = .returned (.int .i64 (compareBytes (prKey x) (prKey y))) ∧ ∃ q os', w' = grow (W.drewN q) os' := by
  have hcon := fun W' => Tryz.strings_Compare x.n y.n W'
  unfold prKey
  generalize compareBytes x.n.data.toList y.n.data.toList = r at hcon ⊢
  go_enter Tryz.func30, Tryz.ntmps30
  go_wp2_with (go_at_call 31; refine (hcon _).mono ?_; rintro e w' ⟨rfl, rfl⟩)
  go_ret
  exact ⟨rfl, 0, _, by rw [alloc_eq_grow, alloc_eq_grow, grow_grow]; rfl⟩
theorem cmpI_any (A : Option Addr) (cap n : Nat) (l : List Nm) (hn : n = l.length) (bl : Nat) (W : World) (hbox : W.cell? ⟨bl, 0, none⟩ = some (.slice A n cap)) (B : Nat) (hs : Nodes W B A l) (a b : Nat) (ha : a < n) (hb : b < n) :
    Calls Tryz.prog 33 #[.int .i64 a, .int .i64 b, .pointer (some ⟨bl, 0, none⟩)] W fun e w' => e = .returned (.int .i64 (compareBytes (nameN (dat l) a) (nameN (dat l) b))) ∧ ∃ q, w' = W.drewN q := by
  have hal : a < l.length := by omega
  have hbl : b < l.length := by omega
  obtain ⟨g, off, rfl, hgB, _, x1, _, _⟩ := hs.at_ hal
  obtain ⟨g', off', e, _, _, y1, _, _⟩ := hs.at_ hbl
  injection e with e
  injection e with e1 e2
  subst e1 e2
  have en : nameN (dat l) a = l[a].d.n.data.toList := by
    unfold nameN
    rw [List.getElem?_eq_getElem (by rw [dat_len]; exact hal)]
    simp only [dat_get l hal]
  have en' : nameN (dat l) b = l[b].d.n.data.toList := by
    unfold nameN
    rw [List.getElem?_eq_getElem (by rw [dat_len]; exact hbl)]
    simp only [dat_get l hbl]
  rw [en, en']
  have hcon := fun W' => Tryz.strings_Compare l[a].d.n l[b].d.n W'
  generalize compareBytes l[a].d.n.data.toList l[b].d.n.data.toList = r at hcon ⊢
  generalize l[a].d.n = s at *
  generalize l[b].d.n = s' at *
  have hai : (a : Int) < (n : Int) := by omega
  have hbi : (b : Int) < (n : Int) := by omega
  clear hs hn
  go_enter Tryz.func33, Tryz.ntmps33
  go_wp2_with fail
  go_quiet (first | (go_at_call 31; refine (hcon _).mono ?_; rintro e w' ⟨rfl, rfl⟩; exact ⟨rfl, _, rfl⟩))
  go_wp2_with fail
  go_ret
  exact ⟨rfl, _, rfl⟩
/-- A slice's own block. -/
def Own1 (A : Option Addr) (g : Nat) : Prop := (Value.slice A 0 0).ownBlock = some g
theorem own1_val {A : Option Addr} {n c g : Nat} : (Value.slice A n c).ownBlock = some g ↔ Own1 A g := by cases A <;> exact Iff.rfl
theorem sort_perm {α : Type} (k : α → List UInt8) : ∀ l : List α, (sortN k l).Perm l
  | [] => .refl _
  | x :: r => (ins_perm k x _).trans ((sort_perm k r).cons x)
theorem sort_len {α : Type} (k : α → List UInt8) (l : List α) : (sortN k l).length = l.length := (sort_perm k l).length_eq
theorem ltOf_ltK {α : Type} (k : α → List UInt8) : ltOf (fun x y => compareBytes (k x) (k y)) = ltK k := by
  funext x y
  rfl
theorem psort_any (A : Option Addr) (n c : Nat) (ps : List Pr) (w : World) (base : Nat) (hown : w.ownsRow base 57 2 (.slice A n c) n (prCells ps)) (ha : Apart prKey ps) (hn : n * 32 ≤ 140737488355328) :
    Calls Tryz.prog 29 #[.slice A n c, .func (.func 30) #[] #[]] w fun e w' => e = .returned (.tuple #[]) ∧ w'.ownsRow base 57 2 (.slice A n c) n (prCells (sortN prKey ps)) ∧ Frame (Own1 A) w w' := by
  have hl : ps.length = n := by have := hown.1; rw [prCells_len] at this; omega
  rcases A with _ | ⟨g, off, spot⟩
  · have hn0 : n = 0 := by
      rcases hown.2 with ⟨_, h⟩ | ⟨g, cap, cur, hv, _⟩
      · exact h
      · cases hv
    subst hn0
    have hps : ps = [] := List.eq_nil_of_length_eq_zero hl
    subst hps
    have h := AnyF.slices_SortFunc_none (P := Tryz.prog) (ρ := Tryz.laysSP_ren) Tryz.laysSP none c (.func (.func 30) #[] #[]) w
    change Calls Tryz.prog 29 _ _ _ at h
    refine h.mono ?_
    rintro e w' ⟨he, rfl⟩
    exact ⟨he, hown, Frame.refl _ _⟩
  · have hg : off = 0 ∧ spot = none := by
      rcases hown.2 with ⟨h, _⟩ | ⟨g, cap, cur, hv, _⟩
      · cases h
      · injection hv with hv
        injection hv with hv
        injection hv with _ h1 h2
        exact ⟨h1, h2⟩
    obtain ⟨rfl, rfl⟩ := hg
    have hgl : g < w.heap.size := (hown.lt g rfl).2
    have hsz : ps.toArray.size = n := by simp [hl]
    have hH : HoldsK Pr.cells 2 w g 0 ps.toArray := by
      unfold HoldsK
      rw [flatK_flat Pr.cells 2 pr_len]
      exact own_holds hown
    have h := AnyQ.slices_SortFunc (P := Tryz.prog) (ρ := Tryz.laysSP_ren) Tryz.laysSP 2 Tryz.isAgg57 Tryz.sizeOf57 Pr.cells pr_len (fun x v hv => by
      simp [Pr.cells] at hv
      rcases hv with rfl | rfl <;> rfl) (fun x y => compareBytes (prKey x) (prKey y)) (by rw [ltOf_ltK]; exact key_swo prKey) 30 #[] g 0 c ps.toArray w (enters_of Tryz.func30 (by kernel_rfl) rfl)
      (fun _ _ _ _ x y => cmpP_any x y _) hH hgl (by rw [hsz]; omega)
    rw [hsz] at h
    change Calls Tryz.prog 29 _ _ _ at h
    refine h.mono ?_
    rintro e w' ⟨he, d', m, os, hp, hs, rfl⟩
    rw [← hsz, ltOf_ltK] at hs
    rw [← hsz] at hp
    have hd : d'.toList = sortN prKey ps := sorted_by (k := prKey) (d := ps.toArray) ha hp hs
    have hcells : flatK Pr.cells 2 d' = (prCells (sortN prKey ps)).toArray := by rw [flatK_flat Pr.cells 2 pr_len, hd]; rfl
    have := own_put hown (ys := prCells (sortN prKey ps)) (by rw [prCells_len, prCells_len, sort_len]) m os
    refine ⟨he, ?_, ?_⟩
    · unfold sortWorldK putRowK
      rw [hcells]
      exact this.1
    · unfold sortWorldK putRowK
      rw [hcells]
      exact this.2.mono fun i _ hi => by subst hi; rfl
theorem isort_any (A : Option Addr) (m c : Nat) (ks : List Nat) (w : World) (base : Nat) (hown : w.ownsRow base 3 1 (.slice A m c) m (natsV ks)) (Al : Option Addr) (cap n : Nat) (l : List Nm) (hn : n = l.length) (bl : Nat) (hbox : RowAt w bl 22 [.slice Al n cap])
    (B : Nat) (hB : B ≤ base) (hs : Nodes w B Al l) (hks : ∀ k ∈ ks, k < n) (ha : Apart (nameN (dat l)) ks) (hm : m < 4611686018427387904) :
    Calls Tryz.prog 32 #[.slice A m c, .func (.func 33) #[] #[.pointer (some ⟨bl, 0, none⟩)]] w fun e w' => e = .returned (.tuple #[]) ∧ w'.ownsRow base 3 1 (.slice A m c) m (natsV (sortN (nameN (dat l)) ks)) ∧ Frame (Own1 A) w w' := by
  have hl : ks.length = m := by have := hown.1; rw [natsV_len] at this; omega
  rcases A with _ | ⟨g, off, spot⟩
  · have hn0 : m = 0 := by
      rcases hown.2 with ⟨_, h⟩ | ⟨g, cap, cur, hv, _⟩
      · exact h
      · cases hv
    subst hn0
    have hps : ks = [] := List.eq_nil_of_length_eq_zero hl
    subst hps
    have h := AnyF.slices_SortFunc_none (P := Tryz.prog) (ρ := Tryz.laysSI_ren) { Tryz.laysSI with } none c (.func (.func 33) #[] #[.pointer (some ⟨bl, 0, none⟩)]) w
    change Calls Tryz.prog 32 _ _ _ at h
    refine h.mono ?_
    rintro e w' ⟨he, rfl⟩
    exact ⟨he, hown, Frame.refl _ _⟩
  · have hg : off = 0 ∧ spot = none := by
      rcases hown.2 with ⟨h, _⟩ | ⟨g, cap, cur, hv, _⟩
      · cases h
      · injection hv with hv
        injection hv with hv
        injection hv with _ h1 h2
        exact ⟨h1, h2⟩
    obtain ⟨rfl, rfl⟩ := hg
    have hgl : g < w.heap.size := (hown.lt g rfl).2
    have hgb : base ≤ g := (hown.lt g rfl).1
    rcases Nat.eq_zero_or_pos n with h0 | h0
    · have hps : ks = [] := by
        rcases ks with _ | ⟨k, r⟩
        · rfl
        · have := hks k (List.mem_cons_self ..); omega
      subst hps
      have : m = 0 := hl.symm
      subst this
      have h := AnyF.slices_SortFunc_none (P := Tryz.prog) (ρ := Tryz.laysSI_ren) { Tryz.laysSI with } (some ⟨g, 0, none⟩) c (.func (.func 33) #[] #[.pointer (some ⟨bl, 0, none⟩)]) w
      change Calls Tryz.prog 32 _ _ _ at h
      refine h.mono ?_
      rintro e w' ⟨he, rfl⟩
      exact ⟨he, hown, Frame.refl _ _⟩
    · let α := { k : Nat // k < n }
      haveI : Inhabited α := ⟨⟨0, h0⟩⟩
      let enc : α → Value := fun k => .int .i64 ((k.1 : Nat) : Int)
      let key : α → List UInt8 := fun k => nameN (dat l) k.1
      obtain ⟨ds, hds⟩ : ∃ ds : List α, ds.map (fun k => k.1) = ks := ⟨ks.attach.map fun k => ⟨k.1, hks k.1 k.2⟩, by simp⟩
      have hdl : ds.length = m := by rw [← hl, ← hds]; simp
      have hsz : ds.toArray.size = m := by simp [hdl]
      have hv : ∀ es : List α, natsV (es.map fun k => k.1) = es.map enc := fun es => by unfold natsV; simp [enc]
      have hH : Holds enc w g 0 ds.toArray := by
        intro j hj
        have hj' : j < ds.length := by simpa using hj
        have := own_holds hown j (by simp [natsV_len, hl, ← hdl, hj'])
        refine ⟨?_, this.2⟩
        rw [this.1, ← hds, hv]
        rw [getElem!_pos _ j (by simpa using hj'), getElem!_pos ds.toArray j hj]
        simp
      have hne : g ≠ bl := by
        intro e
        subst e
        rcases hown.2 with ⟨h, _⟩ | ⟨g', cap', cur, hv', _, hb, _⟩
        · cases h
        injection hv' with hv'
        injection hv' with hv'
        injection hv' with hv'
        subst hv'
        obtain ⟨cur', h2, _⟩ := hbox
        rw [hb] at h2
        injection h2 with h2
        injection h2 with _ h2
        cases h2
      have hcmp : CmpLays1 Tryz.prog 33 #[.pointer (some ⟨bl, 0, none⟩)] enc (fun x y => compareBytes (key x) (key y)) g 0 ds.toArray.size w := by
        refine CmpReads.lays (fun q os dk hdk x y => ?_)
        have hW := own_put hown (ys := dk.toList.map enc) (by rw [natsV_len, List.length_map, Array.length_toList, hdk, hsz, hl]) q os
        have hW2 : Frame (fun k => k = g) w (sortWorld enc w g 0 q dk os) := by
          unfold sortWorld
          rw [putRow_map]
          have : (dk.map enc) = (dk.toList.map enc).toArray := Array.toList_inj.mp (Array.toList_map ..)
          rw [this]
          exact hW.2
        refine cmpI_any Al cap n l hn bl _ ?_ B ⟨hs.seg.frame hW2 (by omega) (fun k hk e => by omega), fun x hx => (hs.props x hx).frame hW2 (by omega) (fun k hk e => by omega)⟩ x.1 y.1 x.2 y.2
        exact (hbox.frame hW2 (fun e => hne e.symm)).cell (k := 0) (by simp)
      have h := Any.slices_SortFunc (P := Tryz.prog) (ρ := Tryz.laysSI_ren) Tryz.laysSI enc (fun _ => rfl) (fun x y => compareBytes (key x) (key y)) (by rw [ltOf_ltK]; exact key_swo key) 33 #[.pointer (some ⟨bl, 0, none⟩)] g 0 c ds.toArray w (enters_of Tryz.func33 (by kernel_rfl) rfl) hcmp hH hgl (by rw [hsz]; exact hm)
      rw [hsz] at h
      change Calls Tryz.prog 32 _ _ _ at h
      refine h.mono ?_
      rintro e w' ⟨he, d', q, os, hp, hs2, rfl⟩
      rw [← hsz, ltOf_ltK] at hs2
      rw [← hsz] at hp
      have hak : Apart key ds := by
        unfold Apart at *
        rw [← hds, List.pairwise_map] at ha
        exact ha
      have hd : d'.toList = sortN key ds := sorted_by (k := key) (d := ds.toArray) hak hp hs2
      have hd2 : d'.toList.map (fun k => k.1) = sortN (nameN (dat l)) ks := by
        rw [hd]
        refine sort_is _ ha ((sort_perm key ds).map _ |>.trans (by rw [hds])) ?_
        have h3 := (sort_ok key ds hak).2
        unfold Up at *
        rw [List.pairwise_map]
        exact h3
      have hW := own_put hown (ys := natsV (sortN (nameN (dat l)) ks)) (by rw [natsV_len, natsV_len, sort_len]) q os
      have hcells : d'.map enc = (natsV (sortN (nameN (dat l)) ks)).toArray := by
        rw [← hd2, hv]
        exact Array.toList_inj.mp (Array.toList_map ..)
      refine ⟨he, ?_, ?_⟩
      · unfold sortWorld
        rw [putRow_map, hcells]
        exact hW.1
      · unfold sortWorld
        rw [putRow_map, hcells]
        exact hW.2.mono fun i _ hi => by subst hi; rfl
end Go.Proofs.YtmdnbajbfnhecaaGreatDoor

set_option linter.unusedVariables false
namespace Go.Proofs.YtmdnbajbfnhecaaGreatDoor
open Go.RowKit
/-- A row of places, as it lies. -/
structure Rk where
  A : Option Addr
  c : Nat
  row : List Nat
def Rk.val (x : Rk) : Value := .slice x.A x.row.length x.c
theorem own_ne {w : World} {base : Nat} {e e' : TypeId} {size n g' : Nat} {v : Value} {xs ys : List Value} (h : w.ownsRow base e size v n xs) (h' : RowAt w g' e' ys) (hne : e ≠ e') {g : Nat} (hg : v.ownBlock = some g) : g ≠ g' := by
  rintro rfl
  rcases h.2 with ⟨rfl, _⟩ | ⟨g1, c1, cur1, rfl, _, a1, _⟩
  · cases hg
  obtain ⟨cur, h2, _⟩ := h'
  injection hg with hg
  subst hg
  rw [a1] at h2
  injection h2 with h2
  injection h2 with _ h2
  exact hne h2
/-- The rows of places, each in a block of its own, and the table of them. -/
structure KidsR (w : World) (base K : Nat) (R : List Rk) : Prop where
  tab : RowAt w K 59 (R.map Rk.val)
  hK : base ≤ K
  rows : ∀ x ∈ R, w.ownsRow base 3 1 x.val x.row.length (natsV x.row)
  apart : ∀ (i j : Nat) (hi : i < R.length) (hj : j < R.length), i ≠ j → ∀ g, Own1 R[i].A g → ¬ Own1 R[j].A g
def KBlk (K : Nat) (R : List Rk) (g : Nat) : Prop := g = K ∨ ∃ x ∈ R, Own1 x.A g
section
variable {w w' : World} {base K : Nat} {R : List Rk}
theorem KidsR.keepB (h : KidsR w base K R) (hk : ∀ g, KBlk K R g → w'.heap[g]? = w.heap[g]?) : KidsR w' base K R :=
  ⟨h.tab.keep (hk K (.inl rfl)), h.hK, fun x hx => own_keep (h.rows x hx) fun g hg _ => hk g (.inr ⟨x, hx, own1_val.1 hg⟩), h.apart⟩
theorem KidsR.blk (h : KidsR w base K R) {g : Nat} (hg : KBlk K R g) : base ≤ g ∧ g < w.heap.size := by
  rcases hg with rfl | ⟨x, hx, hg⟩
  · exact ⟨h.hK, h.tab.lt⟩
  · exact (h.rows x hx).lt g (own1_val.2 hg)
theorem KidsR.frame {S : Nat → Prop} (h : KidsR w base K R) (hf : Frame S w w') (hs : ∀ g, KBlk K R g → ¬ S g) : KidsR w' base K R :=
  h.keepB fun g hg => hf.block g (h.blk hg).2 (hs g hg)
/-- Another row at a place, its slice in the table. -/
theorem KidsR.put (h : KidsR w base K R) {p : Nat} (hp : p < R.length) {S : Nat → Prop} (hf : Frame S w w') {X : Rk} (hS : ∀ g, S g → Own1 R[p].A g ∨ w.heap.size ≤ g ∨ g = K) (hX : ∀ g, Own1 X.A g → Own1 R[p].A g ∨ w.heap.size ≤ g)
    (ho : w'.ownsRow base 3 1 X.val X.row.length (natsV X.row)) (ht : RowAt w' K 59 ((R.map Rk.val).set p X.val)) : KidsR w' base K (R.set p X) := by
  have key : ∀ (j : Nat) (hj : j < R.length), j ≠ p → ∀ g, Own1 R[j].A g → ¬ S g := fun j hj hne g hg hs => by
    have hlt := (h.rows R[j] (List.getElem_mem hj)).lt g (own1_val.2 hg)
    rcases hS g hs with h1 | h1 | h1
    · exact h.apart j p hj hp hne g hg h1
    · omega
    · exact own_ne (h.rows R[j] (List.getElem_mem hj)) h.tab (by decide) (own1_val.2 hg) h1
  refine ⟨by rw [List.map_set]; exact ht, h.hK, ?_, ?_⟩
  · intro x hx
    obtain ⟨j, hj, rfl⟩ := List.mem_iff_getElem.1 hx
    rw [List.length_set] at hj
    by_cases e : p = j
    · subst e
      rw [List.getElem_set_self]
      exact ho
    · rw [List.getElem_set_ne e]
      exact own_frame (h.rows R[j] (List.getElem_mem hj)) hf fun g hg => key j hj (fun e' => e e'.symm) g (own1_val.1 hg)
  · intro i j hi hj hij g hgi hgj
    rw [List.length_set] at hi hj
    by_cases e : p = i
    · subst e
      rw [List.getElem_set_self] at hgi
      rw [List.getElem_set_ne hij] at hgj
      rcases hX g hgi with h1 | h1
      · exact h.apart p j hp hj hij g h1 hgj
      · have := ((h.rows R[j] (List.getElem_mem hj)).lt g (own1_val.2 hgj)).2
        omega
    · rw [List.getElem_set_ne e] at hgi
      by_cases e' : p = j
      · subst e'
        rw [List.getElem_set_self] at hgj
        rcases hX g hgj with h1 | h1
        · exact h.apart i p hi hp hij g hgi h1
        · have := ((h.rows R[i] (List.getElem_mem hi)).lt g (own1_val.2 hgi)).2
          omega
      · rw [List.getElem_set_ne e'] at hgj
        exact h.apart i j hi hj hij g hgi hgj
/-- A row put in order where it lies. -/
theorem KidsR.sorted (h : KidsR w base K R) {p : Nat} (hp : p < R.length) {ys : List Nat} (hl : ys.length = R[p].row.length) (hf : Frame (Own1 R[p].A) w w') (ho : w'.ownsRow base 3 1 R[p].val R[p].row.length (natsV ys)) : KidsR w' base K (R.set p ⟨R[p].A, R[p].c, ys⟩) := by
  have hv : Rk.val ⟨R[p].A, R[p].c, ys⟩ = R[p].val := by unfold Rk.val; simp only [hl]
  refine h.put hp hf (fun g hg => .inl hg) (fun g hg => .inl hg) (by rw [hv]; show w'.ownsRow base 3 1 R[p].val ys.length (natsV ys); rw [hl]; exact ho) ?_
  rw [hv]
  have : (R.map Rk.val).set p R[p].val = R.map Rk.val := by
    apply List.ext_getElem?
    intro j
    rw [List.getElem?_set]
    split
    · rename_i e
      subst e
      rw [if_pos (by simpa using hp)]
      simp [hp]
    · rfl
  rw [this]
  exact h.tab.frame hf fun hs => own_ne (h.rows R[p] (List.getElem_mem hp)) h.tab (by decide) (own1_val.2 hs) rfl
end
/-- What put finds and leaves. -/
structure PutW (w : World) (base bl bo bk bp K : Nat) (A : Option Addr) (n cap : Nat) (l : List Nm) (R : List Rk) (Ao : Option Addr) (co : Nat) (acc : List Nm) : Prop where
  xl : RowAt w bl 22 [.slice A n cap]
  xo : RowAt w bo 22 [.slice Ao acc.length co]
  xk : RowAt w bk 58 [.slice (some ⟨K, 0, none⟩) n n]
  xp : RowAt w bp 60 [.func (.func 27) #[] #[.pointer (some ⟨bl, 0, none⟩), .pointer (some ⟨bo, 0, none⟩), .pointer (some ⟨bk, 0, none⟩), .pointer (some ⟨bp, 0, none⟩)]]
  ne : bl ≠ bo
  hl : base ≤ bl
  ho : base ≤ bo
  hk : base ≤ bk
  hp : base ≤ bp
  nodes : Nodes w base A l
  kids : KidsR w base K R
  klen : R.length = n
  out : OwnN w base Ao acc.length co acc
section
variable {w w' : World} {base bl bo bk bp K n cap co : Nat} {A Ao : Option Addr} {l acc : List Nm} {R : List Rk}
theorem PutW.sizeB (h : PutW w base bl bo bk bp K A n cap l R Ao co acc) : base ≤ w.heap.size := Nat.le_trans h.hl (Nat.le_of_lt h.xl.lt)
theorem PutW.frame {S : Nat → Prop} (h : PutW w base bl bo bk bp K A n cap l R Ao co acc) (hf : Frame S w w') (hS : ∀ g, S g → base ≤ g) (h1 : ¬ S bl) (h2 : ¬ S bo) (h3 : ¬ S bk) (h4 : ¬ S bp) (h5 : ∀ g, KBlk K R g → ¬ S g) (h6 : ∀ g, Blk Ao acc g → ¬ S g) : PutW w' base bl bo bk bp K A n cap l R Ao co acc :=
  ⟨h.xl.frame hf h1, h.xo.frame hf h2, h.xk.frame hf h3, h.xp.frame hf h4, h.ne, h.hl, h.ho, h.hk, h.hp,
    h.nodes.below (hf.toBelow h.sizeB fun k hk hs => by have := hS k hs; omega), h.kids.frame hf h5, h.klen, h.out.keepB fun g hg => hf.block g (h.out.blk hg).2 (h6 g hg)⟩
theorem PutW.below (h : PutW w base bl bo bk bp K A n cap l R Ao co acc) (hb : Below w.heap.size w w') : PutW w' base bl bo bk bp K A n cap l R Ao co acc :=
  h.frame (S := fun _ => False) (Frame.of_below hb) (fun g hg => hg.elim) id id id id (fun _ _ => id) (fun _ _ => id)
/-- The kids of a place put in order. -/
theorem PutW.sorted (h : PutW w base bl bo bk bp K A n cap l R Ao co acc) {p : Nat} (hp : p < R.length) {ys : List Nat} (hl : ys.length = R[p].row.length) (hf : Frame (Own1 R[p].A) w w') (ho : w'.ownsRow base 3 1 R[p].val R[p].row.length (natsV ys)) :
    PutW w' base bl bo bk bp K A n cap l (R.set p ⟨R[p].A, R[p].c, ys⟩) Ao co acc := by
  have hr := h.kids.rows R[p] (List.getElem_mem hp)
  have hb : ∀ g, Own1 R[p].A g → base ≤ g := fun g hg => (hr.lt g (own1_val.2 hg)).1
  refine ⟨h.xl.frame hf fun hs => own_ne hr h.xl (by decide) (own1_val.2 hs) rfl, h.xo.frame hf fun hs => own_ne hr h.xo (by decide) (own1_val.2 hs) rfl, h.xk.frame hf fun hs => own_ne hr h.xk (by decide) (own1_val.2 hs) rfl,
    h.xp.frame hf fun hs => own_ne hr h.xp (by decide) (own1_val.2 hs) rfl, h.ne, h.hl, h.ho, h.hk, h.hp, h.nodes.below (hf.toBelow h.sizeB fun k hk hs => by have := hb k hs; omega), h.kids.sorted hp hl hf ho, by rw [List.length_set]; exact h.klen, ?_⟩
  refine h.out.keepB fun g hg => hf.block g (h.out.blk hg).2 fun hs => ?_
  rcases hg with hg | ⟨x, hx, hg⟩
  · exact own_types h.out.row hr (by decide) g (own1_val.2 hg) (own1_val.2 hs)
  · exact own_types (h.out.props x hx) hr (by decide) g hg (own1_val.2 hs)
/-- One node more behind the list, its slice in the box. -/
theorem PutW.pushed {w4 w5 : World} {B : Nat} {x : Nm} {A5 : Option Addr} {c5 : Nat} (h : PutW w base bl bo bk bp K A n cap l R Ao co acc) (h4 : Below w.heap.size w w4) (hB : w.heap.size ≤ B) (hx : w4.ownsRow B 57 2 x.val x.d.ps.length (prCells x.d.ps))
    (h5 : w5.ownsRow base 50 3 (.slice A5 (acc.length + 1) c5) (acc.length + 1) (nmCells (acc ++ [x]))) (hp : Pushed base (.slice Ao acc.length co) w4 w5) :
    PutW (w5.setCell ⟨bo, 0, none⟩ (.slice A5 (acc.length + 1) c5)) base bl bo bk bp K A n cap l R A5 c5 (acc ++ [x]) := by
  have k4 := h.below h4
  have hrow := k4.out.row
  have hlt : ∀ {g : Nat} {e : TypeId} {ys : List Value}, RowAt w4 g e ys → e ≠ 50 → w5.heap[g]? = w4.heap[g]? := fun hr hne => hp.row _ hr.lt fun hg => own_ne hrow hr (fun e => hne e.symm) hg rfl
  have hout : OwnN w5 base A5 (acc.length + 1) c5 (acc ++ [x]) := h.out.snoc h4 hB hx h5 hp h.sizeB
  have x5l := k4.xl.keep (hlt k4.xl (by decide))
  have x5o := k4.xo.keep (hlt k4.xo (by decide))
  have x5k := k4.xk.keep (hlt k4.xk (by decide))
  have x5p := k4.xp.keep (hlt k4.xp (by decide))
  have k5 : KidsR w5 base K R := k4.kids.keepB fun g hg => hp.row g (k4.kids.blk hg).2 fun he => by
    rcases hg with rfl | ⟨y, hy, hg⟩
    · exact own_ne hrow k4.kids.tab (by decide) he rfl
    · exact own_types (k4.kids.rows y hy) hrow (by decide) g (own1_val.2 hg) he
  have n5 : Nodes w5 base A l := k4.nodes.below hp.low
  have hset : ∀ g, g ≠ bo → (w5.setCell ⟨bo, 0, none⟩ (.slice A5 (acc.length + 1) c5)).heap[g]? = w5.heap[g]? := fun g hg => Below.heap_setCell _ _ _ _ hg
  have hsto := x5o.store 0 (.slice A5 (acc.length + 1) c5)
  refine ⟨x5l.keep (hset _ h.ne), by simpa using hsto, x5k.keep (hset _ fun e => ?_), x5p.keep (hset _ fun e => ?_), h.ne, h.hl, h.ho, h.hk, h.hp, ?_, ?_, h.klen, ?_⟩
  · exact x5k.ne_type x5o (by decide) e
  · exact x5p.ne_type x5o (by decide) e
  · exact n5.below ((Below.refl base w5).setCell h.ho _)
  · refine k5.keepB fun g hg => hset g fun e => ?_
    rcases hg with rfl | ⟨y, hy, hg⟩
    · exact k5.tab.ne_type x5o (by decide) e
    · exact own_ne (k5.rows y hy) x5o (by decide) (own1_val.2 hg) e
  · rw [List.length_append]
    refine hout.keepB fun g hg => hset g fun e => ?_
    rcases hg with hg | ⟨y, hy, hg⟩
    · exact own_ne hout.row x5o (by decide) (own1_val.2 hg) e
    · exact own_ne (hout.props y hy) x5o (by decide) hg e
end
end Go.Proofs.YtmdnbajbfnhecaaGreatDoor

set_option linter.unusedVariables false
namespace Go.Proofs.YtmdnbajbfnhecaaGreatDoor
def cntF (l : List Nd) : Nat → Nat → Nat
  | 0, _ => 0
  | f + 1, i => 1 + ((kidsN l i).map (cntF l f)).sum
theorem sum_perm : ∀ {a b : List Nat}, a.Perm b → a.sum = b.sum
  | _, _, .nil => rfl
  | _, _, .cons x h => by rw [List.sum_cons, List.sum_cons, sum_perm h]
  | _, _, .swap x y l => by simp only [List.sum_cons]; omega
  | _, _, .trans h1 h2 => (sum_perm h1).trans (sum_perm h2)
theorem ordKids_len {rec : Nat → Nat → List Nd} {c : Nat → Nat} : ∀ (ks : List Nat) (b : Nat), (∀ k ∈ ks, ∀ d, (rec k d).length = c k) → (ordKids rec ks b).length = (ks.map c).sum
  | [], _, _ => rfl
  | k :: r, b, h => by
    rw [ordKids, List.length_append, h k (List.mem_cons_self ..), ordKids_len r _ fun x hx => h x (List.mem_cons_of_mem _ hx)]
    rfl
theorem ordF_len (l : List Nd) : ∀ (f i : Nat) (par : Int) (b : Nat), (ordF l f i par b).length = cntF l f i
  | 0, _, _, _ => rfl
  | f + 1, i, par, b => by
    rw [ordF, List.length_cons, ordKids_len (c := cntF l f) _ _ fun k _ d => ordF_len l f k b d, sum_perm ((sort_perm (nameN l) (kidsN l i)).map _), cntF]
    omega
def cnt (l : List Nd) (i : Nat) : Nat := cntF l (l.length - i) i
theorem ordN_len (l : List Nd) (i : Nat) (par : Int) (b : Nat) : (ordN l i par b).length = cnt l i := ordF_len l _ i par b
theorem cnt_step (l : List Nd) (i : Nat) (h : i < l.length) : cnt l i = 1 + ((kidsN l i).map (cnt l)).sum := by
  rw [← ordN_len l i 0 0, ordN_step l i 0 0 h, List.length_cons, ordKids_len (c := cnt l) _ _ fun k _ d => ordN_len l k _ d, sum_perm ((sort_perm (nameN l) (kidsN l i)).map _)]
  omega
theorem sum_split (q : Nat → Int) (c : Nat → Nat) (m : Nat) : ∀ L : List Nat, ((L.filter fun j => decide (q j < ((m + 1 : Nat) : Int))).map c).sum = ((L.filter fun j => q j == (m : Int)).map c).sum + ((L.filter fun j => decide (q j < (m : Int))).map c).sum
  | [] => rfl
  | x :: L => by
    have ih := sum_split q c m L
    rw [List.filter_cons, List.filter_cons, List.filter_cons]
    by_cases h1 : q x = (m : Int)
    · rw [if_pos (by simp; omega), if_pos (by simp [h1]), if_neg (by simp; omega), List.map_cons, List.sum_cons, ih, List.map_cons, List.sum_cons]
      omega
    · by_cases h2 : q x < (m : Int)
      · rw [if_pos (by simp; omega), if_neg (by simpa using h1), if_pos (by simpa using h2), List.map_cons, List.sum_cons, ih, List.map_cons, List.sum_cons]
        omega
      · rw [if_neg (by simp; omega), if_neg (by simpa using h1), if_neg (by simpa using h2), ih]
theorem cnt_total {l : List Nd} (h : Tr l) (h0 : 0 < l.length → parAt l 0 < 0) : ∀ (f m : Nat), l.length - m = f → m ≤ l.length → ((((List.range l.length).drop m).filter fun (j : Nat) => decide (parAt l j < (m : Int))).map (cnt l)).sum = f
  | 0, m, hf, hm => by
    rw [List.drop_of_length_le (by simp; omega)]
    rfl
  | f + 1, m, hf, hm => by
    have hml : m < l.length := by omega
    have hd : (List.range l.length).drop m = m :: (List.range l.length).drop (m + 1) := by
      rw [List.drop_eq_getElem_cons (by simpa using hml)]
      simp
    have hpm : parAt l (m : Int) < (m : Int) := by
      rcases Nat.eq_zero_or_pos m with e | e
      · subst e; exact h0 hml
      · exact (h.ups m e hml).2
    have ih := cnt_total h h0 f (m + 1) (by omega) (by omega)
    rw [sum_split (fun j => parAt l j) (cnt l) m] at ih
    rw [hd, List.filter_cons, if_pos (by simpa using hpm), List.map_cons, List.sum_cons, cnt_step l m hml]
    unfold kidsN
    omega
theorem ord_total {l : List Nd} (h : Tr l) (h0 : parAt l 0 < 0) (hl : 0 < l.length) : (ordN l 0 (-1) 0).length = l.length := by
  have h1 := cnt_total h (fun _ => h0) l.length 0 (by omega) (Nat.zero_le _)
  rw [ordN_len]
  rw [List.drop_zero] at h1
  have hd : (List.range l.length) = 0 :: (List.range l.length).drop 1 := by
    have := List.drop_eq_getElem_cons (l := List.range l.length) (i := 0) (by simpa using hl)
    rw [List.drop_zero] at this
    simpa using this
  rw [hd, List.filter_cons, if_pos (by simpa using h0), List.map_cons, List.sum_cons] at h1
  have h2 : (((List.range l.length).drop 1).filter fun (j : Nat) => decide (parAt l (j : Int) < ((0 : Nat) : Int))) = [] := by
    rw [List.filter_eq_nil_iff]
    intro j hj
    rw [List.mem_drop_iff_getElem] at hj
    obtain ⟨k, hk, rfl⟩ := hj
    simp only [List.length_range] at hk
    simp only [List.getElem_range, decide_eq_true_eq]
    have := (h.ups (1 + k) (by omega) (by omega)).1
    omega
  rw [h2] at h1
  simpa using h1
/-- What Sorted hands back. -/
def sortR (l : List Nd) : List Nd := if (checkF l).2 = 0 then sortedL l else []
end Go.Proofs.YtmdnbajbfnhecaaGreatDoor
