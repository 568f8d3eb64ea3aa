/- The library's sort of props and of places: the contracts. -/
import Derived.Test.YtmdnbajbfnhecaaSortMem
import Derived.Test.YtmdnbajbfnhecaaShelfS
import Derived.Test.YtmdnbajbfnhecaaShelf
import Derived.Test.YtmdnbajbfnhecaaLow
set_option linter.unusedVariables false
namespace Go.Proofs.Ytmdnbajbfnhecaa
open Go.RowKit Go.Sort Go.Lib
instance : Inhabited Pr := ⟨⟨ByteArray.empty, ByteArray.empty⟩⟩
def prKey (q : Pr) : List UInt8 := q.n.data.toList
def natsV (l : List Nat) : List Value := l.map fun (k : Nat) => .int .i64 (k : Int)
theorem natsV_len (l : List Nat) : (natsV l).length = l.length := by simp [natsV]
theorem cmpP_any (x y : Pr) (W : World) : Calls Try.prog 35 #[.agg #[.string x.n, .string x.v], .agg #[.string y.n, .string y.v]] W fun e w' => e = .returned (.int .i64 (compareBytes (prKey x) (prKey y))) ∧ ∃ q os', w' = grow (W.drewN q) os' := by
  have hcon := fun W' => Try.strings_Compare x.n y.n W'
  unfold prKey
  generalize compareBytes x.n.data.toList y.n.data.toList = r at hcon ⊢
  go_enter Try.func35, Try.ntmps35
  go_wp2_with (go_at_call 36; refine (hcon _).mono ?_; rintro e w' ⟨rfl, rfl⟩)
  go_ret
  exact ⟨rfl, 0, _, by rw [alloc_eq_grow, alloc_eq_grow, grow_grow]; rfl⟩
theorem cmpI_any (A : Option Addr) (cap n : Nat) (l : List Nm) (hn : n = l.length) (bl : Nat) (W : World) (hbox : W.cell? ⟨bl, 0, none⟩ = some (.slice A n cap)) (B : Nat) (hs : Nodes W B A l) (a b : Nat) (ha : a < n) (hb : b < n) :
    Calls Try.prog 38 #[.int .i64 a, .int .i64 b, .pointer (some ⟨bl, 0, none⟩)] W fun e w' => e = .returned (.int .i64 (compareBytes (nameN (dat l) a) (nameN (dat l) b))) ∧ ∃ q, w' = W.drewN q := by
  have hal : a < l.length := by omega
  have hbl : b < l.length := by omega
  obtain ⟨g, off, rfl, hgB, _, x1, _, _⟩ := hs.at_ hal
  obtain ⟨g', off', e, _, _, y1, _, _⟩ := hs.at_ hbl
  injection e with e
  injection e with e1 e2
  subst e1 e2
  have en : nameN (dat l) a = l[a].d.n.data.toList := by
    unfold nameN
    rw [List.getElem?_eq_getElem (by rw [dat_len]; exact hal)]
    simp only [dat_get l hal]
  have en' : nameN (dat l) b = l[b].d.n.data.toList := by
    unfold nameN
    rw [List.getElem?_eq_getElem (by rw [dat_len]; exact hbl)]
    simp only [dat_get l hbl]
  rw [en, en']
  have hcon := fun W' => Try.strings_Compare l[a].d.n l[b].d.n W'
  generalize compareBytes l[a].d.n.data.toList l[b].d.n.data.toList = r at hcon ⊢
  generalize l[a].d.n = s at *
  generalize l[b].d.n = s' at *
  have hai : (a : Int) < (n : Int) := by omega
  have hbi : (b : Int) < (n : Int) := by omega
  clear hs hn
  go_enter Try.func38, Try.ntmps38
  go_wp2_with fail
  go_quiet (first | (go_at_call 36; refine (hcon _).mono ?_; rintro e w' ⟨rfl, rfl⟩; exact ⟨rfl, _, rfl⟩))
  go_wp2_with fail
  go_ret
  exact ⟨rfl, _, rfl⟩
/-- A slice's own block. -/
def Own1 (A : Option Addr) (g : Nat) : Prop := (Value.slice A 0 0).ownBlock = some g
theorem own1_val {A : Option Addr} {n c g : Nat} : (Value.slice A n c).ownBlock = some g ↔ Own1 A g := by cases A <;> exact Iff.rfl
theorem sort_perm {α : Type} (k : α → List UInt8) : ∀ l : List α, (sortN k l).Perm l
  | [] => .refl _
  | x :: r => (ins_perm k x _).trans ((sort_perm k r).cons x)
theorem sort_len {α : Type} (k : α → List UInt8) (l : List α) : (sortN k l).length = l.length := (sort_perm k l).length_eq
theorem ltOf_ltK {α : Type} (k : α → List UInt8) : ltOf (fun x y => compareBytes (k x) (k y)) = ltK k := by
  funext x y
  rfl
theorem psort_any (A : Option Addr) (n c : Nat) (ps : List Pr) (w : World) (base : Nat) (hown : w.ownsRow base 32 2 (.slice A n c) n (prCells ps)) (ha : Apart prKey ps) (hn : n * 32 ≤ 140737488355328) :
    Calls Try.prog 34 #[.slice A n c, .func (.func 35) #[] #[]] w fun e w' => e = .returned (.tuple #[]) ∧ w'.ownsRow base 32 2 (.slice A n c) n (prCells (sortN prKey ps)) ∧ Frame (Own1 A) w w' := by
  have hl : ps.length = n := by have := hown.1; rw [prCells_len] at this; omega
  rcases A with _ | ⟨g, off, spot⟩
  · have hn0 : n = 0 := by
      rcases hown.2 with ⟨_, h⟩ | ⟨g, cap, cur, hv, _⟩
      · exact h
      · cases hv
    subst hn0
    have hps : ps = [] := List.eq_nil_of_length_eq_zero hl
    subst hps
    have h := AnyF.slices_SortFunc_none (P := Try.prog) (ρ := Try.laysSP_ren) Try.laysSP none c (.func (.func 35) #[] #[]) w
    change Calls Try.prog 34 _ _ _ at h
    refine h.mono ?_
    rintro e w' ⟨he, rfl⟩
    exact ⟨he, hown, Frame.refl _ _⟩
  · have hg : off = 0 ∧ spot = none := by
      rcases hown.2 with ⟨h, _⟩ | ⟨g, cap, cur, hv, _⟩
      · cases h
      · injection hv with hv
        injection hv with hv
        injection hv with _ h1 h2
        exact ⟨h1, h2⟩
    obtain ⟨rfl, rfl⟩ := hg
    have hgl : g < w.heap.size := (hown.lt g rfl).2
    have hsz : ps.toArray.size = n := by simp [hl]
    have hH : HoldsK Pr.cells 2 w g 0 ps.toArray := by
      unfold HoldsK
      rw [flatK_flat Pr.cells 2 pr_len]
      exact own_holds hown
    have h := AnyQ.slices_SortFunc (P := Try.prog) (ρ := Try.laysSP_ren) Try.laysSP 2 Try.isAgg32 Try.sizeOf32 Pr.cells pr_len (fun x v hv => by
      simp [Pr.cells] at hv
      rcases hv with rfl | rfl <;> rfl) (fun x y => compareBytes (prKey x) (prKey y)) (by rw [ltOf_ltK]; exact key_swo prKey) 35 #[] g 0 c ps.toArray w (enters_of Try.func35 (by kernel_rfl) rfl)
      (fun _ _ _ _ x y => cmpP_any x y _) hH hgl (by rw [hsz]; omega)
    rw [hsz] at h
    change Calls Try.prog 34 _ _ _ at h
    refine h.mono ?_
    rintro e w' ⟨he, d', m, os, hp, hs, rfl⟩
    rw [← hsz, ltOf_ltK] at hs
    rw [← hsz] at hp
    have hd : d'.toList = sortN prKey ps := sorted_by (k := prKey) (d := ps.toArray) ha hp hs
    have hcells : flatK Pr.cells 2 d' = (prCells (sortN prKey ps)).toArray := by rw [flatK_flat Pr.cells 2 pr_len, hd]; rfl
    have := own_put hown (ys := prCells (sortN prKey ps)) (by rw [prCells_len, prCells_len, sort_len]) m os
    refine ⟨he, ?_, ?_⟩
    · unfold sortWorldK putRowK
      rw [hcells]
      exact this.1
    · unfold sortWorldK putRowK
      rw [hcells]
      exact this.2.mono fun i _ hi => by subst hi; rfl
theorem isort_any (A : Option Addr) (m c : Nat) (ks : List Nat) (w : World) (base : Nat) (hown : w.ownsRow base 3 1 (.slice A m c) m (natsV ks)) (Al : Option Addr) (cap n : Nat) (l : List Nm) (hn : n = l.length) (bl : Nat) (hbox : RowAt w bl 22 [.slice Al n cap])
    (B : Nat) (hB : B ≤ base) (hs : Nodes w B Al l) (hks : ∀ k ∈ ks, k < n) (ha : Apart (nameN (dat l)) ks) (hm : m < 4611686018427387904) :
    Calls Try.prog 37 #[.slice A m c, .func (.func 38) #[] #[.pointer (some ⟨bl, 0, none⟩)]] w fun e w' => e = .returned (.tuple #[]) ∧ w'.ownsRow base 3 1 (.slice A m c) m (natsV (sortN (nameN (dat l)) ks)) ∧ Frame (Own1 A) w w' := by
  have hl : ks.length = m := by have := hown.1; rw [natsV_len] at this; omega
  rcases A with _ | ⟨g, off, spot⟩
  · have hn0 : m = 0 := by
      rcases hown.2 with ⟨_, h⟩ | ⟨g, cap, cur, hv, _⟩
      · exact h
      · cases hv
    subst hn0
    have hps : ks = [] := List.eq_nil_of_length_eq_zero hl
    subst hps
    have h := AnyF.slices_SortFunc_none (P := Try.prog) (ρ := Try.laysSI_ren) { Try.laysSI with } none c (.func (.func 38) #[] #[.pointer (some ⟨bl, 0, none⟩)]) w
    change Calls Try.prog 37 _ _ _ at h
    refine h.mono ?_
    rintro e w' ⟨he, rfl⟩
    exact ⟨he, hown, Frame.refl _ _⟩
  · have hg : off = 0 ∧ spot = none := by
      rcases hown.2 with ⟨h, _⟩ | ⟨g, cap, cur, hv, _⟩
      · cases h
      · injection hv with hv
        injection hv with hv
        injection hv with _ h1 h2
        exact ⟨h1, h2⟩
    obtain ⟨rfl, rfl⟩ := hg
    have hgl : g < w.heap.size := (hown.lt g rfl).2
    have hgb : base ≤ g := (hown.lt g rfl).1
    rcases Nat.eq_zero_or_pos n with h0 | h0
    · have hps : ks = [] := by
        rcases ks with _ | ⟨k, r⟩
        · rfl
        · have := hks k (List.mem_cons_self ..); omega
      subst hps
      have : m = 0 := hl.symm
      subst this
      have h := AnyF.slices_SortFunc_none (P := Try.prog) (ρ := Try.laysSI_ren) { Try.laysSI with } (some ⟨g, 0, none⟩) c (.func (.func 38) #[] #[.pointer (some ⟨bl, 0, none⟩)]) w
      change Calls Try.prog 37 _ _ _ at h
      refine h.mono ?_
      rintro e w' ⟨he, rfl⟩
      exact ⟨he, hown, Frame.refl _ _⟩
    · let α := { k : Nat // k < n }
      haveI : Inhabited α := ⟨⟨0, h0⟩⟩
      let enc : α → Value := fun k => .int .i64 ((k.1 : Nat) : Int)
      let key : α → List UInt8 := fun k => nameN (dat l) k.1
      obtain ⟨ds, hds⟩ : ∃ ds : List α, ds.map (fun k => k.1) = ks := ⟨ks.attach.map fun k => ⟨k.1, hks k.1 k.2⟩, by simp⟩
      have hdl : ds.length = m := by rw [← hl, ← hds]; simp
      have hsz : ds.toArray.size = m := by simp [hdl]
      have hv : ∀ es : List α, natsV (es.map fun k => k.1) = es.map enc := fun es => by unfold natsV; simp [enc]
      have hH : Holds enc w g 0 ds.toArray := by
        intro j hj
        have hj' : j < ds.length := by simpa using hj
        have := own_holds hown j (by simp [natsV_len, hl, ← hdl, hj'])
        refine ⟨?_, this.2⟩
        rw [this.1, ← hds, hv]
        rw [getElem!_pos _ j (by simpa using hj'), getElem!_pos ds.toArray j hj]
        simp
      have hne : g ≠ bl := by
        intro e
        subst e
        rcases hown.2 with ⟨h, _⟩ | ⟨g', cap', cur, hv', _, hb, _⟩
        · cases h
        injection hv' with hv'
        injection hv' with hv'
        injection hv' with hv'
        subst hv'
        obtain ⟨cur', h2, _⟩ := hbox
        rw [hb] at h2
        injection h2 with h2
        injection h2 with _ h2
        cases h2
      have hcmp : CmpLays1 Try.prog 38 #[.pointer (some ⟨bl, 0, none⟩)] enc (fun x y => compareBytes (key x) (key y)) g 0 ds.toArray.size w := by
        refine CmpReads.lays (fun q os dk hdk x y => ?_)
        have hW := own_put hown (ys := dk.toList.map enc) (by rw [natsV_len, List.length_map, Array.length_toList, hdk, hsz, hl]) q os
        have hW2 : Frame (fun k => k = g) w (sortWorld enc w g 0 q dk os) := by
          unfold sortWorld
          rw [putRow_map]
          have : (dk.map enc) = (dk.toList.map enc).toArray := Array.toList_inj.mp (Array.toList_map ..)
          rw [this]
          exact hW.2
        refine cmpI_any Al cap n l hn bl _ ?_ B ⟨hs.seg.frame hW2 (by omega) (fun k hk e => by omega), fun x hx => (hs.props x hx).frame hW2 (by omega) (fun k hk e => by omega)⟩ x.1 y.1 x.2 y.2
        exact (hbox.frame hW2 (fun e => hne e.symm)).cell (k := 0) (by simp)
      have h := Any.slices_SortFunc (P := Try.prog) (ρ := Try.laysSI_ren) Try.laysSI enc (fun _ => rfl) (fun x y => compareBytes (key x) (key y)) (by rw [ltOf_ltK]; exact key_swo key) 38 #[.pointer (some ⟨bl, 0, none⟩)] g 0 c ds.toArray w (enters_of Try.func38 (by kernel_rfl) rfl) hcmp hH hgl (by rw [hsz]; exact hm)
      rw [hsz] at h
      change Calls Try.prog 37 _ _ _ at h
      refine h.mono ?_
      rintro e w' ⟨he, d', q, os, hp, hs2, rfl⟩
      rw [← hsz, ltOf_ltK] at hs2
      rw [← hsz] at hp
      have hak : Apart key ds := by
        unfold Apart at *
        rw [← hds, List.pairwise_map] at ha
        exact ha
      have hd : d'.toList = sortN key ds := sorted_by (k := key) (d := ds.toArray) hak hp hs2
      have hd2 : d'.toList.map (fun k => k.1) = sortN (nameN (dat l)) ks := by
        rw [hd]
        refine sort_is _ ha ((sort_perm key ds).map _ |>.trans (by rw [hds])) ?_
        have h3 := (sort_ok key ds hak).2
        unfold Up at *
        rw [List.pairwise_map]
        exact h3
      have hW := own_put hown (ys := natsV (sortN (nameN (dat l)) ks)) (by rw [natsV_len, natsV_len, sort_len]) q os
      have hcells : d'.map enc = (natsV (sortN (nameN (dat l)) ks)).toArray := by
        rw [← hd2, hv]
        exact Array.toList_inj.mp (Array.toList_map ..)
      refine ⟨he, ?_, ?_⟩
      · unfold sortWorld
        rw [putRow_map, hcells]
        exact hW.1
      · unfold sortWorld
        rw [putRow_map, hcells]
        exact hW.2.mono fun i _ hi => by subst hi; rfl
end Go.Proofs.Ytmdnbajbfnhecaa
