/- A graft as data; a store of a name. The document's Piece: the contract. slices.Grow and slices.Concat: the contracts. The program's Graft: what is refused. A graft in memory. -/
import Derived.Test.YtmdnbajbfnhecaaGreatDoorLow
import Derived.Test.YtmdnbajbfnhecaaGreatDoorPlace
import Derived.Lib.AppendZerosOnto
set_option linter.unusedVariables false
namespace Go.Proofs.YtmdnbajbfnhecaaGreatDoor
open Go.RowKit
/-! A graft, as data. -/
def headless : List Nd → List Nd
  | [] => []
  | x :: r => ⟨x.p, ByteArray.empty, x.ps⟩ :: r
def pieceB (l : List Nd) : Bool := match l with
  | [] => false
  | x :: r => nameB x.n.data.toList && ((checkF (headless l)).2 == 0)
def putF (p : List Nd) (at_ : Int) (z : Nat) : List Nd := p.mapIdx fun j x => x.par (if j = 0 then at_ else x.p + z)
def liftOne (z m : Nat) (x : Nd) : Nd := if (z : Int) ≤ x.p then x.par (x.p + m) else x
def graftF (l : List Nd) (at_ : Int) (p : List Nd) (z : Nat) : List Nd := l.take z ++ putF p at_ z ++ (l.drop z).map (liftOne z p.length)
theorem headless_len (l : List Nd) : (headless l).length = l.length := by cases l <;> simp [headless]
theorem headless_set {l : List Nd} (h : 0 < l.length) : headless l = l.set 0 ⟨l[0].p, ByteArray.empty, l[0].ps⟩ := by
  cases l with
  | nil => cases h
  | cons x r => rfl
theorem pieceB_no {l : List Nd} (h : l.length = 0) : pieceB l = false := by
  cases l with
  | nil => rfl
  | cons x r => simp at h
theorem pieceB_some {l : List Nd} (h : 0 < l.length) : pieceB l = (nameB l[0].n.data.toList && ((checkF (headless l)).2 == 0)) := by
  cases l with
  | nil => cases h
  | cons x r => rfl
theorem headless_p {l : List Nd} {j : Nat} (h : j < l.length) : ((headless l)[j]'(by rw [headless_len]; exact h)).p = l[j].p := by
  cases l with
  | nil => cases h
  | cons x r => cases j <;> rfl
theorem piece_fine {l : List Nd} (h : (checkF (headless l)).2 = 0) : 0 < l.length ∧ l.length ≤ 512 ∧ ∀ j (h : j < l.length), -1 ≤ l[j].p ∧ l[j].p ≤ 512 := by
  obtain ⟨hf, h1, h2⟩ := check_fine h
  rw [headless_len] at h1 h2
  refine ⟨h1, h2, fun j hj => ?_⟩
  have hp := fine_par hf (j := j) (by rw [headless_len]; exact hj) (by rw [headless_len]; exact hj)
  unfold parAt at hp
  rw [Int.toNat_natCast, List.getElem?_eq_getElem (by rw [headless_len]; exact hj)] at hp
  simp only [headless_p hj] at hp
  omega
theorem fine_bd {l : List Nd} (hf : Fine l l.length) (h5 : l.length ≤ 512) {j : Nat} (hj : j < l.length) : -1 ≤ l[j].p ∧ l[j].p ≤ 512 := by
  have hp := fine_par hf hj hj
  unfold parAt at hp
  rw [Int.toNat_natCast, List.getElem?_eq_getElem hj] at hp
  simp only at hp
  omega
theorem put_len (p : List Nd) (at_ : Int) (z : Nat) : (putF p at_ z).length = p.length := by simp [putF]
theorem put_get {p : List Nd} {at_ : Int} {z j : Nat} (h : j < p.length) : (putF p at_ z)[j]'(by rw [put_len]; exact h) = p[j].par (if j = 0 then at_ else p[j].p + z) := by simp [putF]
theorem put_take {p : List Nd} {at_ : Int} {z j : Nat} (h : j < p.length) : putF (p.take (j + 1)) at_ z = putF (p.take j) at_ z ++ [p[j].par (if j = 0 then at_ else p[j].p + z)] := by
  unfold putF
  rw [take_snoc h, List.mapIdx_append]
  congr 1
  simp only [List.mapIdx_cons, List.mapIdx_nil, List.length_take]
  rw [Nat.min_eq_left (by omega)]
  simp
noncomputable def graftE (l : List Nd) (at_ : Int) (p : List Nd) : Int := if wrongF l at_ ≠ 0 then wrongF l at_ else if pieceB p = false then 40 else (checkF (graftF l at_ p (endN l at_.toNat))).2
noncomputable def graftR (l : List Nd) (at_ : Int) (p : List Nd) : List Nd := if graftE l at_ p = 0 then graftF l at_ p (endN l at_.toNat) else []
/-- What a graft hands back. -/
def GraftRet (l : List Nd) (at_ : Int) (p : List Nd) (w' : World) (base : Nat) (e : Ending) : Prop := ∃ (A1 : Option Addr) (n1 c1 : Nat) (l1 : List Nm),
  e = .returned (.tuple #[.slice A1 n1 c1, .int .i64 (graftE l at_ p)]) ∧ OwnN w' base A1 n1 c1 l1 ∧ dat l1 = graftR l at_ p
def RGraftRet (l : List Nd) (at_ : Int) (p : List Nd) (w' : World) (base : Nat) (e : Ending) : Prop := ∃ (A1 : Option Addr) (n1 c1 : Nat) (l1 : List Nm),
  e = .returned (.tuple #[.slice A1 n1 c1, .int .i64 (graftE l at_ p)]) ∧ NodesL w' base A1 n1 l1 ∧ dat l1 = graftR l at_ p
theorem graftret_no {l p : List Nd} {at_ r : Int} {w' : World} {base : Nat} (h : r ≠ 0) (hr : r = graftE l at_ p) : GraftRet l at_ p w' base (.returned (.tuple #[.slice none 0 0, .int .i64 r])) := by
  subst hr
  exact ⟨none, 0, 0, [], rfl, own_none _ _, by unfold graftR; rw [if_neg h]; rfl⟩
theorem rgraftret_no {l p : List Nd} {at_ r : Int} {w' : World} {base : Nat} (h : r ≠ 0) (hr : r = graftE l at_ p) : RGraftRet l at_ p w' base (.returned (.tuple #[.slice none 0 0, .int .i64 r])) := by
  subst hr
  exact ⟨none, 0, 0, [], rfl, (own_none _ _).lowN, by unfold graftR; rw [if_neg h]; rfl⟩
section
variable {w : World} {base n c : Nat} {A : Option Addr} {l : List Nm}
/-- A store into a node's parent or name. -/
theorem OwnN.setC (h : OwnN w base A n c l) {k : Nat} (hk : k < l.length) {j : Nat} (hj : j < 2) (u : Value) (y : Nm) (hv : y.val = l[k].val) (hps : y.d.ps = l[k].d.ps) (hc : l[k].cells.set j u = y.cells) :
    ∃ g, A = some ⟨g, 0, none⟩ ∧ base ≤ g ∧ w.frozen? ⟨g, k * 3 + j, none⟩ = false ∧ OwnN (w.setCell ⟨g, k * 3 + j, none⟩ u) base A n c (l.set k y) := by
  have hn : 0 < n := by have := h.len; omega
  obtain ⟨g, cap, hv', hb, hlt⟩ := h.row.form hn
  injection hv' with hA hc'
  subst hA
  refine ⟨g, rfl, hb, h.row.frozenAt _, ?_⟩
  have hst := h.row.stored (k * 3 + j) u
  have hset : (nmCells l).set (k * 3 + j) u = nmCells (l.set k y) := flat_set Nm.cells 3 nm_len l k j y u hk (by omega) hc
  refine ⟨by simp [h.len], ?_, ?_, pair_set hk hv h.apart⟩
  · rw [← hset]; exact hst.1
  · intro x hx
    have hold : ∃ x0 ∈ l, x.val = x0.val ∧ x.d.ps = x0.d.ps := by
      obtain ⟨i, hi, rfl⟩ := List.mem_iff_getElem.1 hx
      by_cases hik : k = i
      · subst hik; exact ⟨l[k], List.getElem_mem hk, by simp [hv], by simp [hps]⟩
      · exact ⟨l[i]'(by simpa using hi), List.getElem_mem _, by simp [hik], by simp [hik]⟩
    obtain ⟨x0, h0, e1, e2⟩ := hold
    rw [e1, e2]
    exact own_keep (h.props x0 h0) fun g' hg' _ => Below.heap_setCell _ _ _ _ (by
      intro e
      subst e
      exact own_types (h.props x0 h0) h.row (by decide) _ hg' rfl)
/-- The cells of a node, and what a store of its name leaves. -/
theorem OwnN.name_ (h : OwnN w base A n c l) {k : Nat} (hk : k < l.length) : ∃ g, A = some ⟨g, 0, none⟩ ∧ base ≤ g ∧ w.cell? ⟨g, k * 3 + 1, none⟩ = some (.string l[k].d.n) ∧ w.frozen? ⟨g, k * 3 + 1, none⟩ = false ∧
    ∀ s, OwnN (w.setCell ⟨g, k * 3 + 1, none⟩ (.string s)) base A n c (l.set k ⟨⟨l[k].d.p, s, l[k].d.ps⟩, l[k].A, l[k].c⟩) := by
  obtain ⟨g, hA, hb, hf, _⟩ := h.setC hk (j := 1) (by omega) (.string l[k].d.n) l[k] rfl rfl rfl
  refine ⟨g, hA, hb, ?_, hf, fun s => ?_⟩
  · have hr := h.row
    rw [hA] at hr
    rw [hr.cellAt (k * 3 + 1) (by have := h.len; omega)]
    exact flat_get Nm.cells 3 nm_len l k 1 hk (by omega)
  · obtain ⟨g', hA', _, _, h3⟩ := h.setC hk (j := 1) (by omega) (.string s) ⟨⟨l[k].d.p, s, l[k].d.ps⟩, l[k].A, l[k].c⟩ rfl rfl rfl
    rw [hA] at hA'
    injection hA' with e
    injection e with e
    subst e
    exact h3
end
theorem dat_at {l : List Nm} {k : Nat} (hk : k < l.length) : (dat l)[k]? = some l[k].d := by unfold dat; rw [List.getElem?_map, List.getElem?_eq_getElem hk]; rfl
end Go.Proofs.YtmdnbajbfnhecaaGreatDoor

set_option linter.unusedVariables false
namespace Go.Proofs.YtmdnbajbfnhecaaGreatDoor
open Go.RowKit
theorem sized_head {l l' : List Nm} (h : Sized l) (hd : dat l' = headless (dat l)) : Sized l' := by
  have hl : l'.length = l.length := by have := congrArg List.length hd; rwa [dat_len, headless_len, dat_len] at this
  have key : ∀ x ∈ l', ∃ y ∈ l, x.d.p = y.d.p ∧ x.d.ps = y.d.ps ∧ x.d.n.size ≤ y.d.n.size := fun x hx => by
    have hm : x.d ∈ dat l' := by unfold dat; exact List.mem_map_of_mem hx
    rw [hd] at hm
    rcases l with _ | ⟨y, r⟩
    · simp [dat, headless] at hm
    · rcases List.mem_cons.1 hm with e | hm
      · exact ⟨y, List.mem_cons_self, by rw [e], by rw [e], by rw [e]; exact Nat.zero_le _⟩
      · obtain ⟨y', hy', e⟩ := List.mem_map.1 hm
        exact ⟨y', List.mem_cons_of_mem _ hy', by rw [e], by rw [e], by rw [e]; exact Nat.le_refl _⟩
  refine ⟨by rw [hl]; exact h.n, fun x hx => ?_, fun x hx => ?_, fun x hx => ?_⟩
  · unfold dat at hx
    obtain ⟨x', hx', rfl⟩ := List.mem_map.1 hx
    obtain ⟨y, hy, e1, e2, e3⟩ := key x' hx'
    have := h.small y.d (by unfold dat; exact List.mem_map_of_mem hy)
    rw [← e2] at this
    exact ⟨by omega, this.2⟩
  · obtain ⟨y, hy, _, e2, _⟩ := key x hx
    rw [e2]; exact h.props y hy
  · obtain ⟨y, hy, e1, _, _⟩ := key x hx
    rw [e1]; exact h.wf y hy
end Go.Proofs.YtmdnbajbfnhecaaGreatDoor

set_option linter.unusedVariables false
namespace Go.Proofs.YtmdnbajbfnhecaaGreatDoor
open Go.RowKit
/-- append at the operation, its run laid ahead. -/
theorem wpList_append_run {P : Program} {w : World} {ops : Array Oper} {rest : List Oper} {o : Oper} {a : Act} {Q : Exit → Act → World → Prop} (hgd : o.guard = none) (s x : Operand) (t1 t2 : TypeId)
    (ho : o.op = .call { callee := .builtin .append, args := #[s, x], argTypes := #[t1, t2] }) (vs vx : Value) (hs : a.eval s = vs) (hx : a.eval x = vx) (v' : Value) (w' : World)
    (hrun : (Builtin.append_ #[t1, t2] o.type #[vs, vx]).run P w = .ok v' w') (h : wpList P ops Q rest (a.put o.dst v') w') : wpList P ops Q (o :: rest) a w := by
  refine wpList_plain hgd fun _ hK => ?_
  unfold Oper.wp execOp
  simp only [ho, resolve, invoke, builtin, Sem.run_bind, Sem.run_pure, Result.andThen_ok, List.map_toArray, List.map_cons, List.map_nil, hs, hx, hrun]
  exact hK _ _ h
set_option maxRecDepth 100000 in
theorem grow_any (N : Nat) (hN : N * 48 ≤ 140737488355328) (w : World) :
    Calls Tryz.prog 62 #[.slice none 0 0, .int .i64 N] w fun e w' => ∃ A c, e = .returned (.slice A 0 c) ∧ w'.ownsRow w.heap.size 50 3 (.slice A 0 c) 0 [] ∧ Below w.heap.size w w' := by
  obtain ⟨i0, fi, fz0, fz1, fz2⟩ := info_parts Tryz.info50
  by_cases h0 : N = 0
  · subst h0
    go_enter Tryz.func62, Tryz.ntmps62
    go_wp2
    go_ret
    exact ⟨none, 0, rfl, World.ownsRow_nil _ _ _ _, Below.refl _ _⟩
  · have hNi : (0 : Int) < (N : Int) := by omega
    have hrun := Go.Lib.run_append_grow_zeros (P := Tryz.prog) w 22 3 22 50 i0 _ .i64 .i64 Tryz.underlying22 Tryz.underlying3 fi fz0 none 0 0 [] (by simp [Builtin.firstCells]) N (by omega) (by rw [fz1]; omega) (by omega) (by omega) (by rw [fz2]; omega) (growslice_fits (by omega) (by rw [fz2]; omega))
    have hgrown : ∃ C W, (Builtin.append_ #[22, 3] 22 #[.slice none 0 0, .int .i64 (N : Int)]).run Tryz.prog w = .ok (.slice (some ⟨w.heap.size, 0, none⟩) N C) W ∧ W.ownsRow w.heap.size 50 3 (.slice (some ⟨w.heap.size, 0, none⟩) 0 C) 0 [] ∧ Below w.heap.size w W ∧ C ≤ maxLen := by
      refine ⟨_, _, by simpa using hrun, ⟨rfl, .inr ⟨w.heap.size, _, _, rfl, Nat.le_refl _, heap_alloc_new w.drew _, Nat.zero_le _, grownCap_le_maxLen _ _ _ _ (by unfold maxLen; omega), ?_, by simp⟩⟩, ((Below.refl _ w).drew).alloc (by exact Nat.le_refl _) _, grownCap_le_maxLen _ _ _ _ (by unfold maxLen; omega)⟩
      have hge := grownCap_ge w N 0 50
      simp only [Array.size_append, size_zeroCells]
      simp [Value.cells]
      omega
    obtain ⟨C, W, hr, hown, hb, hC⟩ := hgrown
    have HO := Lib.hid hown
    have HB := Lib.hid hb
    clear hrun hown hb fz0 fz1 fz2 fi
    go_enter Tryz.func62, Tryz.ntmps62
    have HR := Lib.hid hr
    clear hr
    go_wp2_with (first
      | (at_builtin; refine wpList_append_run rfl (.tmp 20) (.tmp 21) 22 3 rfl _ _ rfl rfl _ _ HR.out ?_))
    go_ret
    exact ⟨_, _, rfl, HO.out, HB.out⟩
/-- A list of nodes somewhere in memory. -/
structure Part where
  A : Option Addr
  c : Nat
  l : List Nm
def Part.val (p : Part) : Value := .slice p.A p.l.length p.c
def cat (ps : List Part) : List Nm := ps.flatMap (·.l)
theorem cat_take {ps : List Part} {k : Nat} (h : k < ps.length) : cat (ps.take (k + 1)) = cat (ps.take k) ++ ps[k].l := by
  unfold cat
  rw [List.take_succ_eq_append_getElem h, List.flatMap_append]
  simp
theorem cat_le {ps : List Part} (k : Nat) : (cat (ps.take k)).length ≤ (cat ps).length := by
  have : cat ps = cat (ps.take k) ++ cat (ps.drop k) := by
    unfold cat
    rw [← List.flatMap_append, List.take_append_drop]
  rw [this]
  simp
set_option maxRecDepth 100000 in
set_option maxHeartbeats 2000000 in
theorem concat_any (A : Option Addr) (cap m : Nat) (ps : List Part) (hm : m = ps.length) (hm3 : m ≤ 1000) (N : Nat) (hN : N = (cat ps).length) (hN48 : N * 48 ≤ 140737488355328) (w : World) (B : Nat) (hB : B ≤ w.heap.size)
    (hs : Seg w B A (ps.map Part.val)) (hp : ∀ p ∈ ps, Seg w B p.A (nmCells p.l)) :
    Calls Tryz.prog 45 #[.slice A m cap] w fun e w' => ∃ A' c', e = .returned (.slice A' N c') ∧ w'.ownsRow w.heap.size 50 3 (.slice A' N c') N (nmCells (cat ps)) ∧ Below w.heap.size w w' := by
  have hgr := grow_any N hN48 w
  obtain ⟨i0, fi, fz0, fz1, fz2⟩ := info_parts Tryz.info50
  have HG := Lib.hid hgr
  have HM := Lib.hid hm
  have HN := Lib.hid hN
  have HS := Lib.hid hs
  have HP := Lib.hid hp
  clear hgr hm hN hs hp
  go_enter Tryz.func45, Tryz.ntmps45
  go_wp2
  go_loopw [11, 3] (fun kv sv wr => ∃ k t : Nat, k ≤ m ∧ kv = .int .i64 k ∧ sv = .int .i64 t ∧ t = (cat (ps.take k)).length ∧ wr = w) (fun kv _ _ => m - (intOf kv).toNat)
  case atStart => exact ⟨0, 0, by omega, rfl, rfl, rfl, rfl⟩
  case round =>
    obtain ⟨k, t, hk, rfl, rfl, ht, rfl⟩ := hrel
    have HT := Lib.hid ht
    clear ht
    by_cases hkm : k < m
    · have hkp : k < ps.length := by rw [← HM.out]; exact hkm
      have hki : (k : Int) < (m : Int) := by omega
      obtain ⟨b, off, rfl, _, hc⟩ := HS.out (by intro e; have := congrArg List.length e; simp at this; subst this; simp at hkp)
      have x0 := hc k ps[k].val (by simp [hkp])
      have hct := cat_take hkp
      have hle := cat_le (ps := ps) (k + 1)
      rw [hct, List.length_append, ← HT.out, ← HN.out] at hle
      have hlen : t + ps[k].l.length = (cat (ps.take (k + 1))).length := by rw [hct, List.length_append, ← HT.out]
      unfold Part.val at x0
      obtain ⟨q, hq⟩ : ∃ q, q = ps[k].l.length := ⟨_, rfl⟩
      rw [← hq] at x0 hle hlen
      have HL := Lib.hid hlen
      clear hq hct hc hlen
      have hb1 : t + q ≤ 2932031007403 := by omega
      have hneg : decide ((t : Int) + (q : Int) < 0) = false := by simp; omega
      go_wp2
      exact ⟨⟨k + 1, t + q, by omega, by go_num, by go_num, HL.out, by first | rfl | trivial⟩, by simp [intOf]; omega⟩
    · obtain rfl : k = m := by omega
      have htN : t = N := by rw [HT.out, HN.out, List.take_of_length_le (by rw [← HM.out]; exact Nat.le_refl _)]
      subst htN
      clear HT
      go_wp2_with (first
        | (go_at_call 62; refine HG.out.mono ?_; rintro e w1 ⟨A1, c1, rfl, ho1, hb1⟩; have HO1 := Lib.hid ho1; have HB1 := Lib.hid hb1; clear ho1 hb1))
      clear HG
      obtain ⟨wz, hwz⟩ : ∃ wz, wz = wr := ⟨_, rfl⟩
      subst hwz
      go_loopw [27, 6] (fun kv sv wr => ∃ (j u : Nat) (Ao : Option Addr) (co : Nat), j ≤ k ∧ kv = .int .i64 j ∧ sv = .slice Ao u co ∧ u = (cat (ps.take j)).length ∧ wr.ownsRow wz.heap.size 50 3 (.slice Ao u co) u (nmCells (cat (ps.take j))) ∧ Below wz.heap.size wz wr) (fun kv _ _ => k - (intOf kv).toNat)
      case atStart => exact ⟨0, 0, A1, c1, by omega, rfl, rfl, rfl, HO1.out, HB1.out⟩
      case round =>
        obtain ⟨j, u, Ao, co, hj, rfl, rfl, hu, ho, hb⟩ := hrel
        have HU := Lib.hid hu
        have HO := Lib.hid ho
        have HB := Lib.hid hb
        clear HO1 HB1 hu ho
        by_cases hjk : j < k
        · have hjp : j < ps.length := by rw [← HM.out]; exact hjk
          have hji : (j : Int) < (k : Int) := by omega
          have hsw := HS.out.below (HB.out.mono hB)
          obtain ⟨b, off, rfl, _, hc⟩ := hsw (by intro e; have := congrArg List.length e; simp at this; subst this; simp at hjp)
          have x0 := hc j ps[j].val (by simp [hjp])
          have hct := cat_take hjp
          have hle := cat_le (ps := ps) (j + 1)
          rw [hct, List.length_append, ← HU.out, ← HN.out] at hle
          have hlen : u + ps[j].l.length = (cat (ps.take (j + 1))).length := by rw [hct, List.length_append, ← HU.out]
          have hsg := (HP.out ps[j] (List.getElem_mem hjp)).below (HB.out.mono hB)
          have hcells : nmCells (cat (ps.take (j + 1))) = nmCells (cat (ps.take j)) ++ nmCells ps[j].l := by rw [hct]; unfold nmCells; rw [List.flatMap_append]
          have hnl := nmCells_len ps[j].l
          have hone := one_nm ps[j].l
          unfold Part.val at x0
          generalize ps[j] = pj at *
          obtain ⟨Aj, cj, lj⟩ := pj
          simp only at x0 hle hlen hsg hcells hnl hone
          obtain ⟨q, hq⟩ : ∃ q, q = lj.length := ⟨_, rfl⟩
          rw [← hq] at x0 hle hlen hnl
          have HL := Lib.hid hlen
          have HSG := Lib.hid hsg
          have HC := Lib.hid hcells
          have HNL := Lib.hid hnl
          clear hq hct hc hlen hsg hcells hnl hsw hb
          go_wp2_with (first
            | (at_builtin; refine wpList_append_seg _ rfl (.tmp 31) (.tmp 32) 22 rfl wz.heap.size 50 i0 _ 3 48 Tryz.underlying22 fi fz0 fz1 fz2 rfl (by decide) _ u (nmCells (cat (ps.take j))) rfl HO.out B Aj q cj (nmCells lj) rfl HNL.out HSG.out hone ?_ ?_ ?_ ?_))
          · unfold maxLen; omega
          · omega
          · exact HB.out.size
          intro v3 w3 hown3 hg3 _
          obtain ⟨A3, c3, rfl⟩ := own_shape hown3
          rw [← HC.out] at hown3
          have hb3 := HB.out.grown hg3 HB.out.size (fun g hg => (HO.out.lt g hg).1)
          have HO3 := Lib.hid hown3
          have HB3 := Lib.hid hb3
          clear hown3 hb3 hg3 hone
          go_wp2_with fail
          exact ⟨⟨j + 1, u + q, A3, c3, by omega, by go_num, rfl, HL.out, HO3.out, HB3.out⟩, by simp [intOf]; omega⟩
        · obtain rfl : j = k := by omega
          have e1 : ps.take j = ps := List.take_of_length_le (by rw [← HM.out]; exact Nat.le_refl _)
          have hfin := HO.out
          have hu2 : u = t := by rw [HU.out, e1, ← HN.out]
          subst hu2
          rw [e1] at hfin
          have HF := Lib.hid hfin
          clear hfin e1
          go_wp2
          go_ret
          exact ⟨Ao, co, rfl, HF.out, HB.out⟩
end Go.Proofs.YtmdnbajbfnhecaaGreatDoor

set_option linter.unusedVariables false
namespace Go.Proofs.YtmdnbajbfnhecaaGreatDoor
open Go.RowKit
theorem graftE_wrong {l p : List Nd} {i : Int} (h : wrongF l i ≠ 0) : wrongF l i = graftE l i p := by unfold graftE; rw [if_pos h]
theorem graftE_piece {l p : List Nd} {i : Int} (h : wrongF l i = 0) (hp : pieceB p = false) : (40 : Int) = graftE l i p := by unfold graftE; rw [if_neg (by simp [h]), if_pos hp]
theorem graftE_ok {l p : List Nd} {i : Int} (h : wrongF l i = 0) (hp : pieceB p = true) : graftE l i p = (checkF (graftF l i p (endN l i.toNat))).2 := by unfold graftE; rw [if_neg (by simp [h]), if_neg (by simp [hp])]
set_option maxRecDepth 100000 in
set_option maxHeartbeats 8000000 in
/-- The first part: what is refused. -/
theorem pgraft_no (A : Option Addr) (cap n : Nat) (l : List Nm) (hn : n = l.length) (hsz : Sized l) (i : Int) (A' : Option Addr) (cap' n' : Nat) (p : List Nm) (hn' : n' = p.length) (hsz' : Sized p) (w : World) (B : Nat) (hB : B ≤ w.heap.size) (hs : Nodes w B A l) (hs' : Nodes w B A' p)
    (hno : wrongF (dat l) i ≠ 0 ∨ pieceB (dat p) = false) :
    Calls Tryz.prog 22 #[.slice A n cap, .int .i64 i, .slice A' n' cap'] w fun e w' => GraftRet (dat l) i (dat p) w' w.heap.size e ∧ Below w.heap.size w w' := by
  have hpl := place_any A cap n l hn hsz i w B hB hs
  have hnn : n' ≤ 2932031007403 := by have := hsz'.n; omega
  by_cases hw0 : wrongF (dat l) i = 0
  case neg =>
    have hfin := fun w' => graftret_no (w' := w') (base := w.heap.size) hw0 (graftE_wrong (p := dat p) hw0)
    generalize wrongF (dat l) i = e0 at *
    have e1 : (e0 != 0) = true := by simpa using hw0
    have HP := Lib.hid hpl
    have HF := Lib.hid hfin
    clear hpl hfin hn hsz hs hw0 hn' hsz' hs' hno
    go_enter Tryz.func22, Tryz.ntmps22
    go_wp2_with (first
      | (go_at_call 34; refine HP.out.mono ?_; rintro e w1 ⟨rfl, hb1⟩; have HB1 := Lib.hid hb1; clear hb1))
    go_ret2
    exact ⟨HF.out _, HB1.out⟩
  have hpb : pieceB (dat p) = false := hno.resolve_left (by simp [hw0])
  have hfin := fun w' => graftret_no (w' := w') (base := w.heap.size) (show (40 : Int) ≠ 0 by omega) (graftE_piece hw0 hpb)
  rw [hw0] at hpl
  have htw := fun w1 (hb : Below w.heap.size w w1) => ptwin_any A' cap' n' p hn' hsz' w1 B (Nat.le_trans hB hb.size) (hs'.below (hb.mono hB))
  have HP := Lib.hid hpl
  have HF := Lib.hid hfin
  have HTW := Lib.hid htw
  clear hpl hfin htw hno
  by_cases h0 : n' = 0
  · subst h0
    clear hn hsz hs hn' hsz' hs' hpb hw0
    go_enter Tryz.func22, Tryz.ntmps22
    go_wp2_with (first
      | (go_at_call 34; refine HP.out.mono ?_; rintro e w1 ⟨rfl, hb1⟩; have HB1 := Lib.hid hb1; clear hb1)
      | (go_at_call 43; refine (HTW.out _ HB1.out).mono ?_; rintro e w2 ⟨A1, c1, l1, rfl, hd1, ho1, hb2⟩; have HB2 := Lib.hid (HB1.out.trans (hb2.mono HB1.out.size)); clear hd1 ho1 hb2))
    go_ret2
    exact ⟨HF.out _, HB2.out⟩
  have hl0 : 0 < p.length := by omega
  have e0 : ((n' : Int) == 0) = false := by rw [beq_eq_false_iff_ne]; omega
  have hn0 : (0 : Int) < (n' : Int) := by omega
  have hn0' : 0 < n' := by omega
  have hps := pieceB_some (l := dat p) (by rw [dat_len]; exact hl0)
  rw [hpb, dat_get p hl0] at hps
  have hnm : ∀ w1, Calls Tryz.prog 44 #[.string p[0].d.n] w1 fun e w' => e = .returned (.int .i64 (if nameB p[0].d.n.data.toList then 0 else 10)) ∧ Below w1.heap.size w1 w' := fun w1 => by
    have := pname_any p[0].d.n w1 (by have := (hsz'.small p[0].d (by unfold dat; exact List.mem_map_of_mem (List.getElem_mem hl0))).1; unfold maxLen; omega)
    unfold nameE at this
    exact this
  have hfirst : ∀ l1 : List Nm, dat l1 = dat p → ∀ h : 0 < l1.length, l1[0].d.n = p[0].d.n := fun l1 hd h => by
    have h1 := dat_at h
    rw [hd, dat_at hl0] at h1
    rw [Option.some.inj h1]
  have hset : ∀ l1 : List Nm, dat l1 = dat p → ∀ h : 0 < l1.length, dat (l1.set 0 ⟨⟨l1[0].d.p, ByteArray.empty, l1[0].d.ps⟩, l1[0].A, l1[0].c⟩) = headless (dat p) := fun l1 hd h => by
    have e : (dat p)[0]'(by rw [dat_len]; exact hl0) = l1[0].d := by
      have h1 := dat_at h
      rw [hd, List.getElem?_eq_getElem (by rw [dat_len]; exact hl0)] at h1
      exact Option.some.inj h1
    rw [dat_set, headless_set (by rw [dat_len]; exact hl0), hd, e]
  have hck : ∀ (A1 : Option Addr) (c1 : Nat) (l1 : List Nm) (w1 : World), n' = l1.length → dat l1 = headless (dat p) → Nodes w1 w1.heap.size A1 l1 → Calls Tryz.prog 23 #[.slice A1 n' c1] w1 fun e w' => e = .returned (.tuple #[.int .i64 (checkF (headless (dat p))).1, .int .i64 (checkF (headless (dat p))).2]) ∧ Below w1.heap.size w1 w' := fun A1 c1 l1 w1 h1 h2 h3 => by
    have := pCheck_any A1 c1 n' l1 h1 (sized_head hsz' h2) w1 w1.heap.size (Nat.le_refl _) h3
    rw [h2] at this
    exact this
  have htwo := check_two (headless (dat p))
  generalize p[0].d.n = s at *
  generalize nameB s.data.toList = bn at *
  generalize checkF (headless (dat p)) = R at *
  obtain ⟨R1, R2⟩ := R
  have HNM := Lib.hid hnm
  have HFI := Lib.hid hfirst
  have HSET := Lib.hid hset
  have HCK := Lib.hid hck
  clear hnm hfirst hset hck hn hsz hs hn' hsz' hs' hpb hw0
  rcases bn with _ | _
  · clear hps htwo
    go_enter Tryz.func22, Tryz.ntmps22
    go_wp2_with (first
      | (go_at_call 34; refine HP.out.mono ?_; rintro e w1 ⟨rfl, hb1⟩; have HB1 := Lib.hid hb1; clear hb1)
      | (go_at_call 43; refine (HTW.out _ HB1.out).mono ?_; rintro e w2 ⟨A1, c1, l1, rfl, hd1, ho1, hb2⟩
         have hl1 : 0 < l1.length := by have := ho1.len; omega
         obtain ⟨g, rfl, hgb, y1, y1f, hst⟩ := ho1.name_ hl1
         rw [HFI.out l1 hd1 hl1] at y1
         simp only [Nat.zero_mul, Nat.zero_add] at y1 y1f
         have HB2 := Lib.hid (HB1.out.trans (hb2.mono HB1.out.size))
         clear hd1 ho1 hb2 hst)
      | (go_at_call 44; refine (HNM.out _).mono ?_; rintro e w3 ⟨rfl, hb3⟩; have HB3 := Lib.hid (HB2.out.trans (hb3.mono HB2.out.size)); clear hb3))
    go_ret2
    exact ⟨HF.out _, HB3.out⟩
  have hR2 : R2 = 40 := by
    rcases htwo with h | h
    · simp at h; subst h; simp at hps
    · exact h
  subst hR2
  clear hps htwo
  go_enter Tryz.func22, Tryz.ntmps22
  go_wp2_with (first
    | (go_at_call 34; refine HP.out.mono ?_; rintro e w1 ⟨rfl, hb1⟩; have HB1 := Lib.hid hb1; clear hb1)
    | (go_at_call 43; refine (HTW.out _ HB1.out).mono ?_; rintro e w2 ⟨A1, c1, l1, rfl, hd1, ho1, hb2⟩
       have hl1 : 0 < l1.length := by have := ho1.len; omega
       obtain ⟨g, rfl, hgb, y1, y1f, hst⟩ := ho1.name_ hl1
       rw [HFI.out l1 hd1 hl1] at y1
       simp only [Nat.zero_mul, Nat.zero_add] at y1 y1f hst
       have HB2 := Lib.hid (HB1.out.trans (hb2.mono HB1.out.size))
       have HD1 := Lib.hid hd1
       have HO1 := Lib.hid ho1
       clear hd1 hb2 hst)
    | (go_at_call 44; refine (HNM.out _).mono ?_; rintro e w3 ⟨rfl, hb3⟩
       have HB3 := Lib.hid (HB2.out.trans (hb3.mono HB2.out.size))
       have ho3 := HO1.out.below hb3
       obtain ⟨g', hg', hgb', z1, z1f, hst⟩ := ho3.name_ hl1
       injection hg' with hg'
       injection hg' with hg'
       subst hg'
       rw [HFI.out l1 HD1.out hl1] at z1
       have ho4 := hst ByteArray.empty
       have hd4 := HSET.out l1 HD1.out hl1
       generalize l1.set 0 ⟨⟨l1[0].d.p, ByteArray.empty, l1[0].d.ps⟩, l1[0].A, l1[0].c⟩ = l2 at ho4 hd4
       simp only [Nat.zero_mul, Nat.zero_add] at z1 z1f ho4
       have HO4 := Lib.hid ho4
       have HD4 := Lib.hid hd4
       have HB4 := Lib.hid (HB3.out.setCell (p := ⟨g, 1, none⟩) (Nat.le_trans HB1.out.size hgb) (.string ByteArray.empty))
       clear hb3 ho3 hst ho4 hd4)
    | (go_at_call 23; refine (HCK.out _ _ _ _ HO4.out.len HD4.out HO4.out.nodes).mono ?_; rintro e w5 ⟨rfl, hb5⟩; have HB5 := Lib.hid (HB4.out.trans (hb5.mono HB4.out.size)); clear hb5))
  go_ret2
  exact ⟨HF.out _, HB5.out⟩
end Go.Proofs.YtmdnbajbfnhecaaGreatDoor

set_option linter.unusedVariables false
namespace Go.Proofs.YtmdnbajbfnhecaaGreatDoor
open Go.RowKit
theorem mix_same {α : Type} {X D : List α} (h : X.length = D.length) {k : Nat} (hk : k < X.length) (e : X[k] = D[k]'(by omega)) : X.take (k + 1) ++ D.drop (k + 1) = X.take k ++ D.drop k := by
  rw [← mix_step h hk, e]
  apply List.ext_getElem?
  intro j
  rw [List.getElem?_set]
  split
  · rename_i e2
    subst e2
    rw [if_pos (by simp; omega), mix_at h hk]
  · rfl
theorem put_zero {p : List Nd} {at_ : Int} {z : Nat} (h : 0 < p.length) : (putF p at_ z)[0]'(by rw [put_len]; exact h) = p[0].par at_ := by rw [put_get h]; rfl
/-- Sizes, of the data alone. -/
structure SizedD (l : List Nd) : Prop where
  n : l.length * 48 ≤ 140737488355328
  small : Small l
  props : ∀ x ∈ l, x.ps.length * 32 ≤ 140737488355328
  wf : ∀ x ∈ l, (Lit.int .i64 x.p).wf = true
theorem SizedD.mem {l : List Nm} (h : SizedD (dat l)) : Sized l :=
  ⟨by have := h.n; rwa [dat_len] at this, h.small, fun x hx => h.props x.d (by unfold dat; exact List.mem_map_of_mem hx), fun x hx => h.wf x.d (by unfold dat; exact List.mem_map_of_mem hx)⟩
theorem graft_sized {l p : List Nm} (hl : Sized l) (hp : Sized p) {k z : Nat} (hn : l.length ≤ 512) (hn' : p.length ≤ 512) (hk : k ≤ 512) (hz : z ≤ 512) (hlb : ∀ x ∈ l, -1 ≤ x.d.p ∧ x.d.p ≤ 512) (hpb : ∀ x ∈ p, -1 ≤ x.d.p ∧ x.d.p ≤ 512) : SizedD (graftF (dat l) k (dat p) z) := by
  have key : ∀ x ∈ graftF (dat l) k (dat p) z, ∃ y : Nm, (y ∈ l ∨ y ∈ p) ∧ x.n = y.d.n ∧ x.ps = y.d.ps ∧ -1 ≤ x.p ∧ x.p ≤ 2000 := fun x hx => by
    unfold graftF at hx
    rcases List.mem_append.1 hx with hx | hx
    · rcases List.mem_append.1 hx with hx | hx
      · have hx := List.mem_of_mem_take hx
        unfold dat at hx
        obtain ⟨y, hy, rfl⟩ := List.mem_map.1 hx
        have := hlb y hy
        exact ⟨y, .inl hy, rfl, rfl, by omega, by omega⟩
      · unfold putF at hx
        obtain ⟨j, hj, rfl⟩ := List.mem_mapIdx.1 hx
        have hj2 : j < p.length := by rwa [dat_len] at hj
        have := hpb _ (List.getElem_mem hj2)
        rw [dat_get p hj2]
        refine ⟨p[j], .inr (List.getElem_mem hj2), rfl, rfl, ?_, ?_⟩ <;> · simp only [Nd.par]; split <;> omega
    · obtain ⟨y, hy, rfl⟩ := List.mem_map.1 hx
      have hy2 := List.mem_of_mem_drop hy
      unfold dat at hy2
      obtain ⟨y2, hy3, rfl⟩ := List.mem_map.1 hy2
      have := hlb y2 hy3
      have hpl : (dat p).length = p.length := dat_len p
      refine ⟨y2, .inl hy3, ?_, ?_, ?_, ?_⟩
      · unfold liftOne; split <;> rfl
      · unfold liftOne; split <;> rfl
      · unfold liftOne; split
        · simp only [Nd.par]; omega
        · omega
      · unfold liftOne; split
        · simp only [Nd.par]; omega
        · omega
  refine ⟨?_, fun x hx => ?_, fun x hx => ?_, fun x hx => ?_⟩
  · unfold graftF
    simp only [List.length_append, List.length_take, put_len, List.length_map, List.length_drop, dat_len]
    omega
  · obtain ⟨y, hy, e1, e2, _⟩ := key x hx
    rw [e1, e2]
    rcases hy with hy | hy
    · exact hl.small y.d (by unfold dat; exact List.mem_map_of_mem hy)
    · exact hp.small y.d (by unfold dat; exact List.mem_map_of_mem hy)
  · obtain ⟨y, hy, e1, e2, _⟩ := key x hx
    rw [e2]
    rcases hy with hy | hy
    · exact hl.props y hy
    · exact hp.props y hy
  · obtain ⟨y, hy, e1, e2, h1, h2⟩ := key x hx
    exact WalkArith.wf_i64 (by omega)
/-- Three lists of the call's own in one new row. -/
theorem cat3 {w1 w2 w3 w4 : World} {b1 b2 b3 b4 n1 n2 n3 c1 c2 c3 N c4 : Nat} {A1 A2 A3 A4 : Option Addr} {l1 l2 l3 : List Nm} (h2 : OwnN w2 b2 A2 n2 c2 l2) (h3 : OwnN w3 b3 A3 n3 c3 l3) (h1 : OwnN w1 b1 A1 n1 c1 l1)
    (hb23 : w2.heap.size ≤ b3) (hb31 : w3.heap.size ≤ b1) (k2 : Below w2.heap.size w2 w4) (k3 : Below w3.heap.size w3 w4) (k1 : Below w1.heap.size w1 w4) {base : Nat} (hbase : base ≤ b2) (hb4 : base ≤ b4) (hbb : b2 ≤ w2.heap.size) (hb3 : b3 ≤ w3.heap.size)
    (hr : w4.ownsRow b4 50 3 (.slice A4 N c4) N (nmCells (l1 ++ l2 ++ l3))) (hN : N = n1 + n2 + n3) : OwnN w4 base A4 N c4 (l1 ++ l2 ++ l3) := by
  refine ⟨by rw [hN, List.length_append, List.length_append, h1.len, h2.len, h3.len], own_base hr hb4, ?_, ?_⟩
  · intro x hx
    rcases List.mem_append.1 hx with hx | hx
    · rcases List.mem_append.1 hx with hx | hx
      · exact own_base ((h1.below k1).props x hx) (by omega)
      · exact own_base ((h2.below k2).props x hx) (by omega)
    · exact own_base ((h3.below k3).props x hx) (by omega)
  · rw [List.pairwise_append, List.pairwise_append]
    refine ⟨⟨h1.apart, h2.apart, fun y hy z hz g hg1 hg2 => ?_⟩, h3.apart, fun y hy z hz g hg1 hg2 => ?_⟩
    · have a1 := ((h1.props y hy).lt g hg1).1
      have a2 := ((h2.props z hz).lt g hg2).2
      omega
    · have a3 := ((h3.props z hz).lt g hg2)
      rcases List.mem_append.1 hy with hy | hy
      · have a1 := ((h1.props y hy).lt g hg1).1
        omega
      · have a1 := ((h2.props y hy).lt g hg1).2
        omega
end Go.Proofs.YtmdnbajbfnhecaaGreatDoor
