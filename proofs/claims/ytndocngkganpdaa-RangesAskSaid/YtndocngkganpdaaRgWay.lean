/- ranges.way and through: the contracts. -/
import Derived.Test.YtndocngkganpdaaRgCar
set_option linter.unusedVariables false
namespace Go.Proofs.Ytndocngkganpdaa
open Go.RowKit
theorem info3 : (Try.prog.info? 3).map (fun i => (i.zero, i.size, i.bytes)) = some (some (.int .i64 0), 1, 8) := by kernel_rfl
/-- Parents lie before their kids. -/
def Ups (l : List Nd) : Prop := ∀ k : Nat, 0 < k → k < l.length → 0 ≤ parAt l k ∧ parAt l k < k
theorem ups_par {l : List Nd} (h : Ups l) {k : Nat} (h0 : 0 < k) (hk : k < l.length) : parN l k < k ∧ parAt l k = (parN l k : Nat) := by
  have := h k h0 hk
  unfold parN
  omega
theorem way_fuel {l : List Nd} (h : Ups l) : ∀ (f g i : Nat), i < l.length → i ≤ f → i ≤ g → wayG l f i = wayG l g i
  | 0, g, i, hi, hf, hg => by
    obtain rfl : i = 0 := by omega
    cases g <;> simp [wayG]
  | f + 1, 0, i, hi, hf, hg => by
    obtain rfl : i = 0 := by omega
    simp [wayG]
  | f + 1, g + 1, i, hi, hf, hg => by
    unfold wayG
    by_cases h0 : i = 0
    · rw [if_pos h0, if_pos h0]
    · rw [if_neg h0, if_neg h0]
      have := ups_par h (by omega) hi
      rw [way_fuel h f g (parN l i) (by omega) (by omega) (by omega)]
theorem way_zero (l : List Nd) : wayF l 0 = [] := rfl
theorem way_step {l : List Nd} (h : Ups l) {i : Nat} (h0 : 0 < i) (hi : i < l.length) : wayF l i = i :: wayF l (parN l i) := by
  unfold wayF
  have := ups_par h h0 hi
  obtain ⟨f, rfl⟩ : ∃ f, i = f + 1 := ⟨i - 1, by omega⟩
  rw [wayG, if_neg (by omega), way_fuel h f (parN l (f + 1)) _ (by omega) (by omega) (by omega)]
theorem way_mem {l : List Nd} (h : Ups l) : ∀ (i : Nat), i < l.length → ∀ x ∈ wayF l i, 0 < x ∧ x ≤ i := by
  intro i
  induction i using Nat.strongRecOn with
  | ind i ih =>
    intro hi x hx
    rcases Nat.eq_zero_or_pos i with rfl | h0
    · rw [way_zero] at hx; cases hx
    · rw [way_step h h0 hi] at hx
      have := ups_par h h0 hi
      rcases List.mem_cons.1 hx with rfl | hx
      · omega
      · have := ih _ this.1 (by omega) x hx
        omega
theorem way_len {l : List Nd} (h : Ups l) : ∀ (i : Nat), i < l.length → (wayF l i).length ≤ i := by
  intro i
  induction i using Nat.strongRecOn with
  | ind i ih =>
    intro hi
    rcases Nat.eq_zero_or_pos i with rfl | h0
    · rw [way_zero]; simp
    · rw [way_step h h0 hi]
      have := ups_par h h0 hi
      have := ih _ this.1 (by omega)
      simp; omega
/-- A list of places as it lies. -/
def nats (l : List Nat) : List Value := i64s (l.map Int.ofNat)
theorem nats_snoc (l : List Nat) (x : Nat) : nats (l ++ [x]) = nats l ++ [.int .i64 (x : Int)] := by
  unfold nats i64s; simp
set_option maxRecDepth 100000 in
set_option maxHeartbeats 16000000 in
theorem way_any (A : Option Addr) (cap n : Nat) (l : List Nm) (hn : n = l.length) (hl : n ≤ 2932031007403) (hu : Ups (dat l)) (i : Nat) (hi : i < n) (w : World) (B : Nat) (hB : B ≤ w.heap.size) (hs : Nodes w B A l) :
    Calls Try.prog 31 #[.slice A n cap, .int .i64 (i : Nat)] w fun e w' => (∃ Aw cw, e = .returned (.slice Aw (wayF (dat l) i).length cw) ∧ w'.ownsRow w.heap.size 3 1 (.slice Aw (wayF (dat l) i).length cw) (wayF (dat l) i).length (nats (wayF (dat l) i))) ∧ Below w.heap.size w w' := by
  obtain ⟨i1, gi, gz0, gz1, gz2⟩ := info_parts info3
  obtain ⟨W, hW⟩ : ∃ W, W = wayF (dat l) i := ⟨_, rfl⟩
  rw [← hW]
  have HWL := Lib.hid (show W.length ≤ i from by rw [hW]; exact way_len hu i (by rw [dat_len, ← hn]; exact hi))
  have HW := Lib.hid hW
  have HN := Lib.hid hn
  have HS := Lib.hid hs
  clear hn hs hW
  go_enter Try.func31, Try.ntmps31
  go_wp2_with fail
  go_loopw [1, 5] (fun jv ov wx => ∃ (j k : Nat) (Aw : Option Addr) (cw : Nat) (D : List Nat), jv = .int .i64 j ∧ j ≤ i ∧ ov = .slice Aw k cw ∧ D.length = k ∧ D ++ wayF (dat l) j = W ∧ wx.ownsRow w.heap.size 3 1 ov k (nats D) ∧ Below w.heap.size w wx) (fun jv _ _ => (intOf jv).toNat)
  case atStart => exact ⟨i, 0, none, 0, [], rfl, Nat.le_refl _, rfl, rfl, HW.out.symm, World.ownsRow_nil _ _ _ _, Below.refl _ _⟩
  case round =>
    obtain ⟨j, k, Aw, cw, D, rfl, hj, rfl, hDk, hDW, hrow, hb⟩ := hrel
    have HDK := Lib.hid hDk
    have HDW := Lib.hid hDW
    have HROW := Lib.hid hrow
    have HB := Lib.hid hb
    have hbs := hb.size
    have hkW : k ≤ i := by
      have := congrArg List.length hDW
      rw [List.length_append] at this
      have := HWL.out
      omega
    by_cases h0 : 0 < j
    · have hji : (0 : Int) < (j : Int) := by omega
      have hjl : j < l.length := by rw [← HN.out]; omega
      have hjn : (j : Int) < (n : Int) := by omega
      have hup := ups_par hu h0 (by rw [dat_len]; exact hjl)
      have hws := way_step hu h0 (by rw [dat_len]; exact hjl)
      have hpj : l[j].d.p = (parN (dat l) j : Nat) := by rw [← par_get l hjl]; exact hup.2
      have hup1 := hup.1
      obtain ⟨q, hq⟩ : ∃ q, q = parN (dat l) j := ⟨_, rfl⟩
      rw [← hq] at hws hpj hup1
      have HWS := Lib.hid hws
      obtain ⟨b, off, eA, hbB, x0, _⟩ := (HS.out.below (hb.mono hB)).at_ hjl
      subst eA
      rw [hpj] at x0
      have hbw : b < w.heap.size := Nat.lt_of_lt_of_le hbB hB
      clear hDk hDW hrow hb hup hws hpj hq
      go_wp2_with (first
        | (at_builtin; refine wpList_push rfl (.tmp 13) (.tmp 15) 67 rfl w.heap.size 3 i1 _ 1 8 Try.underlying67 gi gz0 gz1 gz2 rfl (by decide) _ k (nats D) rfl HROW.out #[.int .i64 (j : Int)] rfl rfl ?_ ?_ ?_ ?_ ?_)
        | fail)
      · first | rfl | (intro u hu; simp at hu; subst hu; rfl)
      · unfold maxLen; omega
      · omega
      · exact hbs
      intro A3 c3 w3 hown3 hp3
      have x3 : w3.cell? ⟨b, off + j * 3, none⟩ = some (.int .i64 (q : Int)) := (hp3.low.cell (p := ⟨b, off + j * 3, none⟩) hbw).trans x0
      have HB3 := Lib.hid (HB.out.trans hp3.low)
      have hown4 : w3.ownsRow w.heap.size 3 1 (.slice A3 (k + 1) c3) (k + 1) (nats (D ++ [j])) := by rw [nats_snoc]; exact hown3
      have H3 := Lib.hid hown4
      have HD2 := Lib.hid (show (D ++ [j]).length = k + 1 by rw [List.length_append, HDK.out]; rfl)
      have HW2 := Lib.hid (show (D ++ [j]) ++ wayF (dat l) q = W by rw [← HDW.out, HWS.out, List.append_assoc]; rfl)
      clear hown3 hown4 hp3 x0
      go_wp2_with fail
      exact ⟨⟨q, k + 1, A3, c3, D ++ [j], rfl, by omega, rfl, HD2.out, HW2.out, H3.out, HB3.out⟩, by simp [intOf]; omega⟩
    · obtain rfl : j = 0 := by omega
      have hDW2 : D = W := by rw [← HDW.out, way_zero, List.append_nil]
      subst hDW2
      have HK := Lib.hid hDk
      clear hDk hDW hrow hb HDW HDK
      go_wp2_with fail
      go_ret
      refine ⟨⟨Aw, cw, ?_, ?_⟩, HB.out⟩
      · rw [HK.out]; rfl
      · rw [HK.out]; exact HROW.out
/-- A window carried through some buses. -/
def thrL (l : List Nd) (down : Bool) : List Nat → Nat → Nat → Nat × Int
  | [], b, _ => (b, 0)
  | i :: r, b, s => if (carM (mapsF l i) b s down).2 ≠ 0 then (0, (carM (mapsF l i) b s down).2) else thrL l down r (carM (mapsF l i) b s down).1 s
theorem car_lt {m : List Mp × Bool × Int} (h : GoodM m.1) {b s : Nat} (hb : b < 18446744073709551616) (down : Bool) : (carM m b s down).1 < 18446744073709551616 := by
  unfold carM
  split
  · exact hb
  · split
    · exact hb
    · split
      · rename_i x hx
        exact (good_to h (List.mem_of_find?_eq_some hx) down (b := b) (s := s) (by have := List.find?_some hx; exact this)).2
      · show (0 : Nat) < _; omega
theorem thr_lt {l : List Nd} {down : Bool} : ∀ (buses : List Nat) (b s : Nat), b < 18446744073709551616 → (thrL l down buses b s).1 < 18446744073709551616
  | [], b, s, hb => hb
  | i :: r, b, s, hb => by
    unfold thrL
    split
    · show (0 : Nat) < _; omega
    · exact thr_lt r _ s (car_lt (maps_goodM l i) hb down)
theorem rowAt_box (w : World) (e : TypeId) (cs : List Value) : RowAt (w.alloc (.cells cs.toArray e)) w.heap.size e cs := ⟨cs.toArray, heap_alloc_new _ _, by simp⟩
set_option maxRecDepth 100000 in
set_option maxHeartbeats 16000000 in
theorem through_any (A : Option Addr) (cap n : Nat) (l : List Nm) (hn : n = l.length) (hsz : Sized l) (hsh : ShortL (dat l)) (hu : Ups (dat l)) (A2 : Option Addr) (c2 m : Nat) (buses : List Nat) (hm : m = buses.length) (hm5 : m ≤ 1048576) (hbu : ∀ i ∈ buses, 0 < i ∧ i < n) (b s : Nat) (hb64 : b < 18446744073709551616) (hs64 : s < 18446744073709551616) (down : Bool) (w : World) (B B2 : Nat) (hB : B ≤ w.heap.size) (hs : Nodes w B A l) (hB2 : B2 ≤ w.heap.size) (hs2 : Seg w B2 A2 (nats buses)) :
    Calls Try.prog 30 #[.slice A n cap, .slice A2 m c2, .agg #[.int .u64 (b : Nat), .int .u64 (s : Nat)], .bool down] w fun e w' => e = .returned (.tuple #[.int .u64 ((thrL (dat l) down buses b s).1 : Nat), .int .i64 (thrL (dat l) down buses b s).2]) ∧ Below w.heap.size w w' := by
  obtain ⟨res, hres⟩ : ∃ res, res = thrL (dat l) down buses b s := ⟨_, rfl⟩
  rw [← hres]
  have HRES := Lib.hid hres
  have CA : ∀ (i : Nat), 0 < i → i < n → ∀ (b : Nat), b < 18446744073709551616 → ∀ W, Below w.heap.size w W → Calls Try.prog 36 #[.slice A n cap, .int .i64 (i : Nat), .agg #[.int .u64 (b : Nat), .int .u64 (s : Nat)], .bool down] W fun e w' => e = .returned (.tuple #[.int .u64 ((carM (mapsF (dat l) i) b s down).1 : Nat), .int .i64 (carM (mapsF (dat l) i) b s down).2]) ∧ Below W.heap.size W w' := fun i h0 hi b hb W hW => by
    have hp := hu i h0 (by rw [dat_len, ← hn]; exact hi)
    exact carried_any A cap n l hn hsz hsh i hi hp.1 (by omega) b s hb hs64 down W B (Nat.le_trans hB hW.size) (hs.below (hW.mono hB))
  have HCA := Lib.hid CA
  have HM := Lib.hid hm
  have HBU := Lib.hid hbu
  have HS2 := Lib.hid hs2
  have hb0 : Below w.heap.size w (w.alloc (.cells #[.int .u64 (b : Int), .int .u64 (s : Int)] 31)) := (Below.refl _ w).alloc (Nat.le_refl _) _
  have HR0 := Lib.hid (rowAt_box w 31 [.int .u64 (b : Int), .int .u64 (s : Int)])
  have HB0 := Lib.hid hb0
  clear hres CA hn hsz hsh hm hbu hs hs2 hb0 hu
  go_enter Try.func30, Try.ntmps30
  go_wp2_with fail
  go_loopw [16] (fun iv wx => ∃ k bk : Nat, k ≤ m ∧ iv = .int .i64 k ∧ bk < 18446744073709551616 ∧ thrL (dat l) down (buses.drop k) bk s = res ∧ RowAt wx w.heap.size 31 [.int .u64 (bk : Int), .int .u64 (s : Int)] ∧ Below w.heap.size w wx) (fun iv _ => m - (intOf iv).toNat)
  case atStart => exact ⟨0, b, by omega, rfl, hb64, HRES.out.symm, HR0.out, HB0.out⟩
  case round =>
    obtain ⟨k, bk, hk, rfl, hbk, hth, hro, hb⟩ := hrel
    have HTH := Lib.hid hth
    have HRO := Lib.hid hro
    have HB := Lib.hid hb
    have hltz : w.heap.size < wr.heap.size := hro.lt
    have c0 := hro.cell (k := 0) (by simp)
    have c1 := hro.cell (k := 1) (by simp)
    simp only [List.getElem?_cons_zero, List.getElem?_cons_succ] at c0 c1
    by_cases hkm : k < m
    · have hkl : k < buses.length := by rw [← HM.out]; exact hkm
      have hki : (k : Int) < (m : Int) := by omega
      obtain ⟨g, off, eA, hg, x0⟩ := (HS2.out.below (hb.mono hB2)).i64 (k := k) (by simpa using hkl)
      subst eA
      rw [List.getElem_map] at x0
      have hbi := HBU.out buses[k] (List.getElem_mem hkl)
      have hdr : buses.drop k = buses[k] :: buses.drop (k + 1) := List.drop_eq_getElem_cons hkl
      rw [hdr] at hth
      obtain ⟨i, hi⟩ : ∃ i, i = buses[k] := ⟨_, rfl⟩
      rw [← hi] at x0 hbi hth
      have x0 : wr.cell? ⟨g, off + k, none⟩ = some (.int .i64 (i : Int)) := x0
      have CB := HCA.out i hbi.1 hbi.2 bk hbk wr hb
      have hcl := car_lt (maps_goodM (dat l) i) (s := s) hbk down
      unfold thrL at hth
      generalize carM (mapsF (dat l) i) bk s down = C at *
      obtain ⟨cb, ce⟩ := C
      have HCB := Lib.hid CB
      clear hdr hi hro hb CB
      by_cases hce : ce = 0
      · subst hce
        rw [if_neg (fun h => h rfl)] at hth
        have HT2 := Lib.hid hth
        have hcl : cb < 18446744073709551616 := hcl
        clear hth
        go_wp2_with (first
          | (go_at_call 36; refine HCB.out.mono ?_; rintro e w2 ⟨rfl, hb2⟩
             have HB2 := Lib.hid (below_next HB.out hb2)
             have r2 : RowAt w2 w.heap.size 31 [.int .u64 (bk : Int), .int .u64 (s : Int)] := HRO.out.keep (hb2.block _ hltz)
             have hst := r2.store 0 (.int .u64 (cb : Int))
             have HST := Lib.hid hst
             have d0 := r2.cell (k := 0) (by simp)
             have d1 := r2.frozen 0
             simp only [List.getElem?_cons_zero] at d0
             have hlt2 : w.heap.size < w2.heap.size := r2.lt
             clear hb2 r2 hst)
          | fail)
        refine ⟨⟨k + 1, cb, hkm, by go_num, hcl, HT2.out, HST.out, HB2.out.setCell (Nat.le_refl _) _⟩, by simp [intOf]; omega⟩
      · have d1 : (ce == 0) = false := by rw [beq_eq_false_iff_ne]; exact hce
        rw [if_pos hce] at hth
        obtain rfl : res = (0, ce) := hth.symm
        clear hth HTH HRES
        go_wp2_with (first
          | (go_at_call 36; refine HCB.out.mono ?_; rintro e w2 ⟨rfl, hb2⟩
             have HB2 := Lib.hid (below_next HB.out hb2)
             clear hb2)
          | fail)
        go_ret2
        exact ⟨rfl, HB2.out⟩
    · obtain rfl : k = m := by omega
      have h9 : buses.drop k = [] := List.drop_eq_nil_of_le (by rw [HM.out]; exact Nat.le_refl _)
      rw [h9] at hth
      obtain rfl : res = (bk, 0) := hth.symm
      clear hth HTH HRES h9 hro hb
      go_wp2_with fail
      go_ret2
      exact ⟨rfl, HB.out⟩
end Go.Proofs.Ytndocngkganpdaa
