/- The document's Rates: the contract, and when it agrees with the program's. -/
import Derived.Test.YtbahclnpgdejlaaSet
import Derived.Test.YtbahclnpgdejlaaOpenClk
set_option linter.unusedVariables false
namespace Go.Proofs.Ytbahclnpgdejlaa
open Go.RowKit
/-- The document's rates: none above 2^41; does each fit? -/
def capStep (rs : List Int) (c : Clk) : List Int := rs ++ [min (baseOf rs c * c.mul / c.div) 2199023255552]
def capRates (l : List Clk) : List Int := l.foldl capStep []
def fitB (r : Int) (c : Clk) : Bool := decide (c.lo ≤ r) && decide (r ≤ c.hi)
def capFit (l : List Clk) (k : Nat) : Bool := match l[k]? with | some c => fitB ((capRates l).getD k 0) c | none => true
theorem capRates_snoc (l : List Clk) (k : Nat) (h : k < l.length) : capRates (l.take (k + 1)) = capRates (l.take k) ++ [min (baseOf (capRates (l.take k)) l[k] * l[k].mul / l[k].div) 2199023255552] := by
  unfold capRates
  rw [List.take_succ_eq_append_getElem h, List.foldl_append]
  rfl
theorem capfold_len (l : List Clk) : ∀ rs, (l.foldl capStep rs).length = rs.length + l.length := by
  induction l with
  | nil => intro rs; rfl
  | cons c l ih => intro rs; rw [List.foldl_cons, ih]; simp [capStep]; omega
theorem capRates_len (l : List Clk) : (capRates l).length = l.length := by simp [capRates, capfold_len]
theorem capfold_pre (l : List Clk) : ∀ rs, ∃ t, l.foldl capStep rs = rs ++ t := by
  induction l with
  | nil => intro rs; exact ⟨[], by simp⟩
  | cons c l ih => intro rs; obtain ⟨t, ht⟩ := ih (capStep rs c); exact ⟨_, by rw [List.foldl_cons, ht, capStep, List.append_assoc]⟩
theorem capRates_pre (l : List Clk) (k : Nat) : ∃ t, capRates l = capRates (l.take k) ++ t := by
  obtain ⟨t, ht⟩ := capfold_pre (l.drop k) (capRates (l.take k))
  refine ⟨t, ?_⟩
  rw [← ht]
  unfold capRates
  rw [← List.foldl_append, List.take_append_drop]
theorem capRates_at (l : List Clk) (k : Nat) (h : k < l.length) : (capRates l).getD k 0 = min (baseOf (capRates (l.take k)) l[k] * l[k].mul / l[k].div) 2199023255552 := by
  obtain ⟨t, ht⟩ := capRates_pre l (k + 1)
  rw [ht, capRates_snoc l k h, List.append_assoc]
  have hl : (capRates (l.take k)).length = k := by rw [capRates_len]; simp; omega
  simp [List.getD, hl]
theorem capRates_same (l : List Clk) (k j : Nat) (hj : j < k) (hk : k ≤ l.length) : (capRates (l.take k)).getD j 0 = (capRates l).getD j 0 := by
  obtain ⟨t, ht⟩ := capRates_pre l k
  have hl : (capRates (l.take k)).length = k := by rw [capRates_len]; simp; omega
  rw [ht]
  simp [List.getD, List.getElem?_append_left, hl, hj]
/-- No base is above 2^41. -/
theorem cap_bd {l : List Clk} (hg : Good l) : ∀ k, k < l.length → 0 ≤ (capRates l).getD k 0 ∧ (capRates l).getD k 0 ≤ 2199023255552 := by
  intro k
  induction k using Nat.strongRecOn with
  | _ k ih =>
    intro hk
    rw [capRates_at l k hk]
    have o := hg.at_ hk
    have hb : 0 ≤ baseOf (capRates (l.take k)) l[k] := by
      unfold baseOf
      rcases o.src with ⟨h1, h2, h3⟩ | ⟨h1, h2, h3⟩
      · rw [if_pos (by omega)]; exact h2
      · rw [if_neg (by omega), capRates_same l k _ (by omega) (by omega)]
        exact (ih _ (by omega) (by omega)).1
    have := Int.ediv_nonneg (Int.mul_nonneg hb (show 0 ≤ l[k].mul by have := o.m1; omega)) (show 0 ≤ l[k].div by have := o.d1; omega)
    omega
theorem capbase_bd {l : List Clk} (hg : Good l) {k : Nat} (hk : k < l.length) : 0 ≤ baseOf (capRates (l.take k)) l[k] ∧ baseOf (capRates (l.take k)) l[k] ≤ 2199023255552 := by
  have o := hg.at_ hk
  unfold baseOf
  rcases o.src with ⟨h1, h2, h3⟩ | ⟨h1, h2, h3⟩
  · rw [if_pos (by omega)]; omega
  · rw [if_neg (by omega), capRates_same l k _ (by omega) (by omega)]
    exact cap_bd hg _ (by omega)
theorem capprod_bd {v M D : Int} (h1 : 0 ≤ v) (h2 : v ≤ 2199023255552) (h3 : 1 ≤ M) (h4 : M ≤ 65535) (h5 : 1 ≤ D) : 0 ≤ v * M ∧ v * M ≤ 144112989052600320 ∧ 0 ≤ v * M / D ∧ v * M / D ≤ 144112989052600320 := by
  have a1 : 0 ≤ v * M := Int.mul_nonneg h1 (by omega)
  have a2 : v * M ≤ v * 65535 := Int.mul_le_mul_of_nonneg_left h4 h1
  have a3 : 0 ≤ v * M / D := Int.ediv_nonneg a1 (by omega)
  have a4 : v * M / D ≤ v * M := Int.ediv_le_self _ a1
  exact ⟨a1, by omega, a3, by omega⟩
/-- As long as all fit the two agree. -/
theorem cap_agree {l : List Clk} (hg : Good l) : ∀ k, k ≤ l.length → (∀ j, j < k → capFit l j = true) → capRates (l.take k) = ratesOf (l.take k)
  | 0, _, _ => by simp [capRates, ratesOf]
  | k + 1, hk, hf => by
    have ih := cap_agree hg k (by omega) (fun j hj => hf j (by omega))
    rw [capRates_snoc l k (by omega), ratesOf_snoc l k (by omega), ih]
    have h := hf k (by omega)
    unfold capFit at h
    rw [List.getElem?_eq_getElem (by omega)] at h
    simp only at h
    rw [capRates_at l k (by omega), ih] at h
    have o := hg.at_ (show k < l.length by omega)
    have := o.hi
    simp [fitB] at h
    rw [show min (baseOf (ratesOf (l.take k)) l[k] * l[k].mul / l[k].div) 2199023255552 = baseOf (ratesOf (l.take k)) l[k] * l[k].mul / l[k].div by omega]
theorem cap_fit_at {l : List Clk} (hg : Good l) {k : Nat} (hk : k < l.length) (hf : ∀ j, j < k → capFit l j = true) : capFit l k = fitsAt l k := by
  have ha := cap_agree hg k (by omega) hf
  unfold capFit
  rw [List.getElem?_eq_getElem hk, fitsAt_get l k hk, ratesOf_at l k hk]
  simp only [fitB]
  rw [capRates_at l k hk, ha]
  have o := hg.at_ hk
  have := o.hi
  obtain ⟨x, hx⟩ : ∃ x, x = baseOf (ratesOf (l.take k)) l[k] * l[k].mul / l[k].div := ⟨_, rfl⟩
  rw [← hx, Bool.eq_iff_iff]
  simp
  omega
theorem cap_all {l : List Clk} (hg : Good l) : ∀ k, k ≤ l.length → ((∀ j, j < k → capFit l j = true) ↔ ∀ j, j < k → fitsAt l j = true)
  | 0, _ => by simp
  | k + 1, hk => by
    have ih := cap_all hg k (by omega)
    constructor
    · intro h j hj
      rcases (show j < k ∨ j = k by omega) with hj | rfl
      · exact ih.1 (fun j hj => h j (by omega)) j hj
      · rw [← cap_fit_at hg (by omega) (fun i hi => h i (by omega))]; exact h j (by omega)
    · intro h j hj
      have h2 := ih.2 (fun j hj => h j (by omega))
      rcases (show j < k ∨ j = k by omega) with hj | rfl
      · exact h2 j hj
      · rw [cap_fit_at hg (by omega) h2]; exact h j (by omega)
theorem cap_rates {l : List Clk} (hg : Good l) (hf : ∀ j, j < l.length → fitsAt l j = true) : capRates l = ratesOf l := by
  have := cap_agree hg l.length (Nat.le_refl _) ((cap_all hg l.length (Nat.le_refl _)).2 hf)
  simpa using this
def capOk (l : List Clk) (k : Nat) : Bool := (List.range k).all (capFit l)
theorem capOk_succ (l : List Clk) (k : Nat) : capOk l (k + 1) = (capOk l k && capFit l k) := by
  unfold capOk
  rw [List.range_succ, List.all_append]
  simp
set_option maxRecDepth 100000 in
set_option maxHeartbeats 2000000 in
theorem rates_any (A : Option Addr) (cap : Nat) (l : List Clk) (n : Nat) (hn : n = l.length) (hg : Good l) (w : World) (B : Nat) (hB : B ≤ w.heap.size) (hs : Seg w B A (clkCells l)) (hl : n ≤ 2513169434843) :
    Calls Try.prog 33 #[.slice A n cap] w fun e w' => ∃ A' c', e = .returned (.tuple #[.slice A' n c', .bool (capOk l n)]) ∧
      w'.ownsRow w.heap.size 2 1 (.slice A' n c') n (i64s (capRates l)) ∧ Below w.heap.size w w' := by
  have Hn := Lib.hid hn
  have Hg := Lib.hid hg
  clear hn hg
  obtain ⟨i0, fi, fz0, fz1, fz2⟩ := info_parts Try.info2
  go_enter Try.func33, Try.ntmps33
  go_wp2
  go_loopw [4, 5, 6] (fun o b i wr => ∃ k : Nat, k ≤ n ∧ i = .int .i64 k ∧ b = .bool (capOk l k) ∧ (∃ A c, o = .slice A k c) ∧ wr.ownsRow w.heap.size 2 1 o k (i64s (capRates (l.take k))) ∧ Below w.heap.size w wr) (fun _ _ i _ => n - (intOf i).toNat)
  case atStart => exact ⟨0, by omega, rfl, rfl, ⟨none, 0, rfl⟩, by simpa [capRates, i64s] using World.ownsRow_nil _ _ _ _, Below.refl _ _⟩
  case round =>
    obtain ⟨k, hk, rfl, rfl, ⟨Ao, co, rfl⟩, hown, hb⟩ := hrel
    have hsr := hs.below (hb.mono hB)
    have HB := Lib.hid hb
    have HO := Lib.hid hown
    clear hb hown
    by_cases hlt : k < n
    · have hkl : k < l.length := by rw [← Hn.out]; exact hlt
      obtain ⟨x, hx⟩ : ∃ x, x = min (baseOf (capRates (l.take k)) l[k] * l[k].mul / l[k].div) 2199023255552 := ⟨_, rfl⟩
      have hsn := capRates_snoc l k hkl
      rw [← hx] at hsn
      have hfk : capFit l k = fitB x l[k] := by unfold capFit; rw [List.getElem?_eq_getElem hkl]; simp only; rw [capRates_at l k hkl, ← hx]
      obtain ⟨v, hv⟩ : ∃ v, v = baseOf (capRates (l.take k)) l[k] := ⟨_, rfl⟩
      have ok := Hg.out.at_ hkl
      obtain ⟨vb1, vb2⟩ := capbase_bd Hg.out hkl
      have hbf : (l[k].frm < 0 ∧ v = l[k].rate) ∨ ∃ f : Nat, l[k].frm = f ∧ f < k ∧ v = (capRates (l.take k)).getD f 0 := by
        rcases ok.src with ⟨h1, _, _⟩ | ⟨h1, h2, _⟩
        · left; exact ⟨by omega, by rw [hv]; unfold baseOf; rw [if_pos (by omega)]⟩
        · right; exact ⟨l[k].frm.toNat, by omega, by omega, by rw [hv]; unfold baseOf; rw [if_neg (by omega)]⟩
      obtain ⟨b, off, rfl, hbb, h0, h1, h2, h3, h4, h5, h6⟩ := hsr.clk hkl
      have hcl : ∀ f : Nat, f < k → ∃ g, Ao = some ⟨g, 0, none⟩ ∧ wr.cell? ⟨g, f, none⟩ = some (.int .i64 ((capRates (l.take k)).getD f 0)) := by
        intro f hf
        obtain ⟨g, hA, _, _, hr⟩ := RowAt.of_own HO.out (by omega)
        refine ⟨g, hA, ?_⟩
        have hl2 : f < (capRates (l.take k)).length := by rw [capRates_len]; simp; omega
        rw [hr.cell (by rw [i64s_len]; exact hl2), i64s_get _ _ hl2]
      rw [← hv] at vb1 vb2 hx
      obtain ⟨c, hc⟩ : ∃ c, c = l[k] := ⟨_, rfl⟩
      rw [← hc] at h0 h1 h2 h3 h4 h5 h6 ok hfk hx hbf
      obtain ⟨o1, o2, o3, o4, o5, o6, o7⟩ := ok
      obtain ⟨F, R, M, D, L, H, s⟩ := c
      dsimp only at h0 h1 h2 h3 h4 h5 h6 o1 o2 o3 o4 o5 o6 hx hbf
      clear o7 hc hv
      obtain ⟨p1, p2, p3, p4⟩ := capprod_bd vb1 vb2 o1 o2 o3
      have hki : (k : Int) < (n : Int) := by omega
      have e1 : IntKind.i64.wrap (v * M) = v * M := IntWalk.i64_in _ (by omega)
      have e2 : IntKind.i64.wrap ((v * M).tdiv D) = v * M / D := IntWalk.i64_quo _ _ (by omega)
      have e3 : ¬ D = 0 := by omega
      have HSN := Lib.hid hsn
      have HFK := Lib.hid hfk
      have e4 : (if (2199023255552 : Int) < v * M / D then 2199023255552 else v * M / D) = x := by rw [hx]; split <;> omega
      have HX := Lib.hid hx
      obtain ⟨bo, hbo⟩ : ∃ bo, bo = capOk l k := ⟨_, rfl⟩
      rw [← hbo]
      have HBO := Lib.hid hbo
      clear hsn hfk hx hs hsr hbo
      rcases bo with _ | _
      · have hL : True := trivial
        rcases hbf with ⟨hF, rfl⟩ | ⟨f, rfl, hf, hvf⟩
        · clear hcl
          go_wp2_with fail
          go_quiet (fail)
          go_wp2_with (at_builtin; refine wpList_append_seg _ rfl (.tmp 67) (.tmp 69) 63 rfl w.heap.size 2 i0 _ 1 8 Try.underlying63 fi fz0 fz1 fz2 rfl (by decide) _ k (i64s (capRates (l.take k))) rfl (World.ownsRow.alloc (w := wr.drewN nq) HO.out _) ((wr.drewN nq).heap.size + 1) (some ⟨wr.heap.size, 0, none⟩) 1 1 [.int .i64 x] rfl rfl (seg_new (wr.drewN nq) 2 #[.int .i64 x]) ?_ ?_ ?_ ?_ ?_)
          · first | exact rfl | (intro u hu; simp at hu; subst hu; rfl)
          · unfold maxLen; omega
          · omega
          · have := HB.out.size; simp; omega
          intro v3 w3 hown3 hg3 _
          obtain ⟨A3, c3, rfl⟩ := own_shape hown3
          have hb3 : Below w.heap.size w w3 := ((below_drewN HB.out nq).alloc HB.out.size _).grown hg3 (by have := HB.out.size; simp; omega) (fun g hg => by have := (HO.out.lt g hg).1; omega)
          have ht : i64s (capRates (l.take k)) ++ [.int .i64 x] = i64s (capRates (l.take (k + 1))) := by rw [HSN.out]; simp [i64s]
          rw [ht] at hown3
          have H3 := Lib.hid hown3
          have HB3 := Lib.hid hb3
          clear hown3 hb3 hg3 ht e4
          go_wp2
          go_roundw
          case rel => exact ⟨k + 1, by omega, by go_num, by rw [capOk_succ, ← HBO.out, HFK.out]; unfold fitB; simp, ⟨A3, c3, rfl⟩, H3.out, HB3.out⟩
          case measure => simp [intOf]; omega
        · obtain ⟨g, rfl, hc⟩ := hcl f hf
          rw [← hvf] at hc
          clear hcl hvf
          go_wp2_with fail
          go_quiet (fail)
          go_wp2_with (at_builtin; refine wpList_append_seg _ rfl (.tmp 67) (.tmp 69) 63 rfl w.heap.size 2 i0 _ 1 8 Try.underlying63 fi fz0 fz1 fz2 rfl (by decide) _ k (i64s (capRates (l.take k))) rfl (World.ownsRow.alloc (w := wr.drewN nq) HO.out _) ((wr.drewN nq).heap.size + 1) (some ⟨wr.heap.size, 0, none⟩) 1 1 [.int .i64 x] rfl rfl (seg_new (wr.drewN nq) 2 #[.int .i64 x]) ?_ ?_ ?_ ?_ ?_)
          · first | exact rfl | (intro u hu; simp at hu; subst hu; rfl)
          · unfold maxLen; omega
          · omega
          · have := HB.out.size; simp; omega
          intro v3 w3 hown3 hg3 _
          obtain ⟨A3, c3, rfl⟩ := own_shape hown3
          have hb3 : Below w.heap.size w w3 := ((below_drewN HB.out nq).alloc HB.out.size _).grown hg3 (by have := HB.out.size; simp; omega) (fun g hg => by have := (HO.out.lt g hg).1; omega)
          have ht : i64s (capRates (l.take k)) ++ [.int .i64 x] = i64s (capRates (l.take (k + 1))) := by rw [HSN.out]; simp [i64s]
          rw [ht] at hown3
          have H3 := Lib.hid hown3
          have HB3 := Lib.hid hb3
          clear hown3 hb3 hg3 ht e4
          go_wp2
          go_roundw
          case rel => exact ⟨k + 1, by omega, by go_num, by rw [capOk_succ, ← HBO.out, HFK.out]; unfold fitB; simp, ⟨A3, c3, rfl⟩, H3.out, HB3.out⟩
          case measure => simp [intOf]; omega
      · by_cases hL : L ≤ x
        all_goals
          rcases hbf with ⟨hF, rfl⟩ | ⟨f, rfl, hf, hvf⟩
          · clear hcl
            go_wp2_with fail
            go_quiet (fail)
            go_wp2_with (at_builtin; refine wpList_append_seg _ rfl (.tmp 67) (.tmp 69) 63 rfl w.heap.size 2 i0 _ 1 8 Try.underlying63 fi fz0 fz1 fz2 rfl (by decide) _ k (i64s (capRates (l.take k))) rfl (World.ownsRow.alloc (w := wr.drewN nq) HO.out _) ((wr.drewN nq).heap.size + 1) (some ⟨wr.heap.size, 0, none⟩) 1 1 [.int .i64 x] rfl rfl (seg_new (wr.drewN nq) 2 #[.int .i64 x]) ?_ ?_ ?_ ?_ ?_)
            · first | exact rfl | (intro u hu; simp at hu; subst hu; rfl)
            · unfold maxLen; omega
            · omega
            · have := HB.out.size; simp; omega
            intro v3 w3 hown3 hg3 _
            obtain ⟨A3, c3, rfl⟩ := own_shape hown3
            have hb3 : Below w.heap.size w w3 := ((below_drewN HB.out nq).alloc HB.out.size _).grown hg3 (by have := HB.out.size; simp; omega) (fun g hg => by have := (HO.out.lt g hg).1; omega)
            have ht : i64s (capRates (l.take k)) ++ [.int .i64 x] = i64s (capRates (l.take (k + 1))) := by rw [HSN.out]; simp [i64s]
            rw [ht] at hown3
            have H3 := Lib.hid hown3
            have HB3 := Lib.hid hb3
            clear hown3 hb3 hg3 ht e4
            go_wp2
            go_roundw
            case rel => exact ⟨k + 1, by omega, by go_num, by rw [capOk_succ, ← HBO.out, HFK.out]; unfold fitB; simp [hL] <;> omega, ⟨A3, c3, rfl⟩, H3.out, HB3.out⟩
            case measure => simp [intOf]; omega
          · obtain ⟨g, rfl, hc⟩ := hcl f hf
            rw [← hvf] at hc
            clear hcl hvf
            go_wp2_with fail
            go_quiet (fail)
            go_wp2_with (at_builtin; refine wpList_append_seg _ rfl (.tmp 67) (.tmp 69) 63 rfl w.heap.size 2 i0 _ 1 8 Try.underlying63 fi fz0 fz1 fz2 rfl (by decide) _ k (i64s (capRates (l.take k))) rfl (World.ownsRow.alloc (w := wr.drewN nq) HO.out _) ((wr.drewN nq).heap.size + 1) (some ⟨wr.heap.size, 0, none⟩) 1 1 [.int .i64 x] rfl rfl (seg_new (wr.drewN nq) 2 #[.int .i64 x]) ?_ ?_ ?_ ?_ ?_)
            · first | exact rfl | (intro u hu; simp at hu; subst hu; rfl)
            · unfold maxLen; omega
            · omega
            · have := HB.out.size; simp; omega
            intro v3 w3 hown3 hg3 _
            obtain ⟨A3, c3, rfl⟩ := own_shape hown3
            have hb3 : Below w.heap.size w w3 := ((below_drewN HB.out nq).alloc HB.out.size _).grown hg3 (by have := HB.out.size; simp; omega) (fun g hg => by have := (HO.out.lt g hg).1; omega)
            have ht : i64s (capRates (l.take k)) ++ [.int .i64 x] = i64s (capRates (l.take (k + 1))) := by rw [HSN.out]; simp [i64s]
            rw [ht] at hown3
            have H3 := Lib.hid hown3
            have HB3 := Lib.hid hb3
            clear hown3 hb3 hg3 ht e4
            go_wp2
            go_roundw
            case rel => exact ⟨k + 1, by omega, by go_num, by rw [capOk_succ, ← HBO.out, HFK.out]; unfold fitB; simp [hL] <;> omega, ⟨A3, c3, rfl⟩, H3.out, HB3.out⟩
            case measure => simp [intOf]; omega
    · obtain rfl : k = n := by omega
      have ht : l.take k = l := List.take_of_length_le (by rw [Hn.out]; exact Nat.le_refl _)
      have HT := Lib.hid ht
      clear ht
      go_wp2
      go_ret2
      exact ⟨Ao, co, rfl, by have := HO.out; rw [HT.out] at this; exact this, HB.out⟩
end Go.Proofs.Ytbahclnpgdejlaa
