/- The order of claims: the contract. -/
import Derived.Test.YtdnncpikndgabaaCmp
import Derived.Sort.Grow
import Derived.StillTailTactics
set_option linter.unusedVariables false
namespace Go.Proofs.Ytdnncpikndgabaa
open Go.RowKit Go.Sort
def ordF (a b : Cl) : Int := or3 (cmpN a.k b.k) (cmpN a.f b.f) (cmpN a.t b.t)
theorem three_grow (w : World) (o1 o2 o3 : Obj) : (((w.alloc o1).alloc o2).alloc o3).drew = grow (w.drewN 1) (#[o1] ++ #[o2] ++ #[o3]) := by
  rw [alloc_eq_grow, alloc_eq_grow, alloc_eq_grow, grow_grow, grow_grow, drew_grow]
  rfl
set_option maxRecDepth 100000 in
theorem order_any (a b : Cl) (w : World) : Calls Try.prog 13 #[.agg #[.int .u8 (a.k : Int), .int .u64 (a.f : Int), .int .u64 (a.t : Int)], .agg #[.int .u8 (b.k : Int), .int .u64 (b.f : Int), .int .u64 (b.t : Int)]] w fun e w' => e = .returned (.int .i64 (ordF a b)) ∧ ∃ q os', w' = grow (w.drewN q) os' := by
  obtain ⟨⟨x0, x1, x2⟩, ⟨y0, y1, y2⟩, _⟩ := boxed_cells w a b
  unfold boxed2 at x0 x1 x2 y0 y1 y2
  unfold ordF
  have h1 := cmp8_any a.k b.k
  have h2 := cmp64_any a.f b.f
  have h3 := cmp64_any a.t b.t
  generalize cmpN a.k b.k = c1 at *
  generalize cmpN a.f b.f = c2 at *
  generalize cmpN a.t b.t = c3 at *
  go_enter Try.func13, Try.ntmps13
  go_wp2_with fail
  refine still_tail 15 (by kernel_rfl) (by kernel_rfl) ?_
  simp only [List.take_succ_cons, List.take_zero, List.drop_succ_cons, List.drop_zero]
  still_step
  still_step
  still_step
  still_step
  still_call ((h1 _).mono fun _ _ hh => ⟨hh.1, hh.2.symm⟩)
  still_step
  still_step
  still_step
  still_step
  still_call ((h2 _).mono fun _ _ hh => ⟨hh.1, hh.2.symm⟩)
  still_step
  still_step
  still_step
  still_step
  still_call ((h3 _).mono fun _ _ hh => ⟨hh.1, hh.2.symm⟩)
  try refine wpStill_nil ?_
  have hx : ∀ (k : Nat), ((((w.alloc (.cells #[.int .u8 (a.k : Int), .int .u64 (a.f : Int), .int .u64 (a.t : Int)] 24)).alloc (.cells #[.int .u8 (b.k : Int), .int .u64 (b.f : Int), .int .u64 (b.t : Int)] 24)).alloc (.cells #[.int .i64 c1, .int .i64 c2, .int .i64 c3] 3)).drew).cell? ⟨w.heap.size + 1 + 1, k, none⟩ = #[Value.int .i64 c1, .int .i64 c2, .int .i64 c3][k]? := fun k => by
    show (((w.alloc (.cells #[.int .u8 (a.k : Int), .int .u64 (a.f : Int), .int .u64 (a.t : Int)] 24)).alloc (.cells #[.int .u8 (b.k : Int), .int .u64 (b.f : Int), .int .u64 (b.t : Int)] 24)).alloc (.cells #[.int .i64 c1, .int .i64 c2, .int .i64 c3] 3)).cell? _ = _
    have hs : ((w.alloc (.cells #[.int .u8 (a.k : Int), .int .u64 (a.f : Int), .int .u64 (a.t : Int)] 24)).alloc (.cells #[.int .u8 (b.k : Int), .int .u64 (b.f : Int), .int .u64 (b.t : Int)] 24)).heap.size = w.heap.size + 1 + 1 := by simp
    rw [← hs, cell_of_row _ _ _ _ _ (0, 0) (heap_alloc_new _ _)]
  have z0 := (hx 0).trans rfl
  have z1 := (hx 1).trans rfl
  have z2 := (hx 2).trans rfl
  have hor := or_any c1 c2 c3 _ _ z0 z1 z2
  clear hx z0 z1 z2 x0 x1 x2 y0 y1 y2
  go_wp2_with (go_at_call 20; refine hor.mono ?_; rintro e w' ⟨rfl, rfl⟩)
  go_ret
  exact ⟨rfl, 1, _, three_grow w _ _ _⟩
end Go.Proofs.Ytdnncpikndgabaa
