/- The walk of PlanNil. -/
import Derived.Test.YtcffjobefgecdaaO
namespace Go.Proofs.Ytcffjobefgecdaa
open Go.RowKit

set_option maxHeartbeats 4000000 in
theorem nil4 (n task : Int) (t : PTask) (w : World) : Calls Try.prog 4 #[.int .i64 n, .int .i64 task, taskV t] w fun e w' => e = .returned (.bool true) ∧ Below w.heap.size w w' := by
  go_enter Try.func4, Try.ntmps4
  go_wp2_with fail
  refine calls_gen (fun W => Below w.heap.size w W ∧ Bk W w.heap.size 26 #[.int .i64 t.ev, .int .i64 t.lo, .int .i64 t.rk]) ?_ ?_
  · exact ⟨(Below.refl _ _).alloc (Nat.le_refl _) _, Bk.new w _ _⟩
  rintro W0 ⟨hb0, hk0⟩
  refine (next17_nil W0).mono ?_
  rintro e W1 ⟨rfl, hb1⟩
  have HB1 := Lib.hid (below_to hb0 hb1 hb0.size)
  have HK1 := Lib.hid (hk0.below hb1 hk0.lt)
  clear hb0 hk0 hb1
  go_wp2_with fail
  refine calls_gen (fun W => Below w.heap.size w W ∧ Bk W w.heap.size 26 #[.int .i64 t.ev, .int .i64 t.lo, .int .i64 t.rk] ∧ Bk W W1.heap.size 42 (slotCells ⟨0, 0, 0, false⟩)) ?_ ?_
  · exact ⟨HB1.out.alloc HB1.out.size _, HK1.out.alloc _, Bk.new W1 _ _⟩
  rintro W2 ⟨hb2, hk2, hs2⟩
  refine (load13_nil W2).mono ?_
  rintro e W3 ⟨rfl, rfl⟩
  have x0 := hk2.cell 0
  have x1 := hk2.cell 1
  have x2 := hk2.cell 2
  have y0 := hs2.cell 0
  have y1 := hs2.cell 1
  have y2 := hs2.cell 2
  have y3 := hs2.cell 3
  simp at x0 x1 x2 y0 y1 y2 y3
  have HB2 := Lib.hid hb2
  clear hb2 hk2 hs2
  go_wp2_with fail
  refine (until18_nil n W3).mono ?_
  rintro e W4 ⟨rfl, rfl⟩
  go_wp2_with fail
  refine (set19_nil task t W4).mono ?_
  rintro e W5 ⟨rfl, hb5⟩
  have HB5 := Lib.hid (below_to HB2.out hb5 HB2.out.size)
  clear hb5
  go_wp2_with fail
  refine (now15_nil W5).mono ?_
  rintro e W6 ⟨rfl, rfl⟩
  go_wp2_with fail
  refine (wakes9 W6).mono ?_
  rintro e W7 ⟨rfl, hb7⟩
  have HB7 := Lib.hid (below_to HB5.out hb7 HB5.out.size)
  clear hb7
  go_wp2_with fail
  go_ret
  exact ⟨rfl, HB7.out⟩
end Go.Proofs.Ytcffjobefgecdaa
