/- Walks: what the document says of a few remainders is true of the program. -/
import Derived.Test.YtojjmkoelggfbaaG
namespace Go.Proofs.Ytojjmkoelggfbaa
open Go.RowKit

theorem res4 {fn : Func} {t u v x : Tmp} (h : fn.results = #[.tmp t, .tmp u, .tmp v, .tmp x]) (tmps : Array Value) (P : Program) (w : World) :
    (results fn tmps).run P w = .ok (.tuple #[tmps.getD t undef, tmps.getD u undef, tmps.getD v undef, tmps.getD x undef]) w := by simp [results, h]

set_option maxHeartbeats 800000 in
theorem gcd13 (w : World) : Calls Try.prog 13 #[.int .i64 12, .int .i64 18] w fun e w' => e = .returned (.tuple #[.int .i64 6, .int .i64 (-1), .int .i64 1, .int .i64 0]) ∧ Below w.heap.size w w' := by
  go_enter Try.func13, Try.ntmps13
  go_wp2_with fail
  refine (euc_12_18 _).mono ?_
  rintro e w1 ⟨rfl, hb1⟩
  go_wp2_with fail
  go_quiet (fail)
  go_wp2_with fail
  refine bodyPost_ret (res4 rfl _ _ _) rfl ⟨rfl, ?_⟩
  exact below_round (Below.refl _ _) hb1 (Nat.le_refl _) _ _

theorem Rd.news (w : World) (zs : List Int) (k : IntKind) (t : TypeId) : Rd (w.alloc (.cells ⟨ints k zs⟩ t)) (w.heap.size + 1) 1 (some ⟨w.heap.size, 0, none⟩) zs.length (ints k zs) := by
  refine ⟨by simp, fun _ => ⟨w.heap.size, 0, rfl, by omega, fun j u hu => ?_⟩⟩
  have := (Bk.new w t ⟨ints k zs⟩).cell j
  rw [Nat.zero_add, this]
  simpa using hu

/-- Two lists laid one behind the other. -/
theorem twoRd (w w0 : World) (zs ys : List Int) (k : IntKind) (t : TypeId) (h : w0 = (w.alloc (.cells ⟨ints k zs⟩ t)).alloc (.cells ⟨ints k ys⟩ t)) :
    Rd w0 w0.heap.size 1 (some ⟨w.heap.size, 0, none⟩) zs.length (ints k zs) ∧ Rd w0 w0.heap.size 1 (some ⟨w.heap.size + 1, 0, none⟩) ys.length (ints k ys) ∧ Below w.heap.size w w0 ∧ w.heap.size ≤ w0.heap.size := by
  subst h
  refine ⟨((Rd.news w zs k t).below ((Below.refl _ _).alloc (by simp) _)).more (by simp), ?_, ((Below.refl _ _).alloc (Nat.le_refl _) _).alloc (by simp) _, by simp; omega⟩
  have := Rd.news (w.alloc (.cells ⟨ints k zs⟩ t)) ys k t
  rw [World.size_alloc] at this
  exact this.more (by simp)
theorem near_wakes : nearS (pairsS [2, 3] [5, 7]) 0 (40 : Int).toNat = [17] := by decide
theorem best_wakes : bestS (pairsS [2, 3] [5, 7]) (12 : Int).toNat = (2, 1) := by decide

set_option maxRecDepth 100000 in
set_option maxHeartbeats 2000000 in
theorem wakes9 (w : World) : Calls Try.prog 9 #[] w fun e w' => e = .returned (.bool true) ∧ Below w.heap.size w w' := by
  go_enter Try.func9, Try.ntmps9
  go_wp2_with fail
  obtain ⟨w0, hw0⟩ : ∃ w0, w0 = ((w.alloc (Obj.cells #[Value.int IntKind.i64 2, Value.int IntKind.i64 3, Value.int IntKind.i64 2] 2)).alloc (Obj.cells #[Value.int IntKind.i64 3, Value.int IntKind.i64 5, Value.int IntKind.i64 7] 2)) := ⟨_, rfl⟩
  obtain ⟨d1, d2, b0, z0⟩ := twoRd w w0 [2, 3, 2] [3, 5, 7] .i64 2 hw0
  rw [← hw0]
  clear hw0
  refine (join12 _ _ _ 3 3 _ d1 d2 (Nat.le_refl _)).mono ?_
  rintro e w1 ⟨rfl, b1⟩
  have b2 := below_to b0 b1 z0
  clear d1 d2 b0 b1 z0
  go_wp2_with fail
  refine (gcd13 _).mono ?_
  rintro e w2 ⟨rfl, b3⟩
  have b4 := below_to b2 b3 b2.size
  clear b2 b3
  go_wp2_with fail
  obtain ⟨w3, hw3⟩ : ∃ w3, w3 = ((w2.alloc (Obj.cells #[Value.int IntKind.i64 2, Value.int IntKind.i64 3] 2)).alloc (Obj.cells #[Value.int IntKind.i64 5, Value.int IntKind.i64 7] 2)) := ⟨_, rfl⟩
  obtain ⟨d1, d2, b5, z0⟩ := twoRd w2 w3 [2, 3] [5, 7] .i64 2 hw3
  rw [← hw3]
  clear hw3
  refine (near6 _ _ _ 2 2 2 [2, 3] [5, 7] 0 40 _ d1 d2 (by omega) (Nat.le_refl _) (by decide) (by omega) (by omega) (by omega)).mono ?_
  rintro e w4 ⟨v, rfl, hown, b6⟩
  have b7 := below_to (below_to b4 b5 b4.size) b6 (Nat.le_trans b4.size z0)
  rw [near_wakes] at hown
  obtain ⟨A, c, rfl, hA⟩ := Rd.own hown
  obtain ⟨b, off, rfl, hb, hz, hc⟩ := hA.atInt (k := 0) (by simp)
  simp at hc
  clear d1 d2 b4 b5 b6 z0 hown hA
  go_wp2_with fail
  obtain ⟨w5, hw5⟩ : ∃ w5, w5 = ((w4.alloc (Obj.cells #[Value.int IntKind.i64 2, Value.int IntKind.i64 3] 2)).alloc (Obj.cells #[Value.int IntKind.i64 5, Value.int IntKind.i64 7] 2)) := ⟨_, rfl⟩
  obtain ⟨d1, d2, b5, z0⟩ := twoRd w4 w5 [2, 3] [5, 7] .i64 2 hw5
  rw [← hw5]
  clear hw5
  refine (best8 _ _ _ 2 2 2 [2, 3] [5, 7] 12 _ d1 d2 (by omega) (Nat.le_refl _) (by decide) (by omega) (by omega)).mono ?_
  rintro e w6 ⟨rfl, b6⟩
  rw [best_wakes]
  have b8 := below_to b5 b6 z0
  have b9 := below_to b7 b8 b7.size
  have hc2 := (b8.cell (p := ⟨b, off, none⟩) hb).trans hc
  clear d1 d2 b5 b6 b7 b8 hc z0
  go_wp2_with fail
  go_ret
  exact ⟨rfl, b9⟩
end Go.Proofs.Ytojjmkoelggfbaa
