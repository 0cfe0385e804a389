/- Walks: may a task be; which job runs ahead; the closures that are handed to all lines. -/
import Derived.Test.YtcffjobefgecdaaR
namespace Go.Proofs.Ytcffjobefgecdaa
open Go.RowKit

abbrev taskV (t : PTask) : Value := .agg #[.int .i64 t.ev, .int .i64 t.lo, .int .i64 t.rk]
abbrev jobV (j : PJob) : Value := .agg #[.int .i64 j.due, .int .i64 j.rank, .int .i64 j.task]
abbrev slotV (s : PSlot) : Value := .agg #[.int .i64 s.task, .int .i64 s.frm, .int .i64 s.to, .bool s.late]

set_option maxHeartbeats 400000 in
theorem may25 (t : PTask) (w : World) : Calls Try.prog 25 #[taskV t] w fun e w' => e = .returned (.bool (mayB t)) ∧ Below w.heap.size w w' := by
  have hb : Below w.heap.size w (w.alloc (.cells #[.int .i64 t.ev, .int .i64 t.lo, .int .i64 t.rk] 26)) := (Below.refl _ _).alloc (Nat.le_refl _) _
  unfold mayB
  by_cases h1 : 1 ≤ t.ev
  · by_cases h2 : t.ev ≤ 1099511627776
    · by_cases h3 : 1 ≤ t.lo
      · by_cases h4 : t.lo ≤ t.ev
        all_goals
          go_enter Try.func25, Try.ntmps25
          go_wp2
          go_ret
          exact ⟨ret_bool (by rw [Bool.eq_iff_iff]; simp; omega), hb⟩
      · go_enter Try.func25, Try.ntmps25
        go_wp2
        go_ret
        exact ⟨ret_bool (by rw [Bool.eq_iff_iff]; simp; omega), hb⟩
    · go_enter Try.func25, Try.ntmps25
      go_wp2
      go_ret
      exact ⟨ret_bool (by rw [Bool.eq_iff_iff]; simp; omega), hb⟩
  · go_enter Try.func25, Try.ntmps25
    go_wp2
    go_ret
    exact ⟨ret_bool (by rw [Bool.eq_iff_iff]; simp; omega), hb⟩

set_option maxHeartbeats 400000 in
theorem before46 (j k : PJob) (w : World) : Calls Try.prog 46 #[jobV j, jobV k] w fun e w' => e = .returned (.bool (beforeB j k)) ∧ Below w.heap.size w w' := by
  have hb : Below w.heap.size w ((w.alloc (.cells #[.int .i64 j.due, .int .i64 j.rank, .int .i64 j.task] 94)).alloc (.cells #[.int .i64 k.due, .int .i64 k.rank, .int .i64 k.task] 94)) := ((Below.refl _ _).alloc (Nat.le_refl _) _).alloc (by simp) _
  by_cases h1 : j.due = k.due
  · have b1 : (j.due != k.due) = false := by simp [h1]
    by_cases h2 : j.rank = k.rank
    · have b2 : (j.rank != k.rank) = false := by simp [h2]
      have E : beforeB j k = decide (j.task < k.task) := by simp [beforeB, h1, h2]
      have HE := Lib.hid E
      clear E h1 h2
      go_enter Try.func46, Try.ntmps46
      go_wp2
      go_ret
      exact ⟨ret_bool HE.out.symm, hb⟩
    · have b2 : (j.rank != k.rank) = true := by simp [h2]
      have E : beforeB j k = decide (k.rank < j.rank) := by simp [beforeB, h1, h2]
      have HE := Lib.hid E
      clear E h1 h2
      go_enter Try.func46, Try.ntmps46
      go_wp2
      go_ret
      exact ⟨ret_bool HE.out.symm, hb⟩
  · have b1 : (j.due != k.due) = true := by simp [h1]
    have E : beforeB j k = decide (j.due < k.due) := by simp [beforeB, h1]
    have HE := Lib.hid E
    clear E h1
    go_enter Try.func46, Try.ntmps46
    go_wp2
    go_ret
    exact ⟨ret_bool HE.out.symm, hb⟩

set_option maxHeartbeats 400000 in
/-- Every line is handed to the function value 49. -/
theorem each43_49 (c1 : Value) (p bl cap n : Nat) (I : Nat → World → Prop) (w : World) (h0 : I 0 w)
    (hc : ∀ i W, I i W → W.cell? ⟨p, 0, none⟩ = some (.slice (some ⟨bl, 0, none⟩) n cap)) (hn : n ≤ 256)
    (step : ∀ (i : Nat) W, i < n → I i W → Calls Try.prog 49 #[.int .i64 i, .pointer (some ⟨bl, i * 6, none⟩), c1] W fun e W' => e = .returned (.tuple #[]) ∧ I (i + 1) W') :
    Calls Try.prog 43 #[.pointer (some ⟨p, 0, none⟩), .func (.func 49) #[] #[c1]] w fun e w' => e = .returned (.tuple #[]) ∧ I n w' := by
  have c0 := hc 0 w h0
  have HC := Lib.hid hc
  have HS := Lib.hid step
  clear hc step
  go_enter Try.func43, Try.ntmps43
  go_wp2_with fail
  go_loopw [4, 10] (fun _ i wr => ∃ k : Nat, k ≤ n ∧ i = .int .i64 k ∧ I k wr) (fun _ i _ => n - (intOf i).toNat)
  case atStart => exact ⟨0, by omega, rfl, h0⟩
  case round =>
    obtain ⟨k, hk, rfl, hI⟩ := hrel
    have ck := HC.out k wr hI
    have HI := Lib.hid hI
    clear hI c0 h0
    by_cases hlt : k < n
    · go_wp2_with fail
      refine (HS.out k wr hlt HI.out).mono ?_
      rintro e w1 ⟨rfl, hI1⟩
      go_wp2_with fail
      go_roundw
      case rel => exact ⟨k + 1, by omega, by go_num, hI1⟩
      case measure => simp [intOf]; omega
    · obtain rfl : k = n := by omega
      go_wp2_with fail
      go_end0
      exact ⟨rfl, HI.out⟩

set_option maxHeartbeats 400000 in
/-- Every line is handed to the function value 44. -/
theorem each43_44 (c1 : Value) (p bl cap n : Nat) (I : Nat → World → Prop) (w : World) (h0 : I 0 w)
    (hc : ∀ i W, I i W → W.cell? ⟨p, 0, none⟩ = some (.slice (some ⟨bl, 0, none⟩) n cap)) (hn : n ≤ 256)
    (step : ∀ (i : Nat) W, i < n → I i W → Calls Try.prog 44 #[.int .i64 i, .pointer (some ⟨bl, i * 6, none⟩), c1] W fun e W' => e = .returned (.tuple #[]) ∧ I (i + 1) W') :
    Calls Try.prog 43 #[.pointer (some ⟨p, 0, none⟩), .func (.func 44) #[] #[c1]] w fun e w' => e = .returned (.tuple #[]) ∧ I n w' := by
  have c0 := hc 0 w h0
  have HC := Lib.hid hc
  have HS := Lib.hid step
  clear hc step
  go_enter Try.func43, Try.ntmps43
  go_wp2_with fail
  go_loopw [4, 10] (fun _ i wr => ∃ k : Nat, k ≤ n ∧ i = .int .i64 k ∧ I k wr) (fun _ i _ => n - (intOf i).toNat)
  case atStart => exact ⟨0, by omega, rfl, h0⟩
  case round =>
    obtain ⟨k, hk, rfl, hI⟩ := hrel
    have ck := HC.out k wr hI
    have HI := Lib.hid hI
    clear hI c0 h0
    by_cases hlt : k < n
    · go_wp2_with fail
      refine (HS.out k wr hlt HI.out).mono ?_
      rintro e w1 ⟨rfl, hI1⟩
      go_wp2_with fail
      go_roundw
      case rel => exact ⟨k + 1, by omega, by go_num, hI1⟩
      case measure => simp [intOf]; omega
    · obtain rfl : k = n := by omega
      go_wp2_with fail
      go_end0
      exact ⟨rfl, HI.out⟩

set_option maxHeartbeats 400000 in
/-- Every line is handed to the function value 45. -/
theorem each43_45 (c1 c2 : Value) (p bl cap n : Nat) (I : Nat → World → Prop) (w : World) (h0 : I 0 w)
    (hc : ∀ i W, I i W → W.cell? ⟨p, 0, none⟩ = some (.slice (some ⟨bl, 0, none⟩) n cap)) (hn : n ≤ 256)
    (step : ∀ (i : Nat) W, i < n → I i W → Calls Try.prog 45 #[.int .i64 i, .pointer (some ⟨bl, i * 6, none⟩), c1, c2] W fun e W' => e = .returned (.tuple #[]) ∧ I (i + 1) W') :
    Calls Try.prog 43 #[.pointer (some ⟨p, 0, none⟩), .func (.func 45) #[] #[c1, c2]] w fun e w' => e = .returned (.tuple #[]) ∧ I n w' := by
  have c0 := hc 0 w h0
  have HC := Lib.hid hc
  have HS := Lib.hid step
  clear hc step
  go_enter Try.func43, Try.ntmps43
  go_wp2_with fail
  go_loopw [4, 10] (fun _ i wr => ∃ k : Nat, k ≤ n ∧ i = .int .i64 k ∧ I k wr) (fun _ i _ => n - (intOf i).toNat)
  case atStart => exact ⟨0, by omega, rfl, h0⟩
  case round =>
    obtain ⟨k, hk, rfl, hI⟩ := hrel
    have ck := HC.out k wr hI
    have HI := Lib.hid hI
    clear hI c0 h0
    by_cases hlt : k < n
    · go_wp2_with fail
      refine (HS.out k wr hlt HI.out).mono ?_
      rintro e w1 ⟨rfl, hI1⟩
      go_wp2_with fail
      go_roundw
      case rel => exact ⟨k + 1, by omega, by go_num, hI1⟩
      case measure => simp [intOf]; omega
    · obtain rfl : k = n := by omega
      go_wp2_with fail
      go_end0
      exact ⟨rfl, HI.out⟩

end Go.Proofs.Ytcffjobefgecdaa
