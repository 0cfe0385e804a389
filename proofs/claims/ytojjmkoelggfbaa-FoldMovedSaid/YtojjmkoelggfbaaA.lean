/- Walks of the small functions of FoldMoved: the remainder functions, the look for a number. -/
import Derived.Test.YtojjmkoelggfbaaRows
import Derived.Test.YtojjmkoelggfbaaMem
namespace Go.Proofs.Ytojjmkoelggfbaa
open Go.RowKit

theorem emod_tmod_neg (x m : Int) (hm : 1 ≤ m) (h : x.tmod m < 0) : x.tmod m + m = x % m := by
  rw [Int.tmod_eq_emod] at *
  split at h
  · have := Int.emod_nonneg x (show m ≠ 0 by omega); omega
  · rename_i hc; rw [if_neg hc]; omega
theorem emod_tmod_nonneg (x m : Int) (hm : 1 ≤ m) (h : 0 ≤ x.tmod m) : x.tmod m = x % m := by
  rw [Int.tmod_eq_emod] at *
  split at h
  · rename_i hc; rw [if_pos hc]; omega
  · have := Int.emod_lt_of_pos x (show 0 < m by omega); omega

set_option maxHeartbeats 400000 in
theorem modulo5 (x m : Int) (w : World) (hm : 1 ≤ m) (hm2 : m ≤ 1099511627776) :
    Calls Try.prog 5 #[.int .i64 x, .int .i64 m] w fun e w' => e = .returned (.int .i64 (x % m)) ∧ w = w' := by
  have hlo := Int.tmod_lt_of_pos x (show 0 < m by omega)
  have hlo2 := Int.lt_tmod_of_pos x (show 0 < m by omega)
  go_enter Try.func5, Try.ntmps5
  go_wp2
  all_goals go_ret
  · exact ⟨ret_int (emod_tmod_neg x m hm (by assumption)), rfl⟩
  · exact ⟨ret_int (emod_tmod_nonneg x m hm (by assumption)), rfl⟩
set_option maxHeartbeats 400000 in
theorem modulo14 (x m : Int) (w : World) (hm : 1 ≤ m) (hm2 : m ≤ 1099511627776) :
    Calls Try.prog 14 #[.int .i64 x, .int .i64 m] w fun e w' => e = .returned (.int .i64 (x % m)) ∧ w = w' := by
  have hlo := Int.tmod_lt_of_pos x (show 0 < m by omega)
  have hlo2 := Int.lt_tmod_of_pos x (show 0 < m by omega)
  go_enter Try.func14, Try.ntmps14
  go_wp2
  all_goals go_ret
  · exact ⟨ret_int (emod_tmod_neg x m hm (by assumption)), rfl⟩
  · exact ⟨ret_int (emod_tmod_nonneg x m hm (by assumption)), rfl⟩

set_option maxHeartbeats 400000 in
theorem has7 (B : Nat) (A : Option Addr) (n c : Nat) (zs : List Int) (x : Int) (w : World) (h : Rd w B 1 A n (ints .i64 zs)) (hn : n ≤ 1048576) :
    Calls Try.prog 7 #[.slice A n c, .int .i64 x] w fun e w' => e = .returned (.bool (decide (x ∈ zs))) ∧ w = w' := by
  have hl := h.lenInt
  have HL := Lib.hid hl
  clear hl
  go_enter Try.func7, Try.ntmps7
  go_wp2
  go_loop [5] (fun i => ∃ k : Nat, k ≤ n ∧ i = .int .i64 k ∧ x ∉ zs.take k) (fun i => n - (intOf i).toNat)
  case atStart => exact ⟨0, by omega, rfl, by simp⟩
  case round =>
    obtain ⟨k, hk, rfl, hnot⟩ := hrel
    have HN := Lib.hid hnot
    clear hnot
    by_cases hlt : k < n
    · obtain ⟨b, off, rfl, hb, hz, hc⟩ := h.atInt hlt
      go_wp2
      · have heq : (zs[k] == x) = true := by assumption
        go_ret
        have hm : x ∈ zs := by
          have : zs[k] = x := by simpa using heq
          exact this ▸ List.getElem_mem hz
        exact ⟨ret_bool (by simp [hm]), rfl⟩
      · have heq : (zs[k] == x) = false := by assumption
        go_round
        case rel =>
          refine ⟨k + 1, by omega, by go_num, ?_⟩
          rw [List.take_succ_eq_append_getElem hz]
          have h1 := HN.out
          have h2 : zs[k] ≠ x := by simpa using heq
          simp only [List.mem_append, List.mem_singleton, not_or]
          exact ⟨h1, fun e => h2 e.symm⟩
        case measure => simp [intOf]; omega
    · go_wp2
      go_ret
      have hm : x ∉ zs := by
        have h1 := HN.out
        rw [List.take_of_length_le (by rw [HL.out]; omega)] at h1
        exact h1
      exact ⟨ret_bool (by simp [hm]), rfl⟩
end Go.Proofs.Ytojjmkoelggfbaa
