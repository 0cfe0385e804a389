/- Walks: the document's greatest common divisor, product, Load. -/
import Derived.Test.YtcffjobefgecdaaRf
import Derived.Test.YtcffjobefgecdaaL
import Derived.BigQuiet
namespace Go.Proofs.Ytcffjobefgecdaa.Ref
open Go.RowKit

theorem tmodN (a b : Nat) : ((a : Int).tmod (b : Int)) = ((a % b : Nat) : Int) := by rw [Int.tmod_eq_emod_of_nonneg (by omega)]; rfl
set_option maxHeartbeats 1000000 in
theorem gcd32 (a b : Nat) (ha : a < 9223372036854775808) (hb : b < 9223372036854775808) (w : World) :
    Calls Try.prog 32 #[.int .i64 a, .int .i64 b] w fun e w' => e = .returned (.int .i64 (Nat.gcd a b : Nat)) ∧ ∃ n, w' = w.drewN n := by
  go_enter Try.func32, Try.ntmps32
  go_wp2_with fail
  go_loopg [0, 1, 5] b (fun gq x y _ wr => ∃ m k : Nat, x = .int .i64 m ∧ y = .int .i64 k ∧ k = gq ∧ Nat.gcd m k = Nat.gcd a b ∧ m < 9223372036854775808 ∧ k < 9223372036854775808 ∧ ∃ n, wr = w.drewN n)
  case atStart => exact ⟨a, b, rfl, rfl, rfl, rfl, ha, hb, 0, rfl⟩
  case round =>
    obtain ⟨m, k, rfl, rfl, rfl, hg, hm, hk, hw⟩ := hrel
    have HG := Lib.hid hg
    have HW := Lib.hid hw
    clear hg hw
    by_cases h0 : 0 < k
    · have h0' : (0 : Int) < (k : Int) := by omega
      have hkz : ((k : Int) == 0) = false := by simp; omega
      have hkn : (k == 0) = false := by simp; omega
      have hmod := tmodN m k
      have hmod2 : ((m : Int) % (k : Int)) = ((m % k : Nat) : Int) := rfl
      have hlt := Nat.mod_lt m h0
      have hwr : IntKind.i64.wrap ((m % k : Nat) : Int) = ((m % k : Nat) : Int) := by rw [IntKind.wrap_i64]; omega
      generalize hr : m % k = r at *
      have HR := Lib.hid hr
      clear hr
      go_wp2_with fail
      go_roundg r
      case measure => omega
      case rel =>
        refine ⟨k, r, rfl, rfl, rfl, ?_, hk, by omega, HW.out⟩
        rw [← HG.out, ← HR.out, Nat.gcd_comm m k, Nat.gcd_rec k m, Nat.gcd_comm (m % k) k]
    · obtain rfl : k = 0 := by omega
      go_wp2_with fail
      go_ret
      have := HG.out
      rw [Nat.gcd_zero_right] at this
      exact ⟨by rw [this]; rfl, HW.out⟩

def tmV (p : Nat) : Value := .tuple #[.int .i64 ((if p ≤ 4611686018427387904 then p else 0 : Nat) : Int), .bool (decide (p ≤ 4611686018427387904))]
set_option maxHeartbeats 1000000 in
theorem times33 (a b : Nat) (_ha : a < 9223372036854775808) (hb : b < 9223372036854775808) (w : World) :
    Calls Try.prog 33 #[.int .i64 a, .int .i64 b] w fun e w' => e = .returned (tmV (a * b)) ∧ w' = w := by
  by_cases h0 : 0 < b
  · have h0' : (0 : Int) < (b : Int) := by omega
    have hkz : ((b : Int) == 0) = false := by simp; omega
    have hkn : (b == 0) = false := by simp; omega
    have t1 : (4611686018427387904 : Int).tdiv (b : Int) = ((4611686018427387904 / b : Nat) : Int) := tdivN 4611686018427387904 b
    have t2 : (4611686018427387904 : Int) / (b : Int) = ((4611686018427387904 / b : Nat) : Int) := edivN 4611686018427387904 b
    have hd : 4611686018427387904 / b ≤ 4611686018427387904 := Nat.div_le_self _ _
    have hiff := Nat.le_div_iff_mul_le h0 (x := a) (y := 4611686018427387904)
    generalize 4611686018427387904 / b = q at *
    have hq : IntKind.i64.wrap (q : Int) = (q : Int) := by rw [IntKind.wrap_i64]; omega
    by_cases h1 : a ≤ q
    · have hp := hiff.1 h1
      have h1' : ¬ (q : Int) < (a : Int) := by omega
      have hm : (a : Int) * (b : Int) = ((a * b : Nat) : Int) := by simp
      generalize a * b = p at *
      have hwp : IntKind.i64.wrap (p : Int) = (p : Int) := by rw [IntKind.wrap_i64]; omega
      clear hiff
      go_enter Try.func33, Try.ntmps33
      go_wp2_with fail
      exact bodyPost_ret (v := .tuple #[.int .i64 p, .bool true]) (by simp [results, Try.results33, go_sem]) rfl ⟨by unfold tmV; rw [if_pos hp, decide_eq_true hp], rfl⟩
    · have hp : ¬ a * b ≤ 4611686018427387904 := fun h => h1 (hiff.2 h)
      have h1' : (q : Int) < (a : Int) := by omega
      generalize a * b = p at *
      clear hiff
      go_enter Try.func33, Try.ntmps33
      go_wp2_with fail
      exact bodyPost_ret (v := .tuple #[.int .i64 0, .bool false]) (by simp [results, Try.results33, go_sem]) rfl ⟨by unfold tmV; rw [if_neg hp, decide_eq_false hp]; rfl, rfl⟩
  · obtain rfl : b = 0 := by omega
    go_enter Try.func33, Try.ntmps33
    go_wp2_with fail
    exact bodyPost_ret (v := .tuple #[.int .i64 0, .bool true]) (by simp [results, Try.results33, go_sem]) rfl ⟨by unfold tmV; simp, rfl⟩
end Go.Proofs.Ytcffjobefgecdaa.Ref
