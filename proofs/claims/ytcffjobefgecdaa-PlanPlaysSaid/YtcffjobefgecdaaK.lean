/- Walks: the greatest common divisor, the product with its bound. -/
import Derived.Test.YtcffjobefgecdaaJ
import Derived.Test.YtcffjobefgecdaaShelf
import Derived.IntWalk
namespace Go.Proofs.Ytcffjobefgecdaa
open Go.RowKit

set_option maxHeartbeats 1000000 in
theorem gcd30 (a b : Nat) (ha : a < 18446744073709551616) (hb : b < 18446744073709551616) (w : World) :
    Calls Try.prog 30 #[.int .u64 a, .int .u64 b] w fun e w' => e = .returned (.int .u64 (Nat.gcd a b : Nat)) ∧ ∃ n, w' = w.drewN n := by
  go_enter Try.func30, Try.ntmps30
  go_wp2_with fail
  go_loopg [0, 1] b (fun gq x y wr => ∃ m k : Nat, x = .int .u64 m ∧ y = .int .u64 k ∧ k = gq ∧ Nat.gcd m k = Nat.gcd a b ∧ m < 18446744073709551616 ∧ k < 18446744073709551616 ∧ ∃ n, wr = w.drewN n)
  case atStart => exact ⟨a, b, rfl, rfl, rfl, rfl, ha, hb, 0, rfl⟩
  case round =>
    obtain ⟨m, k, rfl, rfl, rfl, hg, hm, hk, hw⟩ := hrel
    have HG := Lib.hid hg
    have HW := Lib.hid hw
    clear hg hw
    by_cases h0 : 0 < k
    · have h0' : (0 : Int) < (k : Int) := by omega
      have hkz : ((k : Int) == 0) = false := by simp; omega
      have hmod : ((m : Int).tmod (k : Int)) = ((m % k : Nat) : Int) := by
        rw [Int.tmod_eq_emod_of_nonneg (by omega)]
        rfl
      have hlt := Nat.mod_lt m h0
      have hwr : IntKind.u64.wrap ((m % k : Nat) : Int) = ((m % k : Nat) : Int) := by rw [IntKind.wrap_u64]; omega
      generalize hr : m % k = r at *
      have HR := Lib.hid hr
      clear hr
      go_wp2_with fail
      go_region
      go_wp2_with fail
      go_roundg r
      case measure => omega
      case rel =>
        refine ⟨k, r, rfl, rfl, rfl, ?_, hk, by omega, ?_⟩
        · rw [← HG.out, ← HR.out, Nat.gcd_comm m k, Nat.gcd_rec k m, Nat.gcd_comm (m % k) k]
        · obtain ⟨n, rfl⟩ := HW.out
          exact ⟨n + 1, rfl⟩
    · obtain rfl : k = 0 := by omega
      go_wp2_with fail
      go_ret
      have := HG.out
      rw [Nat.gcd_zero_right] at this
      exact ⟨by rw [this]; rfl, HW.out⟩

set_option maxHeartbeats 1000000 in
theorem times31 (a b : Nat) (ha : a < 18446744073709551616) (hb : b < 18446744073709551616) (w : World) :
    Calls Try.prog 31 #[.int .u64 a, .int .u64 b] w fun e w' => e = .returned (.tuple #[.int .u64 ((a * b % 18446744073709551616 : Nat) : Int), .bool (decide (a * b ≤ 4611686018427387904))]) ∧ w' = w := by
  obtain ⟨p, hp⟩ : ∃ p, a * b = p := ⟨_, rfl⟩
  have HP := Lib.hid hp
  rw [hp]
  clear hp
  go_enter Try.func31, Try.ntmps31
  go_wp2_with fail
  refine (Try.bits_Mul64 a b ha hb w).mono ?_
  rintro e w1 ⟨rfl, rfl⟩
  rw [HP.out]
  obtain ⟨q, hq⟩ : ∃ q : Nat, p % 18446744073709551616 = q := ⟨_, rfl⟩
  obtain ⟨z, hz⟩ : ∃ z : Nat, p / 18446744073709551616 = z := ⟨_, rfl⟩
  have HQ := Lib.hid hq
  have HZ := Lib.hid hz
  rw [hq, hz]
  clear hq hz
  by_cases h1 : z = 0
  · subst h1
    by_cases h2 : q ≤ 4611686018427387904
    · have h2' : (q : Int) ≤ 4611686018427387904 := by omega
      go_wp2_with fail
      have h3 : decide (p ≤ 4611686018427387904) = true := decide_eq_true (by have := HQ.out; have := HZ.out; omega)
      exact bodyPost_ret (v := .tuple #[.int .u64 q, .bool true]) (by simp [results, Try.results31, go_sem]) rfl ⟨by rw [HQ.out, h3], rfl⟩
    · have h2' : ¬ (q : Int) ≤ 4611686018427387904 := by omega
      go_wp2_with fail
      have h3 : decide (p ≤ 4611686018427387904) = false := decide_eq_false (by have := HQ.out; have := HZ.out; omega)
      exact bodyPost_ret (v := .tuple #[.int .u64 q, .bool false]) (by simp [results, Try.results31, go_sem] <;> omega) rfl ⟨by rw [HQ.out, h3], rfl⟩
  · have h1' : ((z : Int) == 0) = false := by simp; omega
    have h1n : (z == 0) = false := by simp; omega
    go_wp2_with fail
    have h3 : decide (p ≤ 4611686018427387904) = false := decide_eq_false (by have := HQ.out; have := HZ.out; omega)
    exact bodyPost_ret (v := .tuple #[.int .u64 q, .bool false]) (by simp [results, Try.results31, go_sem]) rfl ⟨by rw [HQ.out, h3], rfl⟩

/-- A step of the load: none: a number is above the bound. -/
def loadStep (n d : Nat) (t : PTask) : Option (Nat × Nat) :=
  let ev := t.ev.toNat
  let lo := t.lo.toNat
  let g := Nat.gcd d ev
  let e := d / g * ev
  let x := n * (ev / g)
  let y := lo * (d / g)
  if e ≤ 4611686018427387904 ∧ x ≤ 4611686018427387904 ∧ y ≤ 4611686018427387904 ∧ x + y ≤ 4611686018427387904 then some ((x + y) / Nat.gcd e (x + y), e / Nat.gcd e (x + y)) else none
def loadTo (l : List PLine) : Nat → Option (Nat × Nat)
  | 0 => some (0, 1)
  | k + 1 => match loadTo l k, l[k]? with
    | some (n, d), some x => loadStep n d x.t
    | _, _ => none
theorem loadTo_none {l : List PLine} {k : Nat} (h : loadTo l k = none) : ∀ j, k ≤ j → loadTo l j = none := by
  intro j hj
  induction hj with
  | refl => exact h
  | step _ ih => rw [loadTo, ih]
def loadS (s : PSt) : Int × Int := match loadTo s.l s.l.length with
  | some (n, d) => (n, d)
  | none => (0, 0)
end Go.Proofs.Ytcffjobefgecdaa
