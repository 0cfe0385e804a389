/- Walks: the moduli that count; a product modulo m. -/
import Derived.Test.YtojjmkoelggfbaaD
import Derived.Test.YtojjmkoelggfbaaShelf
namespace Go.Proofs.Ytojjmkoelggfbaa
open Go.RowKit

def modS (m : List Int) : List Int := (m.take 5).map fun x => x % 4096 + 1
theorem modS_take (m : List Int) (k : Nat) (h : k < m.length) (h5 : k < 5) : modS (m.take (k + 1)) = modS (m.take k) ++ [m[k] % 4096 + 1] := by
  unfold modS
  rw [List.take_take, List.take_take, Nat.min_eq_right (by omega), Nat.min_eq_right (by omega), List.take_succ_eq_append_getElem h, List.map_append]
  rfl
theorem modS_len (m : List Int) : (modS m).length = min 5 m.length := by simp [modS]

set_option maxHeartbeats 800000 in
theorem moduli4 (B : Nat) (A : Option Addr) (n c : Nat) (m : List Int) (w : World) (h : Rd w B 1 A n (ints .i64 m)) (hB : B ≤ w.heap.size) :
    Calls Try.prog 4 #[.slice A n c] w fun e w' => ∃ v, e = .returned v ∧ w'.ownsRow w.heap.size 2 1 v (modS m).length (ints .i64 (modS m)) ∧ Below w.heap.size w w' := by
  obtain ⟨i0, hi0, hz0, hz1, hz2⟩ := info_parts info2
  have HL := Lib.hid h.lenInt
  go_enter Try.func4, Try.ntmps4
  go_wp2
  go_loopw [3, 4] (fun v i wr => ∃ k : Nat, k ≤ n ∧ k ≤ 5 ∧ i = .int .i64 k ∧ wr.ownsRow w.heap.size 2 1 v (modS (m.take k)).length (ints .i64 (modS (m.take k))) ∧ Below w.heap.size w wr) (fun _ i _ => n - (intOf i).toNat)
  case atStart => exact ⟨0, by omega, by omega, rfl, by simpa [modS] using World.ownsRow_nil _ _ _ _, Below.refl _ _⟩
  case round =>
    obtain ⟨k, hk, hk5, rfl, hown, hbel⟩ := hrel
    by_cases hlt : k < n ∧ k < 5
    · obtain ⟨h1, h2⟩ := hlt
      obtain ⟨b, off, rfl, hb, hz, hc⟩ := (h.below (hbel.mono hB)).atInt h1
      have g4 := Int.emod_nonneg m[k] (show (4096 : Int) ≠ 0 by omega)
      have g5 := Int.emod_lt_of_pos m[k] (show (0 : Int) < 4096 by omega)
      have HO := Lib.hid hown
      clear hown
      have hlen : (modS (m.take k)).length ≤ 5 := by rw [modS_len]; omega
      generalize hL : (modS (m.take k)).length = L at *
      have HLL := Lib.hid hL
      clear hL
      have hsz := hbel.size
      go_wp2_with (first
        | (go_at_call 5; refine (modulo5 _ _ _ (by omega) (by omega)).mono ?_; rintro e w1 ⟨rfl, rfl⟩)
        | (at_builtin; refine wpList_append_own _ rfl _ _ 22 rfl w.heap.size 2 i0 (.int .i64 0) 1 8 Try.underlying22 hi0 hz0 hz1 hz2 rfl (by decide) _ _ _ rfl (HO.out.alloc _) ⟨wr.heap.size, 0, none⟩ 1 1 [.int .i64 (m[k] % 4096 + 1)] rfl rfl (cell_new1 _ _ _) (by simp [Value.oneCell']) (by simp only [maxLen]; omega) (by omega) (by simp; omega) ?_))
      intro v' w3 hown3 hgr _
      have R1 : w3.ownsRow w.heap.size 2 1 v' (modS (m.take (k + 1))).length (ints .i64 (modS (m.take (k + 1)))) := by
        rw [modS_take m k hz h2, List.length_append, HLL.out, ints, List.map_append]
        exact hown3
      have R2 : Below w.heap.size w w3 := (hbel.alloc hsz _).grown hgr (by simp; omega) (fun q hq => (HO.out.lt q hq).1)
      clear hown3 hgr
      go_wp2
      go_roundw
      case rel => exact ⟨k + 1, by omega, by omega, by go_num, R1, R2⟩
      case measure => simp [intOf]; omega
    · have e : modS (m.take k) = modS m := by
        unfold modS
        rw [List.take_take]
        congr 1
        have := HL.out
        by_cases h5 : k = 5
        · rw [h5]; rfl
        · rw [List.take_of_length_le (by omega), List.take_of_length_le (by omega)]
      rw [e] at hown
      by_cases h1 : k < n
      · have h5 : k = 5 := by omega
        subst h5
        go_wp2
        go_ret
        exact ⟨_, rfl, hown, hbel⟩
      · go_wp2
        go_ret
        exact ⟨_, rfl, hown, hbel⟩

theorem mul17 (x y : Int) (w : World) (hx : 0 ≤ x) (hx' : x ≤ 1000) (hy : 0 ≤ y) (hy' : y ≤ 1000) (hp : 0 ≤ x * y) (hp' : x * y ≤ 1000000) :
    Calls Try.prog 17 #[.int .u64 x, .int .u64 y] w fun e w' => e = .returned (.tuple #[.int .u64 0, .int .u64 (x * y)]) ∧ w = w' := by
  obtain ⟨a, rfl⟩ := Int.eq_ofNat_of_zero_le hx
  obtain ⟨b, rfl⟩ := Int.eq_ofNat_of_zero_le hy
  have hab : a * b ≤ 1000000 := by
    have : ((a * b : Nat) : Int) ≤ 1000000 := by rw [Int.natCast_mul]; exact hp'
    omega
  refine (Try.bits_Mul64 a b (by omega) (by omega) w).mono fun e w' ⟨he, hw⟩ => ⟨?_, hw.symm⟩
  rw [he]
  have e1 : ((a * b / 18446744073709551616 : Nat) : Int) = 0 := by omega
  have e2 : ((a * b % 18446744073709551616 : Nat) : Int) = (a : Int) * (b : Int) := by rw [← Int.natCast_mul]; omega
  rw [e1, e2]

set_option maxHeartbeats 800000 in
theorem times16 (a b m : Int) (w : World) (ha : 0 ≤ a) (ha' : a ≤ 1000) (hb : 0 ≤ b) (hb' : b ≤ 1000) (hm : 1 ≤ m) (hm' : m ≤ 1000) :
    Calls Try.prog 16 #[.int .i64 a, .int .i64 b, .int .i64 m] w fun e w' => e = .returned (.int .i64 (a * b % m)) ∧ ∃ n, w' = w.drewN n := by
  have hp : 0 ≤ a * b := Int.mul_nonneg ha hb
  have hp' : a * b ≤ 1000000 := by
    have h1 : a * b ≤ 1000 * b := Int.mul_le_mul_of_nonneg_right ha' hb
    omega
  generalize hab : a * b = p at *
  have HAB := Lib.hid hab
  clear hab
  have g4 := Int.emod_nonneg p (show m ≠ 0 by omega)
  have g5 := Int.emod_lt_of_pos p (show 0 < m by omega)
  have gh : ((m : Int) == 0) = false := by simp; omega
  have gz : (0 : Int) % m = 0 := by simp
  go_enter Try.func16, Try.ntmps16
  go_wp2_with fail
  refine (mul17 a b _ ha ha' hb hb' (by rw [HAB.out]; exact hp) (by rw [HAB.out]; exact hp')).mono ?_
  rintro e w1 ⟨rfl, rfl⟩
  rw [HAB.out]
  go_wp2
  go_quiet (fail)
  go_wp2
  go_ret
  exact ⟨rfl, _, rfl⟩
end Go.Proofs.Ytojjmkoelggfbaa
