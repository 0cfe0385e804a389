/- Walks: how far a number is from remainders; the pairs; what is near; what is best. -/
import Derived.Test.YtojjmkoelggfbaaA
namespace Go.Proofs.Ytojjmkoelggfbaa
open Go.RowKit

/-- How far x is from a remainder; the greatest of these. (In the form in which the walk writes min and max.) -/
def dist (x : Int) (p : Int × Int) : Int := if p.2 - (x - p.1) % p.2 < (x - p.1) % p.2 then p.2 - (x - p.1) % p.2 else (x - p.1) % p.2
def farS (x : Int) (ps : List (Int × Int)) : Int := ps.foldl (fun a p => if a < dist x p then dist x p else a) 0
theorem farS_take (x : Int) (ps : List (Int × Int)) (k : Nat) (h : k < ps.length) : farS x (ps.take (k + 1)) = if farS x (ps.take k) < dist x ps[k] then dist x ps[k] else farS x (ps.take k) := by
  unfold farS
  rw [List.take_succ_eq_append_getElem h, List.foldl_append]
  rfl
abbrev pcells (ps : List (Int × Int)) : List Value := ps.flatMap fun p => [.int .i64 p.1, .int .i64 p.2]
def okPairs (ps : List (Int × Int)) : Prop := ∀ p ∈ ps, 0 ≤ p.1 ∧ p.1 < p.2 ∧ p.2 ≤ 1099511627776

theorem pcells_len (ps : List (Int × Int)) : (pcells ps).length = 2 * ps.length := by
  induction ps with
  | nil => rfl
  | cons p ps ih => simp [pcells] at *; omega
theorem pcells_at (ps : List (Int × Int)) (k : Nat) (h : k < ps.length) : (pcells ps)[2 * k]? = some (.int .i64 ps[k].1) ∧ (pcells ps)[2 * k + 1]? = some (.int .i64 ps[k].2) := by
  induction ps generalizing k with
  | nil => simp at h
  | cons p ps ih =>
    cases k with
    | zero => simp [pcells]
    | succ k =>
      have := ih k (by simpa using h)
      simpa [pcells, Nat.mul_add] using this

theorem Rd.atPair {w : World} {B n k : Nat} {A : Option Addr} {ps : List (Int × Int)} (h : Rd w B 2 A n (pcells ps)) (hk : k < n) :
    ∃ b off, A = some ⟨b, off, none⟩ ∧ b < B ∧ ∃ hz : k < ps.length, w.cell? ⟨b, off + k * 2, none⟩ = some (.int .i64 ps[k].1) ∧ w.cell? ⟨b, off + k * 2 + 1, none⟩ = some (.int .i64 ps[k].2) := by
  obtain ⟨b, off, e, hb, hc⟩ := h.2 (by omega)
  have hl : k < ps.length := by have := h.1; rw [pcells_len] at this; omega
  obtain ⟨h1, h2⟩ := pcells_at ps k hl
  exact ⟨b, off, e, hb, hl, hc (k * 2) _ (by rw [Nat.mul_comm]; exact h1), hc (k * 2 + 1) _ (by rw [Nat.mul_comm k 2]; exact h2)⟩

set_option maxHeartbeats 400000 in
theorem far11 (B : Nat) (A : Option Addr) (n c : Nat) (ps : List (Int × Int)) (x : Int) (w : World) (h : Rd w B 2 A n (pcells ps)) (hn : n ≤ 8) (hB : B ≤ w.heap.size)
    (hx0 : 0 ≤ x) (hx1 : x ≤ 4194304) (hp : okPairs ps) :
    Calls Try.prog 11 #[.int .i64 x, .slice A n c] w fun e w' => e = .returned (.int .i64 (farS x ps)) ∧ Below w.heap.size w w' := by
  have HP := Lib.hid hp
  clear hp
  go_enter Try.func11, Try.ntmps11
  go_wp2
  go_loopw [5, 7, 8, 11] (fun a _ _ i wr => ∃ k : Nat, k ≤ n ∧ i = .int .i64 k ∧ a = .int .i64 (farS x (ps.take k)) ∧ Below w.heap.size w wr) (fun _ _ _ i _ => n - (intOf i).toNat)
  case atStart => exact ⟨0, by omega, rfl, rfl, Below.refl _ _⟩
  case round =>
    obtain ⟨k, hk, rfl, rfl, hbel⟩ := hrel
    by_cases hlt : k < n
    · obtain ⟨b, off, rfl, hb, hz, hc1, hc2⟩ := (h.below (hbel.mono hB)).atPair hlt
      obtain ⟨g1, g2, g3⟩ := HP.out ps[k] (List.getElem_mem hz)
      have g4 := Int.emod_nonneg (x - ps[k].1) (show ps[k].2 ≠ 0 by omega)
      have g5 := Int.emod_lt_of_pos (x - ps[k].1) (show 0 < ps[k].2 by omega)
      go_wp2_with (go_at_call 14; refine (modulo14 _ _ _ (by omega) (by omega)).mono ?_; rintro e w1 ⟨rfl, rfl⟩)
      go_roundw
      case rel =>
        refine ⟨k + 1, by omega, by go_num, by rw [farS_take x ps k hz]; rfl, hbel.alloc hbel.size _⟩
      case measure => simp [intOf]; omega
    · have hkn : ps.length ≤ k := by have := h.1; rw [pcells_len] at this; omega
      go_wp2
      go_ret
      exact ⟨ret_int (by rw [List.take_of_length_le hkn]), hbel⟩
end Go.Proofs.Ytojjmkoelggfbaa
