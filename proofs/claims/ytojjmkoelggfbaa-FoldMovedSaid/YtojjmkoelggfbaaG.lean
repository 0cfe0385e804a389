/- Walks: the joining of three remainders, and what the document says of a few. -/
import Derived.Test.YtojjmkoelggfbaaE
import Derived.Test.YtojjmkoelggfbaaF
namespace Go.Proofs.Ytojjmkoelggfbaa
open Go.RowKit

/-- A quiet call behind draws: from a contract that leaves the world as it was, or but for draws. -/
theorem quietA {P : Program} {f : FuncId} {args : Array Value} {w : World} {a n : Nat} {v : Value}
    (h : Calls P f args (w.drewN (a + n)) fun e w' => e = .returned v ∧ ∃ m, w' = (w.drewN (a + n)).drewN m) :
    Calls P f args (w.drewN (a + n)) fun e w' => e = .returned v ∧ ∃ m, w' = w.drewN (a + m) :=
  h.mono fun _ _ ⟨he, m, hm⟩ => ⟨he, n + m, by rw [hm, World.drewN_drewN, Nat.add_assoc]⟩
theorem quietB {P : Program} {f : FuncId} {args : Array Value} {w : World} {a n : Nat} {v : Value}
    (h : Calls P f args (w.drewN (a + n)) fun e w' => e = .returned v ∧ w.drewN (a + n) = w') :
    Calls P f args (w.drewN (a + n)) fun e w' => e = .returned v ∧ ∃ m, w' = w.drewN (a + m) :=
  h.mono fun _ _ ⟨he, hm⟩ => ⟨he, n, hm.symm⟩
theorem quietC {P : Program} {f : FuncId} {args : Array Value} {w : World} {n : Nat} {v : Value}
    (h : Calls P f args (w.drewN n) fun e w' => e = .returned v ∧ w.drewN n = w') :
    Calls P f args (w.drewN n) fun e w' => e = .returned v ∧ ∃ m, w' = w.drewN m :=
  h.mono fun _ _ ⟨he, hm⟩ => ⟨he, n, hm.symm⟩

theorem euc_1_3 (w : World) : Calls Try.prog 15 #[.int .i64 1, .int .i64 3] w fun e w' => e = .returned (.agg #[.int .i64 1, .int .i64 1, .int .i64 0]) ∧ Below w.heap.size w w' :=
  (euclid15 1 3 2 w (by decide)).mono fun _ _ h => h
theorem euc_3_5 (w : World) : Calls Try.prog 15 #[.int .i64 3, .int .i64 5] w fun e w' => e = .returned (.agg #[.int .i64 1, .int .i64 2, .int .i64 (-1)]) ∧ Below w.heap.size w w' :=
  (euclid15 3 5 4 w (by decide)).mono fun _ _ h => h
theorem euc_15_7 (w : World) : Calls Try.prog 15 #[.int .i64 15, .int .i64 7] w fun e w' => e = .returned (.agg #[.int .i64 1, .int .i64 1, .int .i64 (-2)]) ∧ Below w.heap.size w w' :=
  (euclid15 15 7 2 w (by decide)).mono fun _ _ h => h
theorem euc_12_18 (w : World) : Calls Try.prog 15 #[.int .i64 12, .int .i64 18] w fun e w' => e = .returned (.agg #[.int .i64 6, .int .i64 (-1), .int .i64 1]) ∧ Below w.heap.size w w' :=
  (euclid15 12 18 3 w (by decide)).mono fun _ _ h => h

theorem below_round {B : Nat} {w wr w1 : World} (h : Below B w wr) (h1 : Below wr.heap.size wr w1) (hB : B ≤ wr.heap.size) (o : Obj) (n : Nat) : Below B w ((w1.alloc o).drewN n) := by
  have := (below_to h h1 hB).alloc (Nat.le_trans hB h1.size) o
  exact ⟨this.os, this.tape, this.output, this.size, this.block⟩

/-- The number and the common multiple behind k rounds. -/
def JoinAt (k : Nat) (x l : Int) : Prop := (k = 0 ∧ x = 0 ∧ l = 1) ∨ (k = 1 ∧ x = 2 ∧ l = 3) ∨ (k = 2 ∧ x = 8 ∧ l = 15) ∨ (k = 3 ∧ x = 23 ∧ l = 105)

set_option maxRecDepth 100000 in
set_option maxHeartbeats 2000000 in
theorem join12 (B : Nat) (A A' : Option Addr) (c c' : Nat) (w : World) (h : Rd w B 1 A 3 (ints .i64 [2, 3, 2])) (h' : Rd w B 1 A' 3 (ints .i64 [3, 5, 7])) (hB : B ≤ w.heap.size) :
    Calls Try.prog 12 #[.slice A 3 c, .slice A' 3 c'] w fun e w' => e = .returned (.tuple #[.int .i64 23, .int .i64 105, .int .i64 0]) ∧ Below w.heap.size w w' := by
  obtain ⟨b, off, rfl, hb, hc⟩ := h.2 (by omega)
  obtain ⟨b', off', rfl, hb', hc'⟩ := h'.2 (by omega)
  have r0 := hc 0 _ rfl
  have r1 := hc 1 _ rfl
  have r2 := hc 2 _ rfl
  have m0 := hc' 0 _ rfl
  have m1 := hc' 1 _ rfl
  have m2 := hc' 2 _ rfl
  simp only [Nat.add_zero] at r0 m0
  clear hc hc' h h'
  go_enter Try.func12, Try.ntmps12
  go_wp2
  go_loopw [4, 5, 8, 9, 10, 11, 12, 13, 22] (fun x l _ _ _ _ _ _ i wr => ∃ (k : Nat) (X L : Int), k ≤ 3 ∧ i = .int .i64 k ∧ x = .int .i64 X ∧ l = .int .i64 L ∧ JoinAt k X L ∧ Below w.heap.size w wr) (fun _ _ _ _ _ _ _ _ i _ => 3 - (intOf i).toNat)
  case atStart => exact ⟨0, 0, 1, by omega, rfl, rfl, rfl, by unfold JoinAt; omega, Below.refl _ _⟩
  case round =>
    obtain ⟨k, X, L, hk, rfl, rfl, rfl, hJ, hbel⟩ := hrel
    have s0 := hbel.size
    rcases hJ with ⟨rfl, rfl, rfl⟩ | ⟨rfl, rfl, rfl⟩ | ⟨rfl, rfl, rfl⟩ | ⟨rfl, rfl, rfl⟩
    · have q0 := (hbel.cell (p := ⟨b, off, none⟩) (by simp; omega)).trans r0
      have q1 := (hbel.cell (p := ⟨b', off', none⟩) (by simp; omega)).trans m0
      clear r0 r1 r2 m0 m1 m2
      go_wp2_with fail
      refine (euc_1_3 _).mono ?_
      rintro e w1 ⟨rfl, hb1⟩
      have s1 := hb1.size
      have q2 := (hb1.cell (p := ⟨b, off, none⟩) (by simp; omega)).trans q0
      have q3 := (hb1.cell (p := ⟨b', off', none⟩) (by simp; omega)).trans q1
      have q4 := fun o => (World.cell?_alloc_lt w1 o ⟨b, off, none⟩ (by simp; omega)).trans q2
      have q5 := fun o => (World.cell?_alloc_lt w1 o ⟨b', off', none⟩ (by simp; omega)).trans q3
      clear q0 q1
      go_wp2_with fail
      go_quiet ((go_at_call 14; exact quietC (modulo14 _ _ _ (by omega) (by omega))))
      go_wp2_with fail
      go_quiet (first | (go_at_call 14; exact quietB (modulo14 _ _ _ (by omega) (by omega))) | (go_at_call 16; exact quietA (times16 _ _ _ _ (by omega) (by omega) (by omega) (by omega) (by omega) (by omega))))
      go_wp2_with fail
      go_roundw
      case rel => exact ⟨1, 2, 3, by omega, rfl, rfl, rfl, by unfold JoinAt; omega, below_round hbel hb1 s0 _ _⟩
      case measure => simp [intOf]
    · have q0 := (hbel.cell (p := ⟨b, off + 1, none⟩) (by simp; omega)).trans r1
      have q1 := (hbel.cell (p := ⟨b', off' + 1, none⟩) (by simp; omega)).trans m1
      clear r0 r1 r2 m0 m1 m2
      go_wp2_with fail
      refine (euc_3_5 _).mono ?_
      rintro e w1 ⟨rfl, hb1⟩
      have s1 := hb1.size
      have q2 := (hb1.cell (p := ⟨b, off + 1, none⟩) (by simp; omega)).trans q0
      have q3 := (hb1.cell (p := ⟨b', off' + 1, none⟩) (by simp; omega)).trans q1
      have q4 := fun o => (World.cell?_alloc_lt w1 o ⟨b, off + 1, none⟩ (by simp; omega)).trans q2
      have q5 := fun o => (World.cell?_alloc_lt w1 o ⟨b', off' + 1, none⟩ (by simp; omega)).trans q3
      clear q0 q1
      go_wp2_with fail
      go_quiet ((go_at_call 14; exact quietC (modulo14 _ _ _ (by omega) (by omega))))
      go_wp2_with fail
      go_quiet (first | (go_at_call 14; exact quietB (modulo14 _ _ _ (by omega) (by omega))) | (go_at_call 16; exact quietA (times16 _ _ _ _ (by omega) (by omega) (by omega) (by omega) (by omega) (by omega))))
      go_wp2_with fail
      go_roundw
      case rel => exact ⟨2, 8, 15, by omega, rfl, rfl, rfl, by unfold JoinAt; omega, below_round hbel hb1 s0 _ _⟩
      case measure => simp [intOf]
    · have q0 := (hbel.cell (p := ⟨b, off + 2, none⟩) (by simp; omega)).trans r2
      have q1 := (hbel.cell (p := ⟨b', off' + 2, none⟩) (by simp; omega)).trans m2
      clear r0 r1 r2 m0 m1 m2
      go_wp2_with fail
      refine (euc_15_7 _).mono ?_
      rintro e w1 ⟨rfl, hb1⟩
      have s1 := hb1.size
      have q2 := (hb1.cell (p := ⟨b, off + 2, none⟩) (by simp; omega)).trans q0
      have q3 := (hb1.cell (p := ⟨b', off' + 2, none⟩) (by simp; omega)).trans q1
      have q4 := fun o => (World.cell?_alloc_lt w1 o ⟨b, off + 2, none⟩ (by simp; omega)).trans q2
      have q5 := fun o => (World.cell?_alloc_lt w1 o ⟨b', off' + 2, none⟩ (by simp; omega)).trans q3
      clear q0 q1
      go_wp2_with fail
      go_quiet ((go_at_call 14; exact quietC (modulo14 _ _ _ (by omega) (by omega))))
      go_wp2_with fail
      go_quiet (first | (go_at_call 14; exact quietB (modulo14 _ _ _ (by omega) (by omega))) | (go_at_call 16; exact quietA (times16 _ _ _ _ (by omega) (by omega) (by omega) (by omega) (by omega) (by omega))))
      go_wp2_with fail
      go_roundw
      case rel => exact ⟨3, 23, 105, by omega, rfl, rfl, rfl, by unfold JoinAt; omega, below_round hbel hb1 s0 _ _⟩
      case measure => simp [intOf]
    · clear r0 r1 r2 m0 m1 m2
      go_wp2_with fail
      go_ret3
      exact ⟨rfl, hbel⟩
end Go.Proofs.Ytojjmkoelggfbaa
