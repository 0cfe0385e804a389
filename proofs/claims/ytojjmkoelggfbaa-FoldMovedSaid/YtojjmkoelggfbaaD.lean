/- Walks: all numbers that are near; the nearest one. -/
import Derived.Test.YtojjmkoelggfbaaC
import Derived.Deep.DeepMust
namespace Go.Proofs.Ytojjmkoelggfbaa
open Go.RowKit

/-- The numbers below k that are near. -/
def nearS (ps : List (Int × Int)) (off : Int) (k : Nat) : List Int := ((List.range k).map Int.ofNat).filter (fun x => decide (farS x ps ≤ off))
theorem nearS_hit (ps : List (Int × Int)) (off : Int) (k : Nat) (h : farS k ps ≤ off) : nearS ps off (k + 1) = nearS ps off k ++ [(k : Int)] := by
  simp [nearS, List.range_succ, List.filter_append, h]
theorem nearS_miss (ps : List (Int × Int)) (off : Int) (k : Nat) (h : off < farS k ps) : nearS ps off (k + 1) = nearS ps off k := by
  simp [nearS, List.range_succ, List.filter_append, h]
theorem nearS_len (ps : List (Int × Int)) (off : Int) (k : Nat) : (nearS ps off k).length ≤ k := by
  have := List.length_filter_le (fun x => decide (farS x ps ≤ off)) ((List.range k).map Int.ofNat)
  simpa [nearS] using this
theorem okPairs_of (r m : List Int) (hm : ∀ k ∈ m, 1 ≤ k ∧ k ≤ 1099511627776) : okPairs (pairsS r m) := by
  intro p hp
  obtain ⟨q, hq, rfl⟩ := List.mem_map.1 hp
  have := hm q.2 (List.of_mem_zip hq).2
  exact ⟨Int.emod_nonneg _ (by omega), Int.emod_lt_of_pos _ (by omega), this.2⟩
theorem info2 : (Try.prog.info? 2).map (fun i => (i.zero, i.size, i.bytes)) = some (some (.int .i64 0), 1, 8) := by kernel_rfl

set_option maxHeartbeats 800000 in
theorem near6 (B : Nat) (A A' : Option Addr) (n c c' : Nat) (r m : List Int) (off M : Int) (w : World) (h : Rd w B 1 A n (ints .i64 r)) (h' : Rd w B 1 A' n (ints .i64 m)) (hn : n ≤ 8) (hB : B ≤ w.heap.size)
    (hm : ∀ k ∈ m, 1 ≤ k ∧ k ≤ 1099511627776) (ho : 0 ≤ off) (hM : 0 ≤ M) (hM' : M ≤ 8192) :
    Calls Try.prog 6 #[.slice A n c, .slice A' n c', .int .i64 off, .int .i64 M] w fun e w' => ∃ v, e = .returned (.tuple #[v, .int .i64 0]) ∧
      w'.ownsRow w.heap.size 2 1 v (nearS (pairsS r m) off M.toNat).length (ints .i64 (nearS (pairsS r m) off M.toNat)) ∧ Below w.heap.size w w' := by
  obtain ⟨i0, hi0, hz0, hz1, hz2⟩ := info_parts info2
  obtain ⟨T, rfl⟩ := Int.eq_ofNat_of_zero_le hM
  rw [Int.toNat_natCast]
  have hP := okPairs_of r m hm
  have HP := Lib.hid hP
  have HM := Lib.hid hm
  clear hP hm
  generalize hps : pairsS r m = ps at *
  have HPS := Lib.hid hps
  clear hps
  go_enter Try.func6, Try.ntmps6
  go_wp2_with fail
  refine (ready10 B A A' n c c' r m _ h h' hn hB HM.out).mono ?_
  rintro e w1 ⟨v, rfl, hown, hbel⟩
  rw [HPS.out] at hown
  obtain ⟨A2, c2, rfl, hrd⟩ := Rd.own hown
  clear hown
  go_wp2_with fail
  go_loopw [8, 11, 33] (fun v _ i wr => ∃ k : Nat, k ≤ T ∧ i = .int .i64 k ∧ wr.ownsRow w1.heap.size 2 1 v (nearS ps off k).length (ints .i64 (nearS ps off k)) ∧ Below w1.heap.size w1 wr) (fun _ _ i _ => T - (intOf i).toNat)
  case atStart => exact ⟨0, by omega, rfl, World.ownsRow_nil _ _ _ _, Below.refl _ _⟩
  case round =>
    obtain ⟨k, hk, rfl, hown, hb1⟩ := hrel
    by_cases hlt : k < T
    · have hs1 := hb1.size
      have hl := nearS_len ps off k
      have hlt' : (nearS ps off k).length < 65536 := by omega
      have hown2 := hown
      obtain ⟨A3, c3, rfl, _⟩ := Rd.own hown2
      clear hown2
      have HO := Lib.hid hown
      clear hown
      generalize hL : (nearS ps off k).length = L at *
      have HL := Lib.hid hL
      clear hL
      go_wp2_with fail
      refine (far11 _ A2 n c2 ps _ _ (hrd.below hb1) hn hs1 (by omega) (by omega) HP.out).mono ?_
      rintro e w2 ⟨rfl, hb3⟩
      have hs3 := hb3.size
      have HO2 := Lib.hid (own_below HO.out hb3)
      clear HO
      go_wp2_with (at_builtin; refine wpList_append_own _ rfl _ _ 22 rfl w1.heap.size 2 i0 (.int .i64 0) 1 8 Try.underlying22 hi0 hz0 hz1 hz2 rfl (by decide) _ _ _ rfl (HO2.out.alloc _) ⟨w2.heap.size, 0, none⟩ 1 1 [.int .i64 (k : Int)] rfl rfl (cell_new1 _ _ _) (by simp [Value.oneCell']) (by simp only [maxLen]; omega) (by omega) (by simp; omega) ?_)
      · have hf : off < farS (k : Int) ps := by assumption
        go_roundw
        case rel => exact ⟨k + 1, by omega, by go_num, by rw [nearS_miss ps off k hf, HL.out]; exact HO2.out, below_to hb1 hb3 hs1⟩
        case measure => simp [intOf]; omega
      · intro v' w3 hown3 hgr _
        have hf : farS (k : Int) ps ≤ off := by assumption
        have R1 : w3.ownsRow w1.heap.size 2 1 v' (nearS ps off (k + 1)).length (ints .i64 (nearS ps off (k + 1))) := by
          rw [nearS_hit ps off k hf, List.length_append, HL.out, ints, List.map_append]
          exact hown3
        have R2 : Below w1.heap.size w1 w3 := ((below_to hb1 hb3 hs1).alloc (by omega) _).grown hgr (by simp; omega) (fun q hq => (HO2.out.lt q hq).1)
        clear hown3 hgr
        go_wp2
        go_roundw
        case rel => exact ⟨k + 1, by omega, by go_num, R1, R2⟩
        case measure => simp [intOf]; omega
    · obtain rfl : k = T := by omega
      have hs := hbel.size
      go_wp2
      go_ret2
      exact ⟨_, rfl, own_base hown hs, hbel.trans (hb1.mono hs)⟩

/-- The least distance below k, and where it stands first. -/
def bestS (ps : List (Int × Int)) : Nat → Int × Int
  | 0 => (0, farS 0 ps)
  | k + 1 => if farS k ps < (bestS ps k).2 then (k, farS k ps) else bestS ps k

set_option maxHeartbeats 800000 in
theorem best8 (B : Nat) (A A' : Option Addr) (n c c' : Nat) (r m : List Int) (M : Int) (w : World) (h : Rd w B 1 A n (ints .i64 r)) (h' : Rd w B 1 A' n (ints .i64 m)) (hn : n ≤ 8) (hB : B ≤ w.heap.size)
    (hm : ∀ k ∈ m, 1 ≤ k ∧ k ≤ 1099511627776) (hM : 1 ≤ M) (hM' : M ≤ 8192) :
    Calls Try.prog 8 #[.slice A n c, .slice A' n c', .int .i64 M] w fun e w' => e = .returned (.tuple #[.int .i64 (bestS (pairsS r m) M.toNat).1, .int .i64 (bestS (pairsS r m) M.toNat).2, .int .i64 0]) ∧ Below w.heap.size w w' := by
  obtain ⟨T, rfl⟩ := Int.eq_ofNat_of_zero_le (show 0 ≤ M by omega)
  rw [Int.toNat_natCast]
  have hP := okPairs_of r m hm
  have HP := Lib.hid hP
  have HM := Lib.hid hm
  clear hP hm
  generalize hps : pairsS r m = ps at *
  have HPS := Lib.hid hps
  clear hps
  go_enter Try.func8, Try.ntmps8
  go_wp2_with fail
  refine (ready10 B A A' n c c' r m _ h h' hn hB HM.out).mono ?_
  rintro e w1 ⟨v, rfl, hown, hbel⟩
  rw [HPS.out] at hown
  obtain ⟨A2, c2, rfl, hrd⟩ := Rd.own hown
  clear hown
  go_wp2_with fail
  refine (far11 _ A2 n c2 ps _ _ hrd hn (Nat.le_refl _) (by omega) (by omega) HP.out).mono ?_
  rintro e w2 ⟨rfl, hb2⟩
  go_wp2_with fail
  go_loopw [6, 7, 10, 11, 31] (fun x o _ _ i wr => ∃ k : Nat, k ≤ T ∧ i = .int .i64 k ∧ x = .int .i64 (bestS ps k).1 ∧ o = .int .i64 (bestS ps k).2 ∧ Below w1.heap.size w1 wr) (fun _ _ _ _ i _ => T - (intOf i).toNat)
  case atStart => exact ⟨0, by omega, rfl, rfl, rfl, hb2⟩
  case round =>
    obtain ⟨k, hk, rfl, rfl, rfl, hb1⟩ := hrel
    by_cases hlt : k < T
    · have hs1 := hb1.size
      go_wp2_with fail
      refine (far11 _ A2 n c2 ps _ _ (hrd.below hb1) hn hs1 (by omega) (by omega) HP.out).mono ?_
      rintro e w3 ⟨rfl, hb3⟩
      go_wp2_with fail
      · have hf : farS (k : Int) ps < (bestS ps k).2 := by assumption
        go_roundw
        case rel => exact ⟨k + 1, by omega, by go_num, by rw [bestS, if_pos hf], by rw [bestS, if_pos hf], below_to hb1 hb3 hs1⟩
        case measure => simp [intOf]; omega
      · have hle : (bestS ps k).2 ≤ farS (k : Int) ps := by assumption
        have hf : ¬ farS (k : Int) ps < (bestS ps k).2 := by omega
        go_roundw
        case rel => exact ⟨k + 1, by omega, by go_num, by rw [bestS, if_neg hf], by rw [bestS, if_neg hf], below_to hb1 hb3 hs1⟩
        case measure => simp [intOf]; omega
    · obtain rfl : k = T := by omega
      have hs := hbel.size
      go_wp2
      go_ret3
      exact ⟨rfl, hbel.trans (hb1.mono hs)⟩
end Go.Proofs.Ytojjmkoelggfbaa
