/- The plain law of FoldMoved: what is moved by a little is near; less is part of more; the best is the first of its own bound. No walk here. -/
import Derived.Test.YtojjmkoelggfbaaF
namespace Go.Proofs.Ytojjmkoelggfbaa

/-- How far the i-th remainder is moved. -/
def moveS (moves : List Int) (off : Int) (i : Nat) : Int := if i < moves.length then moves.getD i 0 % (2 * off + 1) - off else 0
def rS (x : Int) (moves : List Int) (off : Int) (n : Nat) : List Int := (List.range n).map fun i => x + moveS moves off i
theorem rS_len (x : Int) (moves : List Int) (off : Int) (n : Nat) : (rS x moves off n).length = n := by simp [rS]
theorem rS_succ (x : Int) (moves : List Int) (off : Int) (n : Nat) : rS x moves off (n + 1) = rS x moves off n ++ [x + moveS moves off n] := by simp [rS, List.range_succ]
theorem moveS_bd (moves : List Int) (off : Int) (i : Nat) (h : 0 ≤ off) : -off ≤ moveS moves off i ∧ moveS moves off i ≤ off := by
  unfold moveS
  split
  · have := Int.emod_nonneg (moves.getD i 0) (show 2 * off + 1 ≠ 0 by omega)
    have := Int.emod_lt_of_pos (moves.getD i 0) (show 0 < 2 * off + 1 by omega)
    omega
  · omega

theorem dist_moved (x d m off : Int) (hm : 1 ≤ m) (h1 : -off ≤ d) (h2 : d ≤ off) : dist x ((x + d) % m, m) ≤ off := by
  unfold dist
  simp only
  have e : (x - (x + d) % m) % m = (-d) % m := by
    rw [Int.sub_emod, Int.emod_emod, ← Int.sub_emod]
    congr 1
    omega
  rw [e]
  have hn := Int.emod_nonneg (-d) (show m ≠ 0 by omega)
  have hl := Int.emod_lt_of_pos (-d) (show 0 < m by omega)
  have hq := Int.mul_ediv_add_emod (-d) m
  by_cases hd : d ≤ 0
  · have h0 : 0 ≤ m * ((-d) / m) := Int.mul_nonneg (by omega) (Int.ediv_nonneg (by omega) (by omega))
    split <;> omega
  · have h0 : (-d) / m < 0 := Int.ediv_neg_of_neg_of_pos (by omega) (by omega)
    have h1 : m * ((-d) / m) ≤ m * (-1) := Int.mul_le_mul_of_nonneg_left (by omega) (by omega)
    split <;> omega

theorem farS_fold (x : Int) (ps : List (Int × Int)) (a off : Int) (ha : a ≤ off) (h : ∀ p ∈ ps, dist x p ≤ off) : ps.foldl (fun a p => if a < dist x p then dist x p else a) a ≤ off := by
  induction ps generalizing a with
  | nil => exact ha
  | cons p ps ih =>
    simp only [List.foldl_cons]
    apply ih
    · have := h p (by simp)
      split <;> omega
    · exact fun q hq => h q (by simp [hq])
theorem farS_ge (x : Int) (ps : List (Int × Int)) (a : Int) : a ≤ ps.foldl (fun a p => if a < dist x p then dist x p else a) a := by
  induction ps generalizing a with
  | nil => exact Int.le_refl _
  | cons p ps ih =>
    simp only [List.foldl_cons]
    refine Int.le_trans ?_ (ih _)
    split <;> omega
theorem farS_nonneg (x : Int) (ps : List (Int × Int)) : 0 ≤ farS x ps := farS_ge x ps 0

theorem moved_near (x off : Int) (moves l : List Int) (ho : 0 ≤ off) (hl : ∀ k ∈ l, 1 ≤ k ∧ k ≤ 1099511627776) : farS x (pairsS (rS x moves off l.length) l) ≤ off := by
  refine farS_fold x _ 0 off ho fun p hp => ?_
  obtain ⟨q, hq, rfl⟩ := List.mem_map.1 hp
  obtain ⟨h1, h2⟩ := List.of_mem_zip hq
  obtain ⟨i, _, hi⟩ := List.mem_map.1 h1
  have hb := moveS_bd moves off i ho
  have := hl q.2 h2
  rw [← hi]
  exact dist_moved x _ _ _ (by omega) hb.1 hb.2

theorem mem_nearS (ps : List (Int × Int)) (off : Int) (T : Nat) (x : Int) : x ∈ nearS ps off T ↔ 0 ≤ x ∧ x < T ∧ farS x ps ≤ off := by
  unfold nearS
  simp only [List.mem_filter, List.mem_map, List.mem_range, decide_eq_true_eq]
  constructor
  · rintro ⟨⟨a, ha, rfl⟩, h⟩
    exact ⟨by simp, by simpa using ha, h⟩
  · rintro ⟨h0, h1, h2⟩
    exact ⟨⟨x.toNat, by omega, by simp; omega⟩, h2⟩
theorem nearS_sorted (ps : List (Int × Int)) (off : Int) (T : Nat) : (nearS ps off T).Pairwise (· < ·) := by
  unfold nearS
  apply List.Pairwise.filter
  rw [List.pairwise_map]
  exact List.pairwise_lt_range.imp (fun h => by simpa using h)

theorem bestS_spec (ps : List (Int × Int)) (T : Nat) : (∀ k, k < T → (bestS ps T).2 ≤ farS (k : Int) ps) ∧ 0 ≤ (bestS ps T).1 ∧ ((bestS ps T).1 = 0 ∨ (bestS ps T).1 < T) ∧ farS (bestS ps T).1 ps = (bestS ps T).2 ∧
    ∀ k : Nat, (k : Int) < (bestS ps T).1 → (bestS ps T).2 < farS (k : Int) ps := by
  induction T with
  | zero => exact ⟨fun k h => by omega, by simp [bestS], .inl rfl, rfl, fun k h => by simp [bestS] at h; omega⟩
  | succ T ih =>
    obtain ⟨h1, h2, h3, h4, h5⟩ := ih
    by_cases h : farS (T : Int) ps < (bestS ps T).2
    · rw [bestS, if_pos h]
      refine ⟨fun k hk => ?_, by simp, .inr (by simp; omega), rfl, fun k hk => ?_⟩
      · by_cases e : k = T
        · subst e; exact Int.le_refl _
        · have := h1 k (by omega); simp only; omega
      · have := h1 k (by simp at hk; omega)
        simp only; omega
    · rw [bestS, if_neg h]
      refine ⟨fun k hk => ?_, h2, by omega, h4, h5⟩
      by_cases e : k = T
      · subst e; omega
      · exact h1 k (by omega)
/-- The first that is near by the least bound is the best. -/
theorem near_first (ps : List (Int × Int)) (y b : Int) (T : Nat) (h0 : 0 ≤ y) (h1 : y < T) (h2 : farS y ps = b) (h3 : ∀ k : Nat, (k : Int) < y → b < farS (k : Int) ps) : ∃ rest, nearS ps b T = y :: rest := by
  have hm : y ∈ nearS ps b T := (mem_nearS _ _ _ _).2 ⟨h0, h1, by omega⟩
  have hs := nearS_sorted ps b T
  cases hl : nearS ps b T with
  | nil => rw [hl] at hm; simp at hm
  | cons z rest =>
    refine ⟨rest, ?_⟩
    congr 1
    have hz : z ∈ nearS ps b T := by rw [hl]; simp
    obtain ⟨z0, z1, z2⟩ := (mem_nearS _ _ _ _).1 hz
    rw [hl] at hm hs
    rcases List.mem_cons.1 hm with h | h
    · exact h.symm
    · have hlt : z < y := (List.pairwise_cons.1 hs).1 y h
      have := h3 z.toNat (by omega)
      rw [Int.toNat_of_nonneg z0] at this
      omega
theorem near_none (ps : List (Int × Int)) (b : Int) (T : Nat) (h : ∀ k, k < T → b ≤ farS (k : Int) ps) : nearS ps (b - 1) T = [] := by
  rw [List.eq_nil_iff_forall_not_mem]
  intro z hz
  obtain ⟨z0, z1, z2⟩ := (mem_nearS _ _ _ _).1 hz
  have := h z.toNat (by omega)
  rw [Int.toNat_of_nonneg z0] at this
  omega
end Go.Proofs.Ytojjmkoelggfbaa
