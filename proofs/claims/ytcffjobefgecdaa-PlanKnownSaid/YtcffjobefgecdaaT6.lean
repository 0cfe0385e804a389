/- Long ways: what the chapter's far examples come to. Plain laws. -/
import Derived.Test.YtcffjobefgecdaaN
import Derived.Test.YtcffjobefgecdaaK
namespace Go.Proofs.Ytcffjobefgecdaa

theorem untilGo_iter {t : Int} (st : Nat → PSt) (sl : Nat → PSlot) (K : Nat) (h : ∀ k, k < K → (st k).now < t ∧ ∃ s1 d, stretch (st k) t = (s1, some (sl k, d)) ∧ cutAt t (sl k, d) = sl k ∧ done s1 (sl k) = st (k + 1)) :
    ∀ m k, k + m ≤ K → untilGo t m (st k) = (st (k + m), (List.range m).map fun i => sl (k + i)) := by
  intro m
  induction m with
  | zero => intro k _; rfl
  | succ m ih =>
    intro k hk
    obtain ⟨h1, s1, d, h2, h3, h4⟩ := h k (by omega)
    rw [untilGo, if_pos h1, h2]
    simp only
    rw [h3, h4, ih (k + 1) (by omega), List.range_succ_eq_map, List.map_cons, List.map_map]
    have e : k + 1 + m = k + (m + 1) := by omega
    rw [e]
    simp only [Nat.add_zero, Prod.mk.injEq, true_and, List.cons.injEq]
    refine List.map_congr_left fun i _ => ?_
    simp only [Function.comp]
    congr 1
    omega
theorem cut_same {t : Int} {x : PSlot} {d : Int} (h : x.to ≤ t) : cutAt t (x, d) = x := by
  unfold cutAt
  rw [if_neg (by show ¬ t < x.to; omega)]
theorem untilS_most {s s' : PSt} {l : List PSlot} {tick : Int} (ht : (if endT < tick then endT else tick) = tick) (h : untilGo tick 65536 s = (s', l)) (hl : l.length = 65536) : untilS s tick = (s', l) := by
  unfold untilS
  simp only [ht, mostN, h]
  rw [if_neg (by omega)]

/-! One that has more to do than it can. -/
abbrev uT0 : PTask := ⟨1099511627776, 1099511627776, 0⟩
abbrev uT1 : PTask := ⟨1, 1, 5⟩
def uSt (k : Nat) : PSt := if k = 0 then newS [uT0, uT1] else ⟨[⟨uT0, 1099511627776, [⟨uT0, 0, 1⟩], 1099511627776⟩, ⟨uT1, k, [], 0⟩], k⟩
def uSl (k : Nat) : PSlot := ⟨1, k, k + 1, false⟩
theorem u_step (k : Nat) (hk : k < 70000) : (uSt k).now < 70000 ∧ ∃ s1 d, stretch (uSt k) 70000 = (s1, some (uSl k, d)) ∧ cutAt 70000 (uSl k, d) = uSl k ∧ done s1 (uSl k) = uSt (k + 1) := by
  by_cases h0 : k = 0
  · subst h0
    exact ⟨by decide, _, _, rfl, by decide, by decide⟩
  · have e : uSt k = ⟨[⟨uT0, 1099511627776, [⟨uT0, 0, 1⟩], 1099511627776⟩, ⟨uT1, k, [], 0⟩], k⟩ := by unfold uSt; rw [if_neg h0]
    have hr : release k (uSt k) = ⟨[⟨uT0, 1099511627776, [⟨uT0, 0, 1⟩], 1099511627776⟩, ⟨uT1, k + 1, [⟨uT1, k, 1⟩], 1⟩], k⟩ := by
      rw [e]
      have h1 : (k : Int) < 1099511627776 := by omega
      simp [release, relLine, h1]
    have hf : firstJ [⟨uT0, 1099511627776, [⟨uT0, 0, 1⟩], 1099511627776⟩, ⟨uT1, k + 1, [⟨uT1, k, 1⟩], 1⟩] = ⟨k + 1, 5, 1⟩ := by
      have h1 : (k : Int) + 1 < 1099511627776 := by omega
      have h2 : ¬ (k : Int) + 1 = 1099511627776 := by omega
      simp [firstJ, firstTo, stepFirst, jobOf, beforeB, h1, h2]
    have hn : (uSt k).now = k := by rw [e]
    refine ⟨by rw [hn]; omega, release k (uSt k), (k : Int) + 1, ?_, cut_same (by show (k : Int) + 1 ≤ 70000; omega), ?_⟩
    · unfold stretch
      rw [hn, hr]
      simp only [hf]
      rw [if_pos (by decide)]
      simp [stretchAt, endTo, endStep, uSl]
    · rw [hr]
      have e2 : uSt (k + 1) = ⟨[⟨uT0, 1099511627776, [⟨uT0, 0, 1⟩], 1099511627776⟩, ⟨uT1, ((k + 1 : Nat) : Int), [], 0⟩], ((k + 1 : Nat) : Int)⟩ := by unfold uSt; rw [if_neg (by omega)]
      rw [e2]
      have e3 : (k : Int) + 1 - k = 1 := by omega
      simp [done, doneLine, uSl, e3]
theorem u_until : untilS (uSt 0) 70000 = (uSt 65536, (List.range 65536).map fun i => uSl (0 + i)) := by
  refine untilS_most (by unfold endT; rw [if_neg (by omega)]) ?_ (by rw [List.length_map, List.length_range])
  have := untilGo_iter uSt uSl 70000 u_step 65536 0 (by omega)
  rwa [Nat.zero_add] at this

/-! One that is released seldom. -/
abbrev wT : PTask := ⟨1099511627776, 1, 0⟩
def wSt (k : Nat) : PSt := if k = 0 then newS [wT] else ⟨[⟨wT, k * 1099511627776, [], 0⟩], (k - 1) * 1099511627776 + 1⟩
def wSl (k : Nat) : PSlot := ⟨0, k * 1099511627776, k * 1099511627776 + 1, false⟩
theorem w_step (k : Nat) (hk : k < 1048576) : (wSt k).now < endT ∧ ∃ s1 d, stretch (wSt k) endT = (s1, some (wSl k, d)) ∧ cutAt endT (wSl k, d) = wSl k ∧ done s1 (wSl k) = wSt (k + 1) := by
  by_cases h0 : k = 0
  · subst h0
    exact ⟨by decide, _, _, rfl, by decide, by decide⟩
  · have e : wSt k = ⟨[⟨wT, k * 1099511627776, [], 0⟩], (k - 1) * 1099511627776 + 1⟩ := by unfold wSt; rw [if_neg h0]
    have hn : (wSt k).now = (k - 1) * 1099511627776 + 1 := by rw [e]
    have hr : release ((k - 1) * 1099511627776 + 1) (wSt k) = ⟨[⟨wT, k * 1099511627776, [], 0⟩], (k - 1) * 1099511627776 + 1⟩ := by
      rw [e]
      have h1 : ((k : Int) - 1) * 1099511627776 + 1 < k * 1099511627776 := by omega
      simp [release, relLine, h1]
    have hf0 : firstJ [⟨wT, (k : Int) * 1099511627776, [], 0⟩] = ⟨0, 0, -1⟩ := by simp [firstJ, firstTo, stepFirst]
    have hm : minTo [⟨wT, (k : Int) * 1099511627776, [], 0⟩] endT 1 = (k : Int) * 1099511627776 := by
      have h1 : (k : Int) * 1099511627776 < endT := by unfold endT; omega
      simp [minTo, mn, h1]
    have hr2 : release ((k : Int) * 1099511627776) ⟨[⟨wT, k * 1099511627776, [], 0⟩], (k - 1) * 1099511627776 + 1⟩ = ⟨[⟨wT, k * 1099511627776 + 1099511627776, [⟨wT, k * 1099511627776, 1⟩], 1⟩], (k - 1) * 1099511627776 + 1⟩ := by
      simp [release, relLine]
    have hf : firstJ [⟨wT, (k : Int) * 1099511627776 + 1099511627776, [⟨wT, (k : Int) * 1099511627776, 1⟩], 1⟩] = ⟨k * 1099511627776 + 1099511627776, 0, 0⟩ := by
      simp [firstJ, firstTo, stepFirst, jobOf]
    refine ⟨by rw [hn]; unfold endT; omega, ⟨[⟨wT, k * 1099511627776 + 1099511627776, [⟨wT, k * 1099511627776, 1⟩], 1⟩], (k - 1) * 1099511627776 + 1⟩, (k : Int) * 1099511627776 + 1099511627776, ?_, cut_same (by show (k : Int) * 1099511627776 + 1 ≤ endT; unfold endT; omega), ?_⟩
    · unfold stretch
      rw [hn, hr]
      simp only [hf0]
      rw [if_neg (by decide)]
      simp only [List.length_cons, List.length_nil, Nat.zero_add, hm]
      rw [if_neg (by unfold endT; omega), hr2]
      simp only [hf]
      simp [stretchAt, endTo, endStep, wSl]
    · have e2 : wSt (k + 1) = ⟨[⟨wT, ((k + 1 : Nat) : Int) * 1099511627776, [], 0⟩], (((k + 1 : Nat) : Int) - 1) * 1099511627776 + 1⟩ := by unfold wSt; rw [if_neg (by omega)]
      rw [e2]
      have e3 : (k : Int) * 1099511627776 + 1 - k * 1099511627776 = 1 := by omega
      simp [done, doneLine, wSl, e3]
      omega
theorem w_until : untilS (wSt 0) 1152921504606846981 = (wSt 65536, (List.range 65536).map fun i => wSl (0 + i)) := by
  have h := untilGo_iter wSt wSl 1048576 w_step 65536 0 (by omega)
  rw [Nat.zero_add] at h
  unfold untilS
  have ht : (if endT < (1152921504606846981 : Int) then endT else 1152921504606846981) = endT := by decide
  simp only [ht, mostN, h]
  rw [if_neg (by rw [List.length_map, List.length_range]; omega)]

/-! One that has no time left. -/
abbrev sT : PTask := ⟨1099511627775, 1099511627775, 0⟩
abbrev sEnd : Int := 1152921504606846971
def sSt (k : Nat) : PSt := ⟨[⟨sT, k * 1099511627775, [], 0⟩], k * 1099511627775⟩
def sSl (k : Nat) : PSlot := ⟨0, k * 1099511627775, k * 1099511627775 + 1099511627775, false⟩
theorem s_rel (k : Nat) : release ((k : Int) * 1099511627775) (sSt k) = ⟨[⟨sT, k * 1099511627775 + 1099511627775, [⟨sT, k * 1099511627775, 1⟩], 1099511627775⟩], k * 1099511627775⟩ := by
  simp [release, relLine, sSt]
theorem s_first (k : Nat) : firstJ [⟨sT, (k : Int) * 1099511627775 + 1099511627775, [⟨sT, (k : Int) * 1099511627775, 1⟩], 1099511627775⟩] = ⟨k * 1099511627775 + 1099511627775, 0, 0⟩ := by
  simp [firstJ, firstTo, stepFirst, jobOf]
theorem s_stretch (k : Nat) (lim : Int) : stretch (sSt k) lim = ((⟨[⟨sT, k * 1099511627775 + 1099511627775, [⟨sT, k * 1099511627775, 1⟩], 1099511627775⟩], k * 1099511627775⟩ : PSt), some (sSl k, (k : Int) * 1099511627775 + 1099511627775)) := by
  have hn : (sSt k).now = k * 1099511627775 := rfl
  unfold stretch
  rw [hn, s_rel]
  simp only [s_first]
  rw [if_pos (by decide)]
  simp [stretchAt, endTo, endStep, sSl]
theorem s_done (k : Nat) : done ⟨[⟨sT, k * 1099511627775 + 1099511627775, [⟨sT, k * 1099511627775, 1⟩], 1099511627775⟩], k * 1099511627775⟩ (sSl k) = sSt (k + 1) := by
  have e3 : (k : Int) * 1099511627775 + 1099511627775 - k * 1099511627775 = 1099511627775 := by omega
  simp [done, doneLine, sSl, sSt, e3]
  omega
theorem s_step (k : Nat) (hk : k < 1048576) : (sSt k).now < sEnd ∧ ∃ s1 d, stretch (sSt k) sEnd = (s1, some (sSl k, d)) ∧ cutAt sEnd (sSl k, d) = sSl k ∧ done s1 (sSl k) = sSt (k + 1) :=
  ⟨by show (k : Int) * 1099511627775 < 1152921504606846971; omega, _, _, s_stretch k sEnd, cut_same (by show (k : Int) * 1099511627775 + 1099511627775 ≤ 1152921504606846971; omega), s_done k⟩
/-- Behind so many calls of Until. -/
def sCall (i : Nat) : PSt := if i ≤ 16 then sSt (65536 * i) else ⟨[⟨sT, 1048577 * 1099511627775, [⟨sT, 1048576 * 1099511627775, 1⟩], 1048577 * 1099511627775 - sEnd⟩], sEnd⟩
theorem s_calls (i : Nat) (hi : i < 17) : (untilS (sCall i) sEnd).1 = sCall (i + 1) := by
  by_cases h16 : i < 16
  · have e : sCall i = sSt (65536 * i) := by unfold sCall; rw [if_pos (by omega)]
    have e2 : sCall (i + 1) = sSt (65536 * i + 65536) := by unfold sCall; rw [if_pos (by omega)]; congr 1
    have h := untilGo_iter sSt sSl 1048576 s_step 65536 (65536 * i) (by omega)
    rw [e, e2, untilS_most (by decide) h (by rw [List.length_map, List.length_range])]
  · obtain rfl : i = 16 := by omega
    have e : sCall 16 = sSt 1048576 := rfl
    have h1 : untilGo sEnd 65536 (sSt 1048576) = (sCall 17, [⟨0, 1048576 * 1099511627775, sEnd, false⟩]) := by
      decide +kernel
    rw [e]
    unfold untilS
    have ht : (if endT < sEnd then endT else sEnd) = sEnd := by decide
    simp only [ht, mostN, h1]
    decide
theorem s_next : nextS (sCall 17) = (sCall 17, ⟨0, 0, 0, false⟩, 3) := by decide +kernel
theorem s_now : (sCall 17).now = 1152921504606846971 := rfl
theorem s_zero : sCall 0 = newS [sT] := by decide
end Go.Proofs.Ytcffjobefgecdaa
