/- Plain laws of a plan's state: what may stand in it, and what the steps keep. -/
import Derived.Test.YtcffjobefgecdaaS
namespace Go.Proofs.Ytcffjobefgecdaa

structure RunOk (next : Int) (r : PRun) : Prop where
  e1 : 1 ≤ r.t.ev
  e2 : r.t.ev ≤ 1099511627776
  l1 : 1 ≤ r.t.lo
  l2 : r.t.lo ≤ r.t.ev
  f : 0 ≤ r.first
  c : 1 ≤ r.count
  n : r.first + r.count * r.t.ev ≤ next
/-- How many rows of jobs may wait at most, when the task is not turned. -/
def weight (x : PLine) : Nat := x.wait.length + (if x.wait ≠ [] ∧ (x.wait.getLastD ⟨⟨0, 0, 0⟩, 0, 0⟩).t = x.t then 0 else 1)
structure LineOk (K : Nat) (x : PLine) : Prop where
  may : mayB x.t = true
  n0 : 0 ≤ x.next
  n1 : x.next ≤ 1152921504606846976 + 1099511627776
  runs : ∀ r ∈ x.wait, RunOk x.next r
  wt : weight x ≤ K
  left : x.wait ≠ [] → 1 ≤ x.left ∧ x.left ≤ 1099511627776
structure StOk (K : Nat) (s : PSt) : Prop where
  n : s.l.length ≤ 256
  lines : ∀ x ∈ s.l, LineOk K x
  now0 : 0 ≤ s.now
  now1 : s.now ≤ 1152921504606846976

theorem may_spec {t : PTask} (h : mayB t = true) : 1 ≤ t.ev ∧ t.ev ≤ 1099511627776 ∧ 1 ≤ t.lo ∧ t.lo ≤ t.ev := by
  simp only [mayB, Bool.and_eq_true, decide_eq_true_eq] at h
  omega

theorem RunOk.mono {n m : Int} {r : PRun} (h : RunOk n r) (hn : n ≤ m) : RunOk m r := ⟨h.e1, h.e2, h.l1, h.l2, h.f, h.c, by have := h.n; omega⟩
theorem RunOk.first {n : Int} {r : PRun} (h : RunOk n r) : r.first + r.t.ev ≤ n := by
  have h1 := h.n
  have h2 := h.c
  have h3 : 1 * r.t.ev ≤ r.count * r.t.ev := Int.mul_le_mul_of_nonneg_right h2 (by have := h.e1; omega)
  omega

/-- The numbers of a line that is released. -/
theorem rel_nums {tick nx ev : Int} (h : ¬ tick < nx) (he : 1 ≤ ev) : ∃ m, m = (tick - nx) / ev + 1 ∧ 1 ≤ m ∧ tick < nx + m * ev ∧ nx + m * ev ≤ tick + ev := by
  refine ⟨_, rfl, ?_, ?_, ?_⟩
  · have := Int.ediv_nonneg (a := tick - nx) (b := ev) (by omega) (by omega)
    omega
  · have h1 := Int.mul_ediv_add_emod (tick - nx) ev
    have h2 := Int.emod_lt_of_pos (tick - nx) (show 0 < ev by omega)
    rw [Int.add_mul, Int.one_mul, Int.mul_comm]
    omega
  · have h1 := Int.mul_ediv_add_emod (tick - nx) ev
    have h2 := Int.emod_nonneg (tick - nx) (show ev ≠ 0 by omega)
    rw [Int.add_mul, Int.one_mul, Int.mul_comm]
    omega

theorem getLastD_set_last {l : List PRun} (h : l ≠ []) (r d : PRun) : (l.set (l.length - 1) r).getLastD d = r := by
  have hL : 0 < l.length := List.length_pos_iff.2 h
  rw [List.getLastD_eq_getLast?, List.getLast?_eq_getElem?, List.length_set, List.getElem?_set_self (by omega)]
  rfl
theorem getLastD_mem {l : List PRun} (h : l ≠ []) (d : PRun) : l.getLastD d ∈ l := by
  rw [List.getLastD_eq_getLast?, List.getLast?_eq_some_getLast h]
  exact List.getLast_mem h

theorem relLine_t (tick : Int) (x : PLine) : (relLine tick x).t = x.t := by
  unfold relLine
  split
  · rfl
  · split <;> rfl

theorem relLine_ok {K : Nat} {tick : Int} {x : PLine} (h : LineOk K x) (t1 : tick ≤ 1152921504606846976) : LineOk K (relLine tick x) ∧ tick < (relLine tick x).next ∧ x.next ≤ (relLine tick x).next ∧ (x.wait ≠ [] → (relLine tick x).wait ≠ [] ∧ (relLine tick x).left = x.left) ∧ (¬ tick < x.next → (relLine tick x).wait ≠ []) := by
  obtain ⟨a1, a2, a3, a4⟩ := may_spec h.may
  by_cases hn : tick < x.next
  · have : relLine tick x = x := by simp [relLine, hn]
    rw [this]
    exact ⟨h, hn, Int.le_refl _, fun h => ⟨h, rfl⟩, fun h' => absurd hn h'⟩
  · obtain ⟨m, hm, m1, m2, m3⟩ := rel_nums hn a1
    have hmn : x.next ≤ x.next + m * x.t.ev := by omega
    by_cases hc : x.wait ≠ [] ∧ (x.wait.getLastD ⟨⟨0, 0, 0⟩, 0, 0⟩).t = x.t
    · have e : relLine tick x = { t := x.t, next := x.next + m * x.t.ev, wait := x.wait.set (x.wait.length - 1) { (x.wait.getLastD ⟨⟨0, 0, 0⟩, 0, 0⟩) with count := (x.wait.getLastD ⟨⟨0, 0, 0⟩, 0, 0⟩).count + m }, left := x.left } := by
        unfold relLine
        rw [if_neg hn, if_pos hc, hm]
      have hne : x.wait.set (x.wait.length - 1) { (x.wait.getLastD ⟨⟨0, 0, 0⟩, 0, 0⟩) with count := (x.wait.getLastD ⟨⟨0, 0, 0⟩, 0, 0⟩).count + m } ≠ [] := by
        simpa using hc.1
      rw [e]
      refine ⟨⟨h.may, by have := h.n0; show 0 ≤ x.next + m * x.t.ev; omega, by show x.next + m * x.t.ev ≤ _; omega, ?_, ?_, ?_⟩, m2, hmn, fun _ => ⟨hne, rfl⟩, fun _ => hne⟩
      · intro r hr
        show RunOk (x.next + m * x.t.ev) r
        rcases List.mem_or_eq_of_mem_set hr with hr | rfl
        · exact (h.runs r hr).mono hmn
        · have hl := h.runs _ (getLastD_mem hc.1 ⟨⟨0, 0, 0⟩, 0, 0⟩)
          have hn' := hl.n
          refine ⟨hl.e1, hl.e2, hl.l1, hl.l2, hl.f, by have := hl.c; show 1 ≤ _ + m; omega, ?_⟩
          show (x.wait.getLastD ⟨⟨0, 0, 0⟩, 0, 0⟩).first + ((x.wait.getLastD ⟨⟨0, 0, 0⟩, 0, 0⟩).count + m) * (x.wait.getLastD ⟨⟨0, 0, 0⟩, 0, 0⟩).t.ev ≤ x.next + m * x.t.ev
          rw [Int.add_mul]
          rw [hc.2] at hn' ⊢
          omega
      · have hw := h.wt
        unfold weight at hw ⊢
        rw [if_pos hc] at hw
        show (x.wait.set _ _).length + _ ≤ K
        rw [if_pos ⟨hne, by
          show ((x.wait.set (x.wait.length - 1) _).getLastD _).t = x.t
          rw [getLastD_set_last hc.1]
          exact hc.2⟩, List.length_set]
        exact hw
      · intro _
        exact h.left hc.1
    · have e : relLine tick x = { t := x.t, next := x.next + m * x.t.ev, wait := x.wait ++ [⟨x.t, x.next, m⟩], left := if x.wait = [] then x.t.lo else x.left } := by
        unfold relLine
        rw [if_neg hn, if_neg hc, hm]
      rw [e]
      have hne : x.wait ++ [(⟨x.t, x.next, m⟩ : PRun)] ≠ [] := by simp
      refine ⟨⟨h.may, by have := h.n0; show 0 ≤ x.next + m * x.t.ev; omega, by show x.next + m * x.t.ev ≤ _; omega, ?_, ?_, ?_⟩, m2, hmn, fun hw => ⟨hne, by simp [hw]⟩, fun _ => hne⟩
      · intro r hr
        show RunOk (x.next + m * x.t.ev) r
        rcases List.mem_append.1 hr with hr | hr
        · exact (h.runs r hr).mono hmn
        · obtain rfl := List.mem_singleton.1 hr
          exact ⟨a1, a2, a3, a4, h.n0, m1, Int.le_refl _⟩
      · have hw := h.wt
        unfold weight at hw ⊢
        rw [if_neg hc] at hw
        show (x.wait ++ [_]).length + _ ≤ K
        rw [if_pos ⟨hne, by
          show ((x.wait ++ [_]).getLastD _).t = x.t
          rw [List.getLastD_concat]⟩, List.length_append]
        simpa using hw
      · intro _
        show 1 ≤ (if x.wait = [] then x.t.lo else x.left) ∧ (if x.wait = [] then x.t.lo else x.left) ≤ _
        by_cases hw : x.wait = []
        · rw [if_pos hw]; omega
        · rw [if_neg hw]; exact h.left hw

theorem release_ok {K : Nat} {s : PSt} {tick : Int} (h : StOk K s) (t1 : tick ≤ 1152921504606846976) : StOk K (release tick s) := by
  refine ⟨by simp [release, h.n], fun x hx => ?_, h.now0, h.now1⟩
  simp only [release, List.mem_map] at hx
  obtain ⟨y, hy, rfl⟩ := hx
  exact (relLine_ok (h.lines y hy) t1).1
theorem release_len (tick : Int) (s : PSt) : (release tick s).l.length = s.l.length := by simp [release]
theorem release_next {K : Nat} {s : PSt} {tick : Int} (h : StOk K s) (t1 : tick ≤ 1152921504606846976) : ∀ x ∈ (release tick s).l, tick < x.next := by
  intro x hx
  simp only [release, List.mem_map] at hx
  obtain ⟨y, hy, rfl⟩ := hx
  exact (relLine_ok (h.lines y hy) t1).2.1

theorem first_ok {K : Nat} {s : PSt} (h : StOk K s) : ∀ x ∈ s.l, ∀ r ∈ x.wait, 0 ≤ r.first ∧ r.first ≤ 2305843009213693952 ∧ 1 ≤ r.t.ev ∧ r.t.ev ≤ 1099511627776 := by
  intro x hx r hr
  have hl := h.lines x hx
  have hr' := hl.runs r hr
  have h1 := hr'.first
  have h2 := hr'.e1
  have h3 := hl.n1
  exact ⟨hr'.f, by omega, h2, hr'.e2⟩

/-- Who is first. -/
theorem firstTo_spec (l : List PLine) (k : Nat) :
    ((firstTo l k).task = -1 ∧ firstTo l k = ⟨0, 0, -1⟩ ∧ ∀ i, i < k → ∀ h : i < l.length, l[i].wait = []) ∨
    ∃ i, i < k ∧ ∃ h : i < l.length, firstTo l k = jobOf i l[i] ∧ l[i].wait ≠ [] := by
  induction k with
  | zero => exact .inl ⟨rfl, rfl, fun i hi => by omega⟩
  | succ k ih =>
    by_cases hk : k < l.length
    · have e : firstTo l (k + 1) = stepFirst k l[k] (firstTo l k) := by rw [firstTo, List.getElem?_eq_getElem hk]
      by_cases hw : l[k].wait = []
      · rw [e, stepFirst, if_pos hw]
        rcases ih with ⟨h1, h1', h2⟩ | ⟨i, hi, h, h1, h2⟩
        · refine .inl ⟨h1, h1', fun i hi h => ?_⟩
          by_cases hik : i = k
          · subst hik; exact hw
          · exact h2 i (by omega) h
        · exact .inr ⟨i, by omega, h, h1, h2⟩
      · rw [e, stepFirst, if_neg hw]
        by_cases hb : (firstTo l k).task < 0 ∨ beforeB (jobOf k l[k]) (firstTo l k) = true
        · rw [if_pos hb]
          exact .inr ⟨k, by omega, hk, rfl, hw⟩
        · rw [if_neg hb]
          rcases ih with ⟨h1, _, h2⟩ | ⟨i, hi, h, h1, h2⟩
          · exact absurd (.inl (by omega)) hb
          · exact .inr ⟨i, by omega, h, h1, h2⟩
    · have e : firstTo l (k + 1) = firstTo l k := by rw [firstTo, List.getElem?_eq_none (by omega)]
      rw [e]
      rcases ih with ⟨h1, h1', h2⟩ | ⟨i, hi, h, h1, h2⟩
      · exact .inl ⟨h1, h1', fun i hi h => h2 i (by omega) h⟩
      · exact .inr ⟨i, by omega, h, h1, h2⟩
theorem jobOf_task (i : Nat) (x : PLine) : (jobOf i x).task = i := rfl
theorem first_some {l : List PLine} (h : 0 ≤ (firstJ l).task) : ∃ i, ∃ hi : i < l.length, firstJ l = jobOf i l[i] ∧ l[i].wait ≠ [] ∧ (firstJ l).task = i := by
  rcases firstTo_spec l l.length with ⟨h1, _⟩ | ⟨i, _, hi, h1, h2⟩
  · unfold firstJ at h; omega
  · exact ⟨i, hi, h1, h2, by unfold firstJ; rw [h1]; rfl⟩
theorem first_none {l : List PLine} (h : ¬ 0 ≤ (firstJ l).task) : ∀ x ∈ l, x.wait = [] := by
  rcases firstTo_spec l l.length with ⟨_, _, h2⟩ | ⟨i, _, hi, h1, h2⟩
  · intro x hx
    obtain ⟨i, hi, rfl⟩ := List.mem_iff_getElem.1 hx
    exact h2 i hi hi
  · exact absurd (by unfold firstJ; rw [h1, jobOf_task]; omega) h
theorem first_of {l : List PLine} {x : PLine} (hx : x ∈ l) (hw : x.wait ≠ []) : 0 ≤ (firstJ l).task := by
  by_cases h : 0 ≤ (firstJ l).task
  · exact h
  · exact absurd (first_none h x hx) hw

theorem mn_le_left (x f : Int) : mn x f ≤ x := by unfold mn; split <;> omega
theorem mn_le_right (x f : Int) : mn x f ≤ f := by unfold mn; split <;> omega
theorem mn_or (x f : Int) : mn x f = x ∨ mn x f = f := by unfold mn; split <;> simp
theorem minTo_spec (l : List PLine) (lim : Int) (k : Nat) : minTo l lim k ≤ lim ∧ (∀ i, i < k → ∀ h : i < l.length, minTo l lim k ≤ l[i].next) ∧ (minTo l lim k = lim ∨ ∃ i, i < k ∧ ∃ h : i < l.length, minTo l lim k = l[i].next) := by
  induction k with
  | zero => exact ⟨Int.le_refl _, fun i hi => by omega, .inl rfl⟩
  | succ k ih =>
    obtain ⟨h1, h2, h3⟩ := ih
    by_cases hk : k < l.length
    · have e : minTo l lim (k + 1) = mn l[k].next (minTo l lim k) := by rw [minTo, List.getElem?_eq_getElem hk]
      have m1 := mn_le_left l[k].next (minTo l lim k)
      have m2 := mn_le_right l[k].next (minTo l lim k)
      refine ⟨by omega, fun i hi h => ?_, ?_⟩
      · by_cases hik : i = k
        · subst hik; omega
        · have := h2 i (by omega) h; omega
      · rcases mn_or l[k].next (minTo l lim k) with m | m
        · exact .inr ⟨k, by omega, hk, by omega⟩
        · rcases h3 with h3 | ⟨i, hi, h, h3⟩
          · exact .inl (by omega)
          · exact .inr ⟨i, by omega, h, by omega⟩
    · have e : minTo l lim (k + 1) = minTo l lim k := by rw [minTo, List.getElem?_eq_none (by omega)]
      rw [e]
      refine ⟨h1, fun i hi h => h2 i (by omega) h, ?_⟩
      rcases h3 with h3 | ⟨i, hi, h, h3⟩
      · exact .inl h3
      · exact .inr ⟨i, by omega, h, h3⟩
theorem endTo_spec (l : List PLine) (j : PJob) (to : Int) (k : Nat) : endTo l j to k ≤ to ∧ (endTo l j to k = to ∨ ∃ i, i < k ∧ ∃ h : i < l.length, endTo l j to k = l[i].next ∧ l[i].wait = []) := by
  induction k with
  | zero => exact ⟨Int.le_refl _, .inl rfl⟩
  | succ k ih =>
    obtain ⟨h1, h3⟩ := ih
    by_cases hk : k < l.length
    · have e : endTo l j to (k + 1) = endStep k l[k] j (endTo l j to k) := by rw [endTo, List.getElem?_eq_getElem hk]
      by_cases hc : l[k].wait = [] ∧ beforeB (nextJob k l[k]) j = true
      · rw [e, endStep, if_pos hc]
        have m2 := mn_le_right l[k].next (endTo l j to k)
        refine ⟨by omega, ?_⟩
        rcases mn_or l[k].next (endTo l j to k) with m | m
        · exact .inr ⟨k, by omega, hk, m, hc.1⟩
        · rw [m]
          rcases h3 with h3 | ⟨i, hi, h, h3⟩
          · exact .inl h3
          · exact .inr ⟨i, by omega, h, h3⟩
      · rw [e, endStep, if_neg hc]
        refine ⟨h1, ?_⟩
        rcases h3 with h3 | ⟨i, hi, h, h3⟩
        · exact .inl h3
        · exact .inr ⟨i, by omega, h, h3⟩
    · have e : endTo l j to (k + 1) = endTo l j to k := by rw [endTo, List.getElem?_eq_none (by omega)]
      rw [e]
      refine ⟨h1, ?_⟩
      rcases h3 with h3 | ⟨i, hi, h, h3⟩
      · exact .inl h3
      · exact .inr ⟨i, by omega, h, h3⟩

/-- The second release wakes one. -/
theorem wakes_one {K : Nat} {s : PSt} {lim : Int} (h : StOk K s) (hl : lim ≤ 1152921504606846976) (hne : minTo s.l lim s.l.length ≠ lim) :
    0 ≤ minTo s.l lim s.l.length ∧ minTo s.l lim s.l.length < lim ∧ 0 ≤ (firstJ (release (minTo s.l lim s.l.length) s).l).task := by
  obtain ⟨h1, h2, h3⟩ := minTo_spec s.l lim s.l.length
  rcases h3 with h3 | ⟨i, hi, hi', h3⟩
  · exact absurd h3 hne
  · have hx := h.lines _ (List.getElem_mem hi')
    have h0 := hx.n0
    refine ⟨by omega, by omega, ?_⟩
    refine first_of (x := relLine (minTo s.l lim s.l.length) s.l[i]) (by simp only [release, List.mem_map]; exact ⟨_, List.getElem_mem hi', rfl⟩) ?_
    exact (relLine_ok hx (by omega)).2.2.2.2 (by omega)
end Go.Proofs.Ytcffjobefgecdaa
