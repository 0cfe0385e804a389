/- The plan's own steps (release, stretch, done) are ticks side by side. Plain laws. -/
import Derived.Test.YtcffjobefgecdaaT
namespace Go.Proofs.Ytcffjobefgecdaa

/-- A line without Set: at most one row of jobs, all of the line's task. -/
structure Good (R : Int) (x : PLine) : Prop where
  may : mayB x.t = true
  near : x.next ≤ R + x.t.ev
  wait : x.wait = [] ∨ ∃ f c, x.wait = [⟨x.t, f, c⟩] ∧ 1 ≤ c ∧ x.next = f + c * x.t.ev ∧ 1 ≤ x.left ∧ x.left ≤ x.t.lo
def absL (x : PLine) : AL := match x.wait with
  | [] => ⟨x.t, x.next, 0⟩
  | r :: _ => ⟨x.t, r.first, x.t.lo - x.left⟩
theorem absL_t (x : PLine) : (absL x).t = x.t := by unfold absL; split <;> rfl
theorem absL_nil {x : PLine} (h : x.wait = []) : absL x = ⟨x.t, x.next, 0⟩ := by unfold absL; rw [h]
theorem absL_cons {x : PLine} {r : PRun} {rs : List PRun} (h : x.wait = r :: rs) : absL x = ⟨x.t, r.first, x.t.lo - x.left⟩ := by unfold absL; rw [h]

theorem Good.mono {R R' : Int} {x : PLine} (h : Good R x) (hR : R ≤ R') : Good R' x := ⟨h.may, by have := h.near; omega, h.wait⟩
theorem mul_one_le {c e : Int} (hc : 1 ≤ c) (he : 1 ≤ e) : e ≤ c * e := by
  have := Int.mul_le_mul_of_nonneg_right hc (show 0 ≤ e by omega)
  omega
theorem Good.le {R : Int} {x : PLine} (h : Good R x) (hw : x.wait ≠ []) : (absL x).a ≤ R := by
  obtain ⟨a1, a2, a3, a4⟩ := may_spec h.may
  rcases h.wait with h' | ⟨f, c, hw', hc, hn, _⟩
  · exact absurd h' hw
  · rw [absL_cons hw']
    have h1 := h.near
    have h2 := mul_one_le hc a1
    show f ≤ R
    omega

/-- Releasing changes nothing of what is to be done. -/
theorem rel_abs {R q : Int} {x : PLine} (h : Good R x) (hR : R ≤ q) : absL (relLine q x) = absL x ∧ Good q (relLine q x) ∧ ((relLine q x).wait = [] ↔ q < (absL x).a) ∧ q < (relLine q x).next := by
  obtain ⟨a1, a2, a3, a4⟩ := may_spec h.may
  by_cases hn : q < x.next
  · have e : relLine q x = x := by simp [relLine, hn]
    rw [e]
    refine ⟨rfl, h.mono hR, ⟨fun hw => by rw [absL_nil hw]; exact hn, fun hq => ?_⟩, hn⟩
    by_cases hw : x.wait = []
    · exact hw
    · have := h.le hw
      omega
  · obtain ⟨m, hm, m1, m2, m3⟩ := rel_nums hn a1
    rcases h.wait with hw | ⟨f, c, hw, hc, hx, l1, l2⟩
    · have e : relLine q x = { t := x.t, next := x.next + m * x.t.ev, wait := [⟨x.t, x.next, m⟩], left := x.t.lo } := by
        unfold relLine
        rw [if_neg hn, if_neg (fun h => h.1 hw), if_pos hw, ← hm, hw]
        rfl
      rw [e]
      refine ⟨?_, ⟨h.may, m3, .inr ⟨x.next, m, rfl, m1, rfl, a3, Int.le_refl _⟩⟩, ⟨(fun h => by cases h), fun hq => ?_⟩, m2⟩
      · rw [absL_nil hw]
        show (⟨x.t, x.next, x.t.lo - x.t.lo⟩ : AL) = _
        rw [Int.sub_self]
      · rw [absL_nil hw] at hq
        exact absurd hq hn
    · have hc' : x.wait ≠ [] ∧ (x.wait.getLastD ⟨⟨0, 0, 0⟩, 0, 0⟩).t = x.t := by rw [hw]; exact ⟨by simp, rfl⟩
      have e : relLine q x = { t := x.t, next := x.next + m * x.t.ev, wait := [⟨x.t, f, c + m⟩], left := x.left } := by
        unfold relLine
        rw [if_neg hn, if_pos hc', ← hm, hw]
        rfl
      rw [e]
      refine ⟨?_, ⟨h.may, m3, .inr ⟨f, c + m, rfl, by omega, ?_, l1, l2⟩⟩, ⟨(fun h => by cases h), fun hq => ?_⟩, m2⟩
      · rw [absL_cons hw]
        rfl
      · show x.next + m * x.t.ev = f + (c + m) * x.t.ev
        rw [hx, Int.add_mul]
        omega
      · have hle := h.le (by rw [hw]; simp)
        omega

theorem done_abs {R d : Int} {x : PLine} (h : Good R x) (hw : x.wait ≠ []) (hd : 1 ≤ d) (hl : d ≤ x.left) : absL (doneLine d x) = adv d (absL x) ∧ Good R (doneLine d x) := by
  obtain ⟨a1, a2, a3, a4⟩ := may_spec h.may
  rcases h.wait with hw' | ⟨f, c, hw', hc, hx, l1, l2⟩
  · exact absurd hw' hw
  · rw [absL_cons hw']
    unfold doneLine adv
    by_cases hA : 0 < x.left - d
    · rw [if_pos hA]
      simp only
      rw [if_pos (by omega)]
      refine ⟨?_, ⟨h.may, h.near, .inr ⟨f, c, hw', hc, hx, by show 1 ≤ x.left - d; omega, by show x.left - d ≤ x.t.lo; omega⟩⟩⟩
      rw [absL_cons (x := { x with left := x.left - d }) hw']
      show (⟨x.t, f, x.t.lo - (x.left - d)⟩ : AL) = ⟨x.t, f, x.t.lo - x.left + d⟩
      congr 1
      omega
    · rw [if_neg hA]
      simp only
      rw [if_neg (by omega), hw']
      simp only
      by_cases hB : c - 1 = 0
      · rw [if_pos hB]
        obtain rfl : c = 1 := by omega
        refine ⟨?_, ⟨h.may, h.near, .inl rfl⟩⟩
        rw [absL_nil rfl]
        show (⟨x.t, x.next, 0⟩ : AL) = ⟨x.t, f + x.t.ev, 0⟩
        rw [hx, Int.one_mul]
      · rw [if_neg hB]
        refine ⟨?_, ⟨h.may, h.near, .inr ⟨f + x.t.ev, c - 1, rfl, by omega, ?_, a3, Int.le_refl _⟩⟩⟩
        · rw [absL_cons rfl]
          show (⟨x.t, f + x.t.ev, x.t.lo - x.t.lo⟩ : AL) = _
          rw [Int.sub_self]
        · show x.next = f + x.t.ev + (c - 1) * x.t.ev
          rw [hx, Int.sub_mul]
          omega

/-- The first is ahead of all that wait. -/
theorem firstTo_min (l : List PLine) (k : Nat) : ∀ i, i < k → ∀ h : i < l.length, l[i].wait ≠ [] → 0 ≤ (firstTo l k).task ∧ (firstTo l k = jobOf i l[i] ∨ beforeB (firstTo l k) (jobOf i l[i]) = true) := by
  induction k with
  | zero => intro i hi; omega
  | succ k ih =>
    intro i hi h hw
    by_cases hk : k < l.length
    · have e : firstTo l (k + 1) = stepFirst k l[k] (firstTo l k) := by rw [firstTo, List.getElem?_eq_getElem hk]
      rw [e]
      by_cases hwk : l[k].wait = []
      · rw [stepFirst, if_pos hwk]
        by_cases hik : i = k
        · subst hik; exact absurd hwk hw
        · exact ih i (by omega) h hw
      · rw [stepFirst, if_neg hwk]
        by_cases hb : (firstTo l k).task < 0 ∨ beforeB (jobOf k l[k]) (firstTo l k) = true
        · rw [if_pos hb]
          refine ⟨by rw [jobOf_task]; omega, ?_⟩
          by_cases hik : i = k
          · subst hik; exact .inl rfl
          · obtain ⟨h1, h2⟩ := ih i (by omega) h hw
            rcases hb with hb | hb
            · omega
            · rcases h2 with h2 | h2
              · rw [h2] at hb; exact .inr hb
              · exact .inr (before_trans hb h2)
        · rw [if_neg hb]
          have hb1 : 0 ≤ (firstTo l k).task := by
            by_cases hc : (firstTo l k).task < 0
            · exact absurd (.inl hc) hb
            · omega
          by_cases hik : i = k
          · subst hik
            refine ⟨hb1, .inr ?_⟩
            rcases firstTo_spec l i with ⟨h1, _⟩ | ⟨j, hj, hj', h1, h2⟩
            · omega
            · rcases before_total (a := firstTo l i) (b := jobOf i l[i]) (by rw [h1, jobOf_task, jobOf_task]; omega) with h | h
              · exact h
              · exact absurd (.inr h) hb
          · exact ih i (by omega) h hw
    · have e : firstTo l (k + 1) = firstTo l k := by rw [firstTo, List.getElem?_eq_none (by omega)]
      rw [e]
      exact ih i (by omega) h hw
theorem endTo_le (l : List PLine) (j : PJob) (to : Int) (k : Nat) : ∀ i, i < k → ∀ h : i < l.length, l[i].wait = [] → beforeB (nextJob i l[i]) j = true → endTo l j to k ≤ l[i].next := by
  induction k with
  | zero => intro i hi; omega
  | succ k ih =>
    intro i hi h hw hb
    by_cases hk : k < l.length
    · have e : endTo l j to (k + 1) = endStep k l[k] j (endTo l j to k) := by rw [endTo, List.getElem?_eq_getElem hk]
      rw [e]
      by_cases hik : i = k
      · subst hik
        rw [endStep, if_pos ⟨hw, hb⟩]
        exact mn_le_left _ _
      · have := ih i (by omega) h hw hb
        unfold endStep
        split
        · have := mn_le_right l[k].next (endTo l j to k)
          omega
        · exact this
    · have e : endTo l j to (k + 1) = endTo l j to k := by rw [endTo, List.getElem?_eq_none (by omega)]
      rw [e]
      exact ih i (by omega) h hw hb

/-- A plan's state at a tick. -/
structure TS (L : List AL) (s : PSt) (n : Nat) : Prop where
  now : s.now = n
  good : ∀ x ∈ s.l, Good n x
  abs : s.l.map absL = Lat L n

theorem map_rel {R q : Int} {l : List PLine} (h : ∀ x ∈ l, Good R x) (hR : R ≤ q) : (l.map (relLine q)).map absL = l.map absL := by
  rw [List.map_map]
  exact List.map_congr_left fun x hx => (rel_abs (h x hx) hR).1
theorem good_rel {R q : Int} {l : List PLine} (h : ∀ x ∈ l, Good R x) (hR : R ≤ q) : ∀ x ∈ l.map (relLine q), Good q x ∧ (x.wait = [] ↔ q < (absL x).a) ∧ q < x.next := by
  intro x hx
  obtain ⟨y, hy, rfl⟩ := List.mem_map.1 hx
  obtain ⟨h1, h2, h3, h4⟩ := rel_abs (h y hy) hR
  refine ⟨h2, ?_, h4⟩
  rw [h1]
  exact h3

/-- The lines, released up to a tick f at which one waits: the stretch. -/
theorem stretchAt_ticks {L : List AL} {s : PSt} {f : Nat} (hg : ∀ x ∈ s.l, Good f x ∧ (x.wait = [] ↔ (f : Int) < (absL x).a) ∧ (f : Int) < x.next) (ha : s.l.map absL = Lat L f) (h : 0 ≤ (firstJ s.l).task) :
    ∃ i, ∃ hi : i < s.l.length, Best f (Lat L f) i ∧ s.l[i].wait ≠ [] ∧ (stretchAt s f (firstJ s.l)).1.task = i ∧ (stretchAt s f (firstJ s.l)).1.frm = f ∧
      (stretchAt s f (firstJ s.l)).2 = s.l[i].t.ev + (absL s.l[i]).a ∧ (stretchAt s f (firstJ s.l)).1.late = decide ((stretchAt s f (firstJ s.l)).2 < (stretchAt s f (firstJ s.l)).1.to) ∧
      (stretchAt s f (firstJ s.l)).1.to ≤ f + s.l[i].left ∧ (f : Int) < (stretchAt s f (firstJ s.l)).1.to ∧
      ∀ T : Nat, (f : Int) < T → (T : Int) ≤ (stretchAt s f (firstJ s.l)).1.to →
        (∀ q, f ≤ q → q < T → Wat L q = some i) ∧ Lat L T = (Lat L f).modify i (adv (T - f)) := by
  obtain ⟨i, hi, hj, hw, ht⟩ := first_some h
  have hla : ∀ k (hk : k < s.l.length) (hk' : k < (Lat L f).length), (Lat L f)[k] = absL s.l[k] := by
    intro k hk hk'
    simp only [← ha, List.getElem_map]
  have hlen : (Lat L f).length = s.l.length := by rw [← ha, List.length_map]
  have hi' : i < (Lat L f).length := by omega
  have hjob : ∀ k (hk : k < s.l.length), s.l[k].wait ≠ [] → jobOf k s.l[k] = aJob k (absL s.l[k]) := by
    intro k hk hwk
    rcases (hg _ (List.getElem_mem hk)).1.wait with hn | ⟨a, c, hc, _⟩
    · exact absurd hn hwk
    · unfold jobOf aJob
      rw [absL_cons hc, hc]
      rfl
  have hnext : ∀ k (hk : k < s.l.length), s.l[k].wait = [] → nextJob k s.l[k] = aJob k (absL s.l[k]) ∧ s.l[k].next = (absL s.l[k]).a := by
    intro k hk hwk
    rw [absL_nil hwk]
    exact ⟨rfl, rfl⟩
  have hpi : (absL s.l[i]).a ≤ f := by
    obtain ⟨_, h2, _⟩ := hg _ (List.getElem_mem hi)
    have := mt h2.2 hw
    omega
  have hbest : Best f (Lat L f) i := by
    refine ⟨hi', by rw [hla i hi hi']; exact hpi, fun k hk hki hp => ?_⟩
    have hk' : k < s.l.length := by omega
    rw [hla i hi hi', hla k hk' hk]
    rw [hla k hk' hk] at hp
    obtain ⟨_, h2, _⟩ := hg _ (List.getElem_mem hk')
    have hwk : s.l[k].wait ≠ [] := fun e => by have := h2.1 e; omega
    have := (firstTo_min s.l s.l.length k hk' hk' hwk).2
    rw [← hjob i hi hw, ← hjob k hk' hwk, ← hj]
    rcases this with h3 | h3
    · have h4 : (firstJ s.l) = jobOf k s.l[k] := h3
      rw [hj] at h4
      have h5 := congrArg PJob.task h4
      rw [jobOf_task, jobOf_task] at h5
      omega
    · exact h3
  have hget : s.l.getD (firstJ s.l).task.toNat ⟨⟨0, 0, 0⟩, 0, [], 0⟩ = s.l[i] := by
    rw [ht]
    simp [List.getD_eq_getElem?_getD, List.getElem?_eq_getElem hi]
  have hto : (stretchAt s f (firstJ s.l)).1.to = endTo s.l (firstJ s.l) (f + s.l[i].left) s.l.length := by
    show endTo s.l (firstJ s.l) (f + (s.l.getD (firstJ s.l).task.toNat ⟨⟨0, 0, 0⟩, 0, [], 0⟩).left) s.l.length = _
    rw [hget]
  have he1 := (endTo_spec s.l (firstJ s.l) (f + s.l[i].left) s.l.length).1
  obtain ⟨fi, ci, hwi, hc1, hn1, hl1, hl2⟩ : ∃ a c, s.l[i].wait = [⟨s.l[i].t, a, c⟩] ∧ 1 ≤ c ∧ s.l[i].next = a + c * s.l[i].t.ev ∧ 1 ≤ s.l[i].left ∧ s.l[i].left ≤ s.l[i].t.lo := by
    rcases (hg _ (List.getElem_mem hi)).1.wait with hn | h
    · exact absurd hn hw
    · exact h
  have hlt : (f : Int) < (stretchAt s f (firstJ s.l)).1.to := by
    rw [hto]
    obtain ⟨_, h2⟩ := endTo_spec s.l (firstJ s.l) (f + s.l[i].left) s.l.length
    rcases h2 with h2 | ⟨k, hk, hk', h2, _⟩
    · omega
    · have := (hg _ (List.getElem_mem hk')).2.2
      omega
  refine ⟨i, hi, hbest, hw, ht, rfl, ?_, rfl, by rw [hto]; exact he1, hlt, fun T hT1 hT2 => ?_⟩
  · show (firstJ s.l).due = _
    rw [hj, hjob i hi hw]
    show (absL s.l[i]).a + (absL s.l[i]).t.ev = _
    rw [absL_t]
    omega
  · have hTl : (T : Int) ≤ f + ((Lat L f)[i]'hi').t.lo - ((Lat L f)[i]'hi').u := by
      rw [hla i hi hi', absL_cons hwi]
      show (T : Int) ≤ f + s.l[i].t.lo - (s.l[i].t.lo - s.l[i].left)
      omega
    have hr := runs (T := T) hbest hTl ?_
    · refine ⟨fun q hq1 hq2 => ?_, ?_⟩
      · have := (hr (q - f) (by omega)).2 (by omega)
        rwa [show f + (q - f) = q by omega] at this
      · have := (hr (T - f) (by omega)).1 (by omega)
        rw [show f + (T - f) = T by omega] at this
        rw [this]
        congr 2
        omega
    · intro k hk hki hp1 hp2
      have hk' : k < s.l.length := by omega
      rw [hla i hi hi', hla k hk' hk]
      rw [hla k hk' hk] at hp1 hp2
      have hwk := (hg _ (List.getElem_mem hk')).2.1.2 hp1
      obtain ⟨n1, n2⟩ := hnext k hk' hwk
      rcases before_total (a := aJob i (absL s.l[i])) (b := aJob k (absL s.l[k])) (by show (i : Int) ≠ k; omega) with hb | hb
      · exact hb
      · rw [← n1, ← hjob i hi hw, ← hj] at hb
        have := endTo_le s.l (firstJ s.l) (f + s.l[i].left) s.l.length k hk' hk' hwk hb
        omega

/-- What a stretch is, in ticks. -/
structure Ran (L : List AL) (n f : Nat) (s1 : PSt) (x : PSlot) (d : Int) : Prop where
  nf : n ≤ f
  frm : x.frm = f
  idle : ∀ q, n ≤ q → q < f → Wat L q = none
  lt : (f : Int) < x.to
  lim : ∃ i, ∃ hi : i < (Lat L f).length, x.task = i ∧ d = ((Lat L f)[i]).a + ((Lat L f)[i]).t.ev ∧ ((Lat L f)[i]).a ≤ f ∧ x.to ≤ f + ((Lat L f)[i]).t.lo - ((Lat L f)[i]).u ∧ (∀ q : Nat, f ≤ q → (q : Int) < x.to → Wat L q = some i)
  late : x.late = decide (d < x.to)
  next : ∀ y : PSlot, y.task = x.task → y.frm = x.frm → (f : Int) < y.to → y.to ≤ x.to → TS L (done s1 y) y.to.toNat

theorem ran_of {L : List AL} {n f : Nat} {s1 : PSt} (hnf : n ≤ f) (hid : ∀ q, n ≤ q → q < f → Wat L q = none)
    (hg : ∀ x ∈ s1.l, Good f x ∧ (x.wait = [] ↔ (f : Int) < (absL x).a) ∧ (f : Int) < x.next) (ha : s1.l.map absL = Lat L f) (h : 0 ≤ (firstJ s1.l).task) :
    Ran L n f s1 (stretchAt s1 f (firstJ s1.l)).1 (stretchAt s1 f (firstJ s1.l)).2 := by
  obtain ⟨i, hi, hb, hw, h1, h2, h3, h4, h5, h6, h7⟩ := stretchAt_ticks hg ha h
  have hla : ∀ k (hk : k < s1.l.length) (hk' : k < (Lat L f).length), (Lat L f)[k] = absL s1.l[k] := by
    intro k hk hk'
    simp only [← ha, List.getElem_map]
  obtain ⟨fi, ci, hwi, hc1, hn1, hl1, hl2⟩ : ∃ a c, s1.l[i].wait = [⟨s1.l[i].t, a, c⟩] ∧ 1 ≤ c ∧ s1.l[i].next = a + c * s1.l[i].t.ev ∧ 1 ≤ s1.l[i].left ∧ s1.l[i].left ≤ s1.l[i].t.lo := by
    rcases (hg _ (List.getElem_mem hi)).1.wait with hn | h
    · exact absurd hn hw
    · exact h
  refine ⟨hnf, h2, hid, h6, ⟨i, hb.hi, h1, ?_, hb.pend, ?_, ?_⟩, h4, fun y y1 y2 y3 y4 => ?_⟩
  · rw [h3, hla i hi hb.hi, absL_t]
    omega
  · rw [hla i hi hb.hi, absL_cons hwi]
    show _ ≤ (f : Int) + s1.l[i].t.lo - (s1.l[i].t.lo - s1.l[i].left)
    omega
  · intro q hq1 hq2
    exact (h7 (q + 1) (by omega) (by omega)).1 q hq1 (by omega)
  · have hT := h7 y.to.toNat (by omega) (by omega)
    have hget : s1.l.getD y.task.toNat ⟨⟨0, 0, 0⟩, 0, [], 0⟩ = s1.l[i] := by
      rw [y1, h1]
      simp [List.getD_eq_getElem?_getD, List.getElem?_eq_getElem hi]
    have hdl := done_abs (d := y.to - y.frm) (hg _ (List.getElem_mem hi)).1 hw (by omega) (by omega)
    have hti : y.task.toNat = i := by rw [y1, h1]; omega
    unfold done
    rw [hget, hti]
    refine ⟨by show y.to = _; omega, fun x hx => ?_, ?_⟩
    · rcases List.mem_or_eq_of_mem_set hx with hx | rfl
      · exact (hg x hx).1.mono (by omega)
      · exact hdl.2.mono (by omega)
    · show (s1.l.set i _).map absL = _
      rw [hT.2, List.map_set, hdl.1, ha]
      refine List.ext_getElem (by simp) fun k hk1 hk2 => ?_
      simp only [List.getElem_set, List.getElem_modify]
      by_cases hik : i = k
      · subst hik
        simp only [if_true]
        rw [hla i hi hb.hi]
        congr 1
        omega
      · simp only [if_neg hik]

theorem stretch_ticks {L : List AL} {s : PSt} {n : Nat} {lim : Int} (h : TS L s n) (hlim : (n : Int) < lim) :
    ((stretch s lim).2 = none ∧ TS L (stretch s lim).1 n ∧ (∀ q : Nat, n ≤ q → (q : Int) ≤ lim → Lat L q = Lat L n ∧ ((q : Int) < lim → Wat L q = none))) ∨
    ∃ f : Nat, ∃ x d, (f : Int) < lim ∧ (stretch s lim).2 = some (x, d) ∧ Ran L n f (stretch s lim).1 x d := by
  have hg1 := good_rel h.good (Int.le_refl (n : Int))
  have hm1 := map_rel h.good (Int.le_refl (n : Int))
  unfold stretch
  rw [h.now]
  by_cases hf : 0 ≤ (firstJ (release n s).l).task
  · rw [if_pos hf]
    refine .inr ⟨n, _, _, hlim, rfl, ran_of (Nat.le_refl n) (fun q h1 h2 => by omega) hg1 ?_ hf⟩
    exact hm1.trans h.abs
  · rw [if_neg hf]
    have hw := first_none hf
    have hpast : ∀ x ∈ (release n s).l, (absL x).a = x.next := fun x hx => by rw [absL_nil (hw x hx)]
    obtain ⟨p1, p2, p3⟩ := minTo_spec (release n s).l lim (release n s).l.length
    have hall : ∀ y ∈ Lat L n, minTo (release n s).l lim (release n s).l.length ≤ y.a := by
      intro y hy
      rw [← h.abs, ← hm1] at hy
      obtain ⟨x, hx, rfl⟩ := List.mem_map.1 hy
      rw [hpast x hx]
      obtain ⟨i, hi, rfl⟩ := List.mem_iff_getElem.1 hx
      exact p2 i hi hi
    by_cases hm : minTo (release n s).l lim (release n s).l.length = lim
    · rw [if_pos hm]
      refine .inl ⟨rfl, ⟨h.now, fun x hx => (hg1 x hx).1, hm1.trans h.abs⟩, fun q hq1 hq2 => ?_⟩
      rw [hm] at hall
      have := idle (l := L) (n := n) (m := lim.toNat) (fun y hy => by have := hall y hy; omega) (q - n) (by omega)
      rw [show n + (q - n) = q by omega] at this
      exact ⟨this.1, fun hq => this.2 (by omega)⟩
    · rw [if_neg hm]
      obtain ⟨m, hmm⟩ : ∃ m : Int, minTo (release n s).l lim (release n s).l.length = m := ⟨_, rfl⟩
      rw [hmm] at hm hall p1 p2 p3 ⊢
      have hmn : (n : Int) < m ∧ ∃ i, ∃ hi : i < (release n s).l.length, m = (release n s).l[i].next := by
        rcases p3 with p3 | ⟨i, _, hi', p3⟩
        · exact absurd p3 hm
        · have := (hg1 _ (List.getElem_mem hi')).2.2
          exact ⟨by omega, i, hi', p3⟩
      obtain ⟨hnm, i, hi, hmi⟩ := hmn
      obtain ⟨f, rfl⟩ : ∃ f : Nat, m = f := ⟨m.toNat, by omega⟩
      have hgr : ∀ x ∈ (release n s).l, Good n x := fun x hx => (hg1 x hx).1
      have hid := idle (l := L) (n := n) (m := f) hall
      have hLf : Lat L f = Lat L n := by
        have := (hid (f - n) (by omega)).1
        rwa [show n + (f - n) = f by omega] at this
      have hm2 := map_rel hgr (show (n : Int) ≤ f by omega)
      refine .inr ⟨f, _, _, by omega, rfl, ran_of (by omega) (fun q hq1 hq2 => ?_) (good_rel hgr (by omega)) ?_ ?_⟩
      · have := (hid (q - n) (by omega)).2 (by omega)
        rwa [show n + (q - n) = q by omega] at this
      · exact hm2.trans ((hm1.trans h.abs).trans hLf.symm)
      · have hx : (release f (release n s)).l[i]'(by simpa [release] using hi) = relLine f ((release n s).l[i]) := by simp [release]
        refine first_of (x := relLine f ((release n s).l[i])) (by rw [← hx]; exact List.getElem_mem _) ?_
        have h1 := rel_abs (hgr _ (List.getElem_mem hi)) (show (n : Int) ≤ f by omega)
        intro e
        have h2 := h1.2.2.1.1 e
        rw [hpast _ (List.getElem_mem hi)] at h2
        omega
end Go.Proofs.Ytcffjobefgecdaa
