/- Plain laws: what a stretch is, what stands behind it. -/
import Derived.Test.YtcffjobefgecdaaP
namespace Go.Proofs.Ytcffjobefgecdaa

/-- What is known of a stretch that was told. -/
structure SlotOk (s : PSt) (x : PSlot) (i : Nat) : Prop where
  hi : i < s.l.length
  task : x.task = i
  wait : s.l[i].wait ≠ []
  f0 : 0 ≤ x.frm
  lt : x.frm < x.to
  len : x.to - x.frm ≤ s.l[i].left
  f1 : x.frm ≤ 1152921504606846976

theorem at_some {K : Nat} {s : PSt} {f : Int} (hok : StOk K s) (hn : ∀ x ∈ s.l, f < x.next) (hf0 : 0 ≤ f) (hf1 : f ≤ 1152921504606846976) (h : 0 ≤ (firstJ s.l).task) : ∃ i, SlotOk s (stretchAt s f (firstJ s.l)).1 i ∧ (stretchAt s f (firstJ s.l)).1.frm = f ∧ (stretchAt s f (firstJ s.l)).2 = (firstJ s.l).due ∧
    (stretchAt s f (firstJ s.l)).1.late = decide ((firstJ s.l).due < (stretchAt s f (firstJ s.l)).1.to) ∧ firstJ s.l = jobOf i (s.l.getD i ⟨⟨0, 0, 0⟩, 0, [], 0⟩) := by
  obtain ⟨i, hi, hj, hw, ht⟩ := first_some h
  have hg : s.l.getD (firstJ s.l).task.toNat ⟨⟨0, 0, 0⟩, 0, [], 0⟩ = s.l[i] := by
    rw [ht]
    simp [List.getD_eq_getElem?_getD, List.getElem?_eq_getElem hi]
  obtain ⟨l0, l1⟩ := (hok.lines _ (List.getElem_mem hi)).left hw
  refine ⟨i, ⟨hi, ht, hw, hf0, ?_, ?_, hf1⟩, rfl, rfl, rfl, ?_⟩
  · show f < endTo s.l (firstJ s.l) (f + (s.l.getD (firstJ s.l).task.toNat ⟨⟨0, 0, 0⟩, 0, [], 0⟩).left) s.l.length
    rw [hg]
    obtain ⟨_, h2⟩ := endTo_spec s.l (firstJ s.l) (f + s.l[i].left) s.l.length
    rcases h2 with h2 | ⟨k, hk, hk', h2, _⟩
    · omega
    · have := hn _ (List.getElem_mem hk')
      omega
  · show endTo s.l (firstJ s.l) (f + (s.l.getD (firstJ s.l).task.toNat ⟨⟨0, 0, 0⟩, 0, [], 0⟩).left) s.l.length - f ≤ _
    rw [hg]
    have h2 := (endTo_spec s.l (firstJ s.l) (f + s.l[i].left) s.l.length).1
    omega
  · rw [hj]
    simp [List.getD_eq_getElem?_getD, List.getElem?_eq_getElem hi]

theorem stretch_cases {K : Nat} {s : PSt} {lim : Int} (hok : StOk K s) (hl : lim ≤ 1152921504606846976) :
    (0 ≤ (firstJ (release s.now s).l).task ∧ stretch s lim = (release s.now s, some (stretchAt (release s.now s) s.now (firstJ (release s.now s).l)))) ∨
    (¬ 0 ≤ (firstJ (release s.now s).l).task ∧ minTo (release s.now s).l lim (release s.now s).l.length = lim ∧ stretch s lim = (release s.now s, none)) ∨
    ∃ m, ¬ 0 ≤ (firstJ (release s.now s).l).task ∧ m = minTo (release s.now s).l lim (release s.now s).l.length ∧ 0 ≤ m ∧ m < lim ∧ 0 ≤ (firstJ (release m (release s.now s)).l).task ∧ s.now < m ∧
      stretch s lim = (release m (release s.now s), some (stretchAt (release m (release s.now s)) m (firstJ (release m (release s.now s)).l))) := by
  by_cases h : 0 ≤ (firstJ (release s.now s).l).task
  · exact .inl ⟨h, by unfold stretch; rw [if_pos h]⟩
  · by_cases hm : minTo (release s.now s).l lim (release s.now s).l.length = lim
    · exact .inr (.inl ⟨h, hm, by unfold stretch; rw [if_neg h, if_pos hm]⟩)
    · obtain ⟨m0, m1, m2⟩ := wakes_one (release_ok hok hok.now1) hl hm
      refine .inr (.inr ⟨_, h, rfl, m0, m1, m2, ?_, by unfold stretch; rw [if_neg h, if_neg hm]⟩)
      obtain ⟨_, _, h3⟩ := minTo_spec (release s.now s).l lim (release s.now s).l.length
      rcases h3 with h3 | ⟨i, hi, hi', h3⟩
      · exact absurd h3 hm
      · have := release_next hok hok.now1 _ (List.getElem_mem hi')
        omega

theorem stretch_ok {K : Nat} {s : PSt} {lim : Int} (hok : StOk K s) (hl : lim ≤ 1152921504606846976) :
    StOk K (stretch s lim).1 ∧ (stretch s lim).1.l.length = s.l.length ∧ (stretch s lim).1.now = s.now ∧
    ∀ x d, (stretch s lim).2 = some (x, d) → (∃ i, SlotOk (stretch s lim).1 x i) ∧ s.now ≤ x.frm ∧ (s.now < lim → x.frm < lim) := by
  have hok1 := release_ok hok hok.now1
  rcases stretch_cases hok hl with ⟨h, e⟩ | ⟨h, hm, e⟩ | ⟨m, h, hm, m0, m1, m2, m3, e⟩
  · rw [e]
    refine ⟨hok1, release_len _ _, rfl, fun x d hx => ?_⟩
    injection hx with hx
    obtain ⟨i, hs, hf, _⟩ := at_some hok1 (release_next hok hok.now1) hok.now0 hok.now1 h
    rw [hx] at hs hf
    have hf : x.frm = _ := hf
    exact ⟨⟨i, hs⟩, by omega, fun h => by omega⟩
  · rw [e]
    exact ⟨hok1, release_len _ _, rfl, fun x d hx => by cases hx⟩
  · rw [e]
    have hok2 := release_ok hok1 (show m ≤ 1152921504606846976 by omega)
    refine ⟨hok2, by rw [release_len, release_len], rfl, fun x d hx => ?_⟩
    injection hx with hx
    obtain ⟨i, hs, hf, _⟩ := at_some hok2 (release_next hok1 (by omega)) m0 (by omega) m2
    rw [hx] at hs hf
    have hf : x.frm = _ := hf
    exact ⟨⟨i, hs⟩, by omega, fun h => by omega⟩

theorem weight_cons {K : Nat} {x : PLine} {r r' : PRun} {rs : List PRun} (hw : x.wait = r :: rs) (hr : r'.t = r.t) (h : weight x ≤ K) (lf : Int) : weight { x with wait := r' :: rs, left := lf } ≤ K := by
  unfold weight at h ⊢
  rw [hw] at h
  show (r' :: rs).length + (if r' :: rs ≠ [] ∧ ((r' :: rs).getLastD _).t = x.t then 0 else 1) ≤ K
  have e : ((r' :: rs).getLastD ⟨⟨0, 0, 0⟩, 0, 0⟩).t = ((r :: rs).getLastD ⟨⟨0, 0, 0⟩, 0, 0⟩).t := by
    cases rs with
    | nil => exact hr
    | cons q qs => rfl
  rw [e]
  simpa using h
theorem weight_tail {K : Nat} {x : PLine} {r : PRun} {rs : List PRun} (hw : x.wait = r :: rs) (h : weight x ≤ K) (lf : Int) : weight { x with wait := rs, left := lf } ≤ K := by
  unfold weight at h ⊢
  rw [hw] at h
  show rs.length + (if rs ≠ [] ∧ (rs.getLastD _).t = x.t then 0 else 1) ≤ K
  cases rs with
  | nil =>
    simp only [List.length_cons, List.length_nil] at h ⊢
    split <;> omega
  | cons q qs =>
    have e : ((r :: q :: qs).getLastD ⟨⟨0, 0, 0⟩, 0, 0⟩) = ((q :: qs).getLastD ⟨⟨0, 0, 0⟩, 0, 0⟩) := rfl
    rw [e] at h
    simp only [List.length_cons, ne_eq, reduceCtorEq, not_false_eq_true, true_and] at h ⊢
    omega

theorem doneLine_ok {K : Nat} {x : PLine} {d : Int} (h : LineOk K x) (hw : x.wait ≠ []) (hd : 1 ≤ d) : LineOk K (doneLine d x) := by
  obtain ⟨l0, l1⟩ := h.left hw
  unfold doneLine
  by_cases hA : 0 < x.left - d
  · rw [if_pos hA]
    exact ⟨h.may, h.n0, h.n1, h.runs, h.wt, fun _ => ⟨by show 1 ≤ x.left - d; omega, by show x.left - d ≤ _; omega⟩⟩
  · rw [if_neg hA]
    obtain ⟨r, rs, hwr⟩ : ∃ r rs, x.wait = r :: rs := List.exists_cons_of_ne_nil hw
    have hr := h.runs r (by rw [hwr]; exact .head _)
    rw [hwr]
    show LineOk K (if r.count - 1 = 0 then _ else _)
    by_cases hB : r.count - 1 = 0
    · rw [if_pos hB]
      refine ⟨h.may, h.n0, h.n1, fun q hq => h.runs q (by rw [hwr]; exact .tail _ hq), weight_tail hwr h.wt _, ?_⟩
      cases rs with
      | nil => intro h; exact absurd rfl h
      | cons q qs =>
        intro _
        have hq := h.runs q (by rw [hwr]; exact .tail _ (.head _))
        have := hq.e2
        exact ⟨hq.l1, by show q.t.lo ≤ _; have := hq.l2; omega⟩
    · rw [if_neg hB]
      refine ⟨h.may, h.n0, h.n1, fun q hq => ?_, weight_cons (r := r) (r' := { r with first := r.first + r.t.ev, count := r.count - 1 }) hwr rfl h.wt _, fun _ => ⟨hr.l1, by show r.t.lo ≤ _; have := hr.l2; have := hr.e2; omega⟩⟩
      rcases List.mem_cons.1 hq with rfl | hq
      · have h1 := hr.e1
        have h2 := hr.c
        have h3 := hr.f
        refine ⟨hr.e1, hr.e2, hr.l1, hr.l2, by show 0 ≤ r.first + r.t.ev; omega, by show 1 ≤ r.count - 1; omega, ?_⟩
        show r.first + r.t.ev + (r.count - 1) * r.t.ev ≤ x.next
        have := hr.n
        rw [Int.sub_mul, Int.one_mul]
        omega
      · exact h.runs q (by rw [hwr]; exact .tail _ hq)

theorem done_ok {K : Nat} {s : PSt} {x : PSlot} {i : Nat} (h : StOk K s) (hs : SlotOk s x i) (ht : x.to ≤ 1152921504606846976) : StOk K (done s x) := by
  have hg : s.l.getD x.task.toNat ⟨⟨0, 0, 0⟩, 0, [], 0⟩ = s.l[i]'hs.hi := by
    rw [hs.task]
    simp [List.getD_eq_getElem?_getD, List.getElem?_eq_getElem hs.hi]
  have hlt := hs.lt
  have hf := hs.f0
  unfold done
  rw [hg]
  refine ⟨by simpa using h.n, fun y hy => ?_, by show 0 ≤ x.to; omega, ht⟩
  rcases List.mem_or_eq_of_mem_set hy with hy | rfl
  · exact h.lines y hy
  · exact doneLine_ok (h.lines _ (List.getElem_mem hs.hi)) hs.wait (by omega)
theorem cut_ok {s : PSt} {x : PSlot} {d : Int} {i : Nat} {t : Int} (hs : SlotOk s x i) (ht : x.frm < t) : SlotOk s (cutAt t (x, d)) i := by
  unfold cutAt
  split
  · exact ⟨hs.hi, hs.task, hs.wait, hs.f0, ht, by have := hs.len; rename_i h; simp only at h ⊢; omega, hs.f1⟩
  · exact hs
theorem cut_to {x : PSlot} {d t : Int} : (cutAt t (x, d)).to ≤ t := by
  unfold cutAt
  split
  · exact Int.le_refl _
  · rename_i h
    simp only at h ⊢
    omega
end Go.Proofs.Ytcffjobefgecdaa
