/- How a plan in memory is turned: stores into a line, into a job that waits; a job appended. -/
import Derived.Test.YtcffjobefgecdaaB
namespace Go.Proofs.Ytcffjobefgecdaa
open Go.RowKit

theorem get_set_ne {cs : Array Value} {i j : Nat} (u : Value) (h : i ≠ j) : (cs.setIfInBounds i u)[j]? = cs[j]? := by
  rw [Array.getElem?_setIfInBounds, if_neg h]
theorem get_set_eq {cs : Array Value} {i : Nat} (u : Value) (h : i < cs.size) : (cs.setIfInBounds i u)[i]? = some u := by
  rw [Array.getElem?_setIfInBounds, if_pos rfl, if_pos h]

theorem LineAt.other {cs : Array Value} {o : Nat} {v : Value} {x : PLine} (h : LineAt cs o v x) {i : Nat} (u : Value) (hi : i < o ∨ o + 5 < i) : LineAt (cs.setIfInBounds i u) o v x := by
  obtain ⟨⟨h0, h1, h2⟩, h3, h4, h5⟩ := h
  refine ⟨⟨?_, ?_, ?_⟩, ?_, ?_, ?_⟩ <;> (rw [get_set_ne _ (by omega)]; assumption)
theorem LineAt.next {cs : Array Value} {o : Nat} {v : Value} {x : PLine} (h : LineAt cs o v x) (y : Int) (hs : o + 6 ≤ cs.size) : LineAt (cs.setIfInBounds (o + 3) (.int .i64 y)) o v { x with next := y } := by
  obtain ⟨⟨h0, h1, h2⟩, h3, h4, h5⟩ := h
  refine ⟨⟨?_, ?_, ?_⟩, get_set_eq _ (by omega), ?_, ?_⟩ <;> (rw [get_set_ne _ (by omega)]; assumption)
theorem LineAt.left {cs : Array Value} {o : Nat} {v : Value} {x : PLine} (h : LineAt cs o v x) (y : Int) (hs : o + 6 ≤ cs.size) : LineAt (cs.setIfInBounds (o + 5) (.int .i64 y)) o v { x with left := y } := by
  obtain ⟨⟨h0, h1, h2⟩, h3, h4, h5⟩ := h
  refine ⟨⟨?_, ?_, ?_⟩, ?_, ?_, get_set_eq _ (by omega)⟩ <;> (rw [get_set_ne _ (by omega)]; assumption)
theorem LineAt.wait {cs : Array Value} {o : Nat} {v : Value} {x : PLine} (h : LineAt cs o v x) (v' : Value) (rs : List PRun) (hs : o + 6 ≤ cs.size) : LineAt (cs.setIfInBounds (o + 4) v') o v' { x with wait := rs } := by
  obtain ⟨⟨h0, h1, h2⟩, h3, h4, h5⟩ := h
  refine ⟨⟨?_, ?_, ?_⟩, ?_, get_set_eq _ (by omega), ?_⟩ <;> (rw [get_set_ne _ (by omega)]; assumption)

theorem getElem_set_self' {l : List PLine} {k : Nat} {x : PLine} (h : k < (l.set k x).length) : (l.set k x)[k] = x := by simp
theorem getElem_set_other {l : List PLine} {k i : Nat} {x : PLine} (h : i < (l.set k x).length) (hne : k ≠ i) : (l.set k x)[i] = l[i]'(by simpa using h) := by
  rw [List.getElem_set_ne hne]

section
variable {w : World} {p bl cap : Nat} {G : Nat → Value} {s : PSt}

/-- One line turned within its block; its wait slice stays. -/
theorem PlanAt.line (h : PlanAt w p bl cap G s) {k : Nat} (hk : k < s.l.length) (f : Nat) (u : Value) (x' : PLine) (hx : x'.wait = s.l[k].wait) (hf : f < 6)
    (hl : ∀ cs, LineAt cs (k * 6) (G k) s.l[k] → k * 6 + 6 ≤ cs.size → LineAt (cs.setIfInBounds (k * 6 + f) u) (k * 6) (G k) x') :
    PlanAt (w.setCell ⟨bl, k * 6 + f, none⟩ u) p bl cap G { s with l := s.l.set k x' } := by
  obtain ⟨cs, hb, hs, hline⟩ := h.hb
  have hpb : p ≠ bl := by
    rintro rfl
    have h1 := h.hp
    unfold Bk at h1 hb
    rw [h1] at hb
    injection hb with hb
    injection hb with _ hb
    cases hb
  refine ⟨by simpa using h.hp.far (p := ⟨bl, k * 6 + f, none⟩) hpb u, ⟨_, hb.put (k * 6 + f) u, by simpa using hs, fun i hi => ?_⟩, fun i hi => ?_, by simpa using h.ha⟩
  · by_cases e : k = i
    · subst e
      rw [getElem_set_self']
      exact hl cs (hline k hk) (by omega)
    · rw [getElem_set_other hi e]
      exact (hline i (by simpa using hi)).other u (by omega)
  · have hi' : i < s.l.length := by simpa using hi
    have hw := h.hw i hi'
    have e : (s.l.set k x')[i].wait = s.l[i].wait := by
      by_cases e : k = i
      · subst e; rw [getElem_set_self']; exact hx
      · rw [getElem_set_other hi e]
    show WaitAt _ (G i) (s.l.set k x')[i].wait
    rw [e]
    refine hw.keep fun g hg => Below.heap_setCell _ _ _ _ ?_
    obtain ⟨_, ds, hd⟩ := hw.lt g hg
    rintro rfl
    unfold Bk at hd hb
    rw [hb] at hd
    injection hd with hd
    injection hd with _ hd
    cases hd

theorem PlanAt.setNext (h : PlanAt w p bl cap G s) {k : Nat} (hk : k < s.l.length) (y : Int) : PlanAt (w.setCell ⟨bl, k * 6 + 3, none⟩ (.int .i64 y)) p bl cap G { s with l := s.l.set k { s.l[k] with next := y } } :=
  h.line hk 3 _ _ rfl (by omega) fun _ hc hs => hc.next y hs
theorem PlanAt.setLeft (h : PlanAt w p bl cap G s) {k : Nat} (hk : k < s.l.length) (y : Int) : PlanAt (w.setCell ⟨bl, k * 6 + 5, none⟩ (.int .i64 y)) p bl cap G { s with l := s.l.set k { s.l[k] with left := y } } :=
  h.line hk 5 _ _ rfl (by omega) fun _ hc hs => hc.left y hs
theorem PlanAt.setNow (h : PlanAt w p bl cap G s) (y : Int) : PlanAt (w.setCell ⟨p, 1, none⟩ (.int .i64 y)) p bl cap G { s with now := y } := by
  obtain ⟨cs, hb, hs, hline⟩ := h.hb
  have hne : ∀ {g : Nat} {t : TypeId} {ds : Array Value}, Bk w g t ds → t ≠ 64 → g ≠ p := by
    rintro g t ds hg ht rfl
    have h1 := h.hp
    unfold Bk at h1 hg
    rw [h1] at hg
    injection hg with hg
    injection hg with _ hg
    exact ht hg.symm
  refine ⟨?_, ⟨cs, hb.far (p := ⟨p, 1, none⟩) (hne hb (by decide)) _, hs, hline⟩, fun i hi => (h.hw i hi).keep fun g hg => ?_, h.ha⟩
  · have := h.hp.put 1 (.int .i64 y)
    simpa using this
  · obtain ⟨_, ds, hd⟩ := (h.hw i hi).lt g hg
    exact Below.heap_setCell _ _ _ _ (hne hd (by decide))

/-- Another wait slice for line k, from a world in which all else of the plan is as it was. -/
theorem PlanAt.setWait (h : PlanAt w p bl cap G s) {k : Nat} (hk : k < s.l.length) {w1 : World} {v' : Value} {rs : List PRun} (hw1 : WaitAt w1 v' rs)
    (hg : ∀ b, own p bl G s.l.length b → blkOf (G k) ≠ some b → w1.heap[b]? = w.heap[b]?)
    (hv : ∀ b, blkOf v' = some b → blkOf (G k) = some b ∨ w.heap.size ≤ b) :
    PlanAt (w1.setCell ⟨bl, k * 6 + 4, none⟩ v') p bl cap (fun i => if i = k then v' else G i) { s with l := s.l.set k { s.l[k] with wait := rs } } := by
  obtain ⟨cs, hb, hs, hline⟩ := h.hb
  have hkb : blkOf (G k) ≠ some bl := fun e => by
    obtain ⟨_, ds, hd⟩ := (h.hw k hk).lt bl e
    unfold Bk at hd hb
    rw [hb] at hd
    injection hd with hd
    injection hd with _ hd
    cases hd
  have hkp : blkOf (G k) ≠ some p := fun e => by
    obtain ⟨_, ds, hd⟩ := (h.hw k hk).lt p e
    have h1 := h.hp
    unfold Bk at hd h1
    rw [h1] at hd
    injection hd with hd
    injection hd with _ hd
    cases hd
  have hp1 : Bk w1 p 64 _ := (hg p (.inl rfl) hkp).trans h.hp
  have hb1 : Bk w1 bl 68 cs := (hg bl (.inr (.inl rfl)) hkb).trans hb
  have hpb : p ≠ bl := by
    rintro rfl
    unfold Bk at hp1 hb1
    rw [hp1] at hb1
    injection hb1 with hb1
    injection hb1 with _ hb1
    cases hb1
  have h102 : ∀ {g : Nat} {ds : Array Value}, Bk w1 g 102 ds → g ≠ bl := by
    rintro g ds hd rfl
    unfold Bk at hd hb1
    rw [hb1] at hd
    injection hd with hd
    injection hd with _ hd
    cases hd
  refine ⟨by simpa using hp1.far (p := ⟨bl, k * 6 + 4, none⟩) hpb v', ⟨_, hb1.put (k * 6 + 4) v', by simpa using hs, fun i hi => ?_⟩, fun i hi => ?_, ?_⟩
  · by_cases e : k = i
    · subst e
      rw [getElem_set_self']
      simp only [if_true]
      exact (hline k hk).wait v' rs (by omega)
    · rw [getElem_set_other hi e]
      simp only [if_neg (Ne.symm e)]
      exact (hline i (by simpa using hi)).other v' (by omega)
  · have hi' : i < s.l.length := by simpa using hi
    by_cases e : k = i
    · subst e
      show WaitAt _ _ (s.l.set k _)[k].wait
      rw [getElem_set_self']
      simp only [if_true]
      refine hw1.keep fun g hg' => Below.heap_setCell _ _ _ _ ?_
      obtain ⟨_, ds, hd⟩ := hw1.lt g hg'
      exact h102 hd
    · show WaitAt _ _ (s.l.set k _)[i].wait
      rw [getElem_set_other hi e]
      simp only [if_neg (Ne.symm e)]
      have hwi := h.hw i hi'
      refine hwi.keep fun g hg' => ?_
      have hki : blkOf (G k) ≠ some g := fun e' => by
        have := h.ha i k hi' hk (Ne.symm e) (by rw [hg']; simp)
        rw [hg', e'] at this
        exact this rfl
      have hst := hg g (.inr (.inr ⟨i, hi', hg'⟩)) hki
      rw [Below.heap_setCell _ _ _ _ ?_, hst]
      obtain ⟨_, ds, hd⟩ := hwi.lt g hg'
      exact h102 (hst.trans hd)
  · intro i j hi hj hij hn
    have hi' : i < s.l.length := by simpa using hi
    have hj' : j < s.l.length := by simpa using hj
    by_cases e1 : i = k
    · subst e1
      rw [if_pos rfl] at hn
      rw [if_pos rfl, if_neg (Ne.symm hij)]
      intro e
      obtain ⟨b, hbv⟩ := Option.ne_none_iff_exists'.1 hn
      rw [hbv] at e
      rcases hv b hbv with h1 | h1
      · exact h.ha i j hi' hj' hij (by rw [h1]; simp) (by rw [h1, ← e])
      · have := ((h.hw j hj').lt b e.symm).1
        omega
    · rw [if_neg e1] at hn ⊢
      by_cases e2 : j = k
      · subst e2
        rw [if_pos rfl]
        intro e
        obtain ⟨b, hbv⟩ := Option.ne_none_iff_exists'.1 hn
        rw [hbv] at e
        rcases hv b e.symm with h1 | h1
        · exact h.ha i j hi' hj' hij hn (by rw [hbv, h1])
        · have := ((h.hw i hi').lt b hbv).1
          omega
      · rw [if_neg e2]
        exact h.ha i j hi' hj' hij hn
end

theorem RunAt.other {cs : Array Value} {o : Nat} {r : PRun} (h : RunAt cs o r) {i : Nat} (u : Value) (hi : i < o ∨ o + 4 < i) : RunAt (cs.setIfInBounds i u) o r := by
  obtain ⟨⟨h0, h1, h2⟩, h3, h4⟩ := h
  refine ⟨⟨?_, ?_, ?_⟩, ?_, ?_⟩ <;> (rw [get_set_ne _ (by omega)]; assumption)
theorem RunAt.first {cs : Array Value} {o : Nat} {r : PRun} (h : RunAt cs o r) (y : Int) (hs : o + 5 ≤ cs.size) : RunAt (cs.setIfInBounds (o + 3) (.int .i64 y)) o { r with first := y } := by
  obtain ⟨⟨h0, h1, h2⟩, h3, h4⟩ := h
  refine ⟨⟨?_, ?_, ?_⟩, get_set_eq _ (by omega), ?_⟩ <;> (rw [get_set_ne _ (by omega)]; assumption)
theorem RunAt.count {cs : Array Value} {o : Nat} {r : PRun} (h : RunAt cs o r) (y : Int) (hs : o + 5 ≤ cs.size) : RunAt (cs.setIfInBounds (o + 4) (.int .i64 y)) o { r with count := y } := by
  obtain ⟨⟨h0, h1, h2⟩, h3, h4⟩ := h
  refine ⟨⟨?_, ?_, ?_⟩, ?_, get_set_eq _ (by omega)⟩ <;> (rw [get_set_ne _ (by omega)]; assumption)

/-- A job that waits, turned in its place. -/
theorem WaitAt.run {w : World} {rs : List PRun} {g off c : Nat} (h : WaitAt w (.slice (some ⟨g, off, none⟩) rs.length c) rs) {j : Nat} (hj : j < rs.length) (f : Nat) (u : Value) (r' : PRun) (hf : f < 5)
    (hr : ∀ cs, RunAt cs (off + j * 5) rs[j] → off + j * 5 + 5 ≤ cs.size → RunAt (cs.setIfInBounds (off + j * 5 + f) u) (off + j * 5) r') :
    WaitAt (w.setCell ⟨g, off + j * 5 + f, none⟩ u) (.slice (some ⟨g, off, none⟩) rs.length c) (rs.set j r') := by
  rcases h with ⟨rfl, _⟩ | ⟨g', off', c', ds, hv, hne, hb, hc, hm, hs, ho, hrun⟩
  · simp at hj
  · injection hv with h1 h2 h3
    injection h1 with h1
    injection h1 with h1 h4
    subst h1 h3 h4
    refine .inr ⟨g, off, c, _, by simp, by simpa using hne, hb.put (off + j * 5 + f) u, by simpa using hc, hm, by simpa using hs, by simpa using ho, fun i hi => ?_⟩
    have hi' : i < rs.length := by simpa using hi
    by_cases e : j = i
    · subst e
      rw [List.getElem_set_self]
      exact hr ds (hrun j hj) (by omega)
    · rw [List.getElem_set_ne e]
      exact (hrun i hi').other u (by omega)

theorem blkOf_len {a : Addr} {n c : Nat} (h : 0 < n) : blkOf (.slice (some a) n c) = some a.block := by
  cases n with
  | zero => omega
  | succ n => rfl

/-- The same within a plan. -/
theorem PlanAt.setRun {w : World} {p bl cap : Nat} {G : Nat → Value} {s : PSt} (h : PlanAt w p bl cap G s) {k : Nat} (hk : k < s.l.length) {g off c : Nat} (hG : G k = .slice (some ⟨g, off, none⟩) s.l[k].wait.length c) {j : Nat} (hj : j < s.l[k].wait.length) (f : Nat) (u : Value) (r' : PRun) (hf : f < 5)
    (hr : ∀ cs, RunAt cs (off + j * 5) s.l[k].wait[j] → off + j * 5 + 5 ≤ cs.size → RunAt (cs.setIfInBounds (off + j * 5 + f) u) (off + j * 5) r') :
    PlanAt (w.setCell ⟨g, off + j * 5 + f, none⟩ u) p bl cap G { s with l := s.l.set k { s.l[k] with wait := s.l[k].wait.set j r' } } := by
  have hwk := h.hw k hk
  have hbk : blkOf (G k) = some g := by rw [hG]; exact blkOf_len (by omega)
  have hd : ∃ ds, Bk w g 102 ds := (hwk.lt g hbk).2
  obtain ⟨ds, hd⟩ := hd
  have hne : ∀ {b : Nat} {t : TypeId} {cs : Array Value}, Bk w b t cs → t ≠ 102 → b ≠ g := by
    rintro b t cs hb ht rfl
    unfold Bk at hb hd
    rw [hd] at hb
    injection hb with hb
    injection hb with _ hb
    exact ht hb.symm
  obtain ⟨cs, hb, hs, hline⟩ := h.hb
  refine ⟨by simpa using h.hp.far (p := ⟨g, off + j * 5 + f, none⟩) (hne h.hp (by decide)) u, ⟨cs, hb.far (p := ⟨g, off + j * 5 + f, none⟩) (hne hb (by decide)) u, by simpa using hs, fun i hi => ?_⟩, fun i hi => ?_, by simpa using h.ha⟩
  · by_cases e : k = i
    · subst e
      rw [getElem_set_self']
      exact hline k hk
    · rw [getElem_set_other hi e]
      exact hline i (by simpa using hi)
  · have hi' : i < s.l.length := by simpa using hi
    by_cases e : k = i
    · subst e
      show WaitAt _ _ (s.l.set k _)[k].wait
      rw [getElem_set_self']
      rw [hG] at hwk ⊢
      exact hwk.run hj f u r' hf hr
    · show WaitAt _ _ (s.l.set k _)[i].wait
      rw [getElem_set_other hi e]
      refine (h.hw i hi').keep fun b hb' => Below.heap_setCell _ _ _ _ ?_
      rintro rfl
      exact h.ha i k hi' hk (Ne.symm e) (by rw [hb']; simp) (by rw [hb', hbk])
theorem PlanAt.setFirst {w : World} {p bl cap : Nat} {G : Nat → Value} {s : PSt} (h : PlanAt w p bl cap G s) {k : Nat} (hk : k < s.l.length) {g off c : Nat} (hG : G k = .slice (some ⟨g, off, none⟩) s.l[k].wait.length c) {j : Nat} (hj : j < s.l[k].wait.length) (y : Int) :
    PlanAt (w.setCell ⟨g, off + j * 5 + 3, none⟩ (.int .i64 y)) p bl cap G { s with l := s.l.set k { s.l[k] with wait := s.l[k].wait.set j { s.l[k].wait[j] with first := y } } } :=
  h.setRun hk hG hj 3 _ _ (by omega) fun _ hr hs => hr.first y hs
theorem PlanAt.setCount {w : World} {p bl cap : Nat} {G : Nat → Value} {s : PSt} (h : PlanAt w p bl cap G s) {k : Nat} (hk : k < s.l.length) {g off c : Nat} (hG : G k = .slice (some ⟨g, off, none⟩) s.l[k].wait.length c) {j : Nat} (hj : j < s.l[k].wait.length) (y : Int) :
    PlanAt (w.setCell ⟨g, off + j * 5 + 4, none⟩ (.int .i64 y)) p bl cap G { s with l := s.l.set k { s.l[k] with wait := s.l[k].wait.set j { s.l[k].wait[j] with count := y } } } :=
  h.setRun hk hG hj 4 _ _ (by omega) fun _ hr hs => hr.count y hs
end Go.Proofs.Ytcffjobefgecdaa
