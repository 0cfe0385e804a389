/- How the document's own plan lies in memory, and how stores and appends turn it. (Printed by wip/tools/refmem.py out of this claim's texts on the program's plan.) -/
import Derived.Test.YtcffjobefgecdaaX
namespace Go.Proofs.Ytcffjobefgecdaa.Ref
open Go.RowKit

/-- A row of like jobs: first, how many, the task. -/
def RunAt (cs : Array Value) (o : Nat) (r : PRun) : Prop := cs[o]? = some (.int .i64 r.first) ∧ cs[o + 1]? = some (.int .i64 r.count) ∧ cs[o + 2]? = some (.int .i64 r.t.ev) ∧ cs[o + 3]? = some (.int .i64 r.t.lo) ∧ cs[o + 4]? = some (.int .i64 r.t.rk)

/-- The jobs that wait, as a slice value. -/
def WaitAt (w : World) (v : Value) (rs : List PRun) : Prop :=
  (rs = [] ∧ ∃ A, v = .slice A 0 0) ∨
  ∃ g off c ds, v = .slice (some ⟨g, off, none⟩) rs.length c ∧ rs ≠ [] ∧ Bk w g 108 ds ∧ rs.length ≤ c ∧ c ≤ maxLen ∧ off + c * 5 ≤ ds.size ∧ (off = 0 ∧ ds.size = c * 5 ∨ c = rs.length) ∧ ∀ j (hj : j < rs.length), RunAt ds (off + j * 5) rs[j]


structure PlanAt (w : World) (p bl cap : Nat) (G : Nat → Value) (s : PSt) : Prop where
  hp : Bk w p 71 #[.slice (some ⟨bl, 0, none⟩) s.l.length cap, .int .i64 s.now]
  hb : ∃ cs, Bk w bl 74 cs ∧ s.l.length * 6 ≤ cs.size ∧ ∀ i (hi : i < s.l.length), LineAt cs (i * 6) (G i) s.l[i]
  hw : ∀ i (hi : i < s.l.length), WaitAt w (G i) s.l[i].wait
  ha : ∀ i j, i < s.l.length → j < s.l.length → i ≠ j → blkOf (G i) ≠ none → blkOf (G i) ≠ blkOf (G j)


/-- Two worlds that hold the same in a plan's blocks. -/
theorem WaitAt.keep {w w' : World} {v : Value} {rs : List PRun} (h : WaitAt w v rs) (hk : ∀ g, blkOf v = some g → w'.heap[g]? = w.heap[g]?) : WaitAt w' v rs := by
  rcases h with h | ⟨g, off, c, ds, rfl, hne, hb, r⟩
  · exact .inl h
  · refine .inr ⟨g, off, c, ds, rfl, hne, (hk g ?_).trans hb, r⟩
    cases rs with
    | nil => exact absurd rfl hne
    | cons a t => rfl
theorem WaitAt.lt {w : World} {v : Value} {rs : List PRun} (h : WaitAt w v rs) : ∀ g, blkOf v = some g → g < w.heap.size ∧ ∃ ds, Bk w g 108 ds := by
  intro g hg
  rcases h with ⟨rfl, A, rfl⟩ | ⟨g', off, c, ds, rfl, hne, hb, r⟩
  · simp [blkOf] at hg
  · cases rs with
    | nil => exact absurd rfl hne
    | cons a t =>
      simp [blkOf] at hg
      subst hg
      exact ⟨hb.lt, ds, hb⟩
theorem PlanAt.keep {w w' : World} {p bl cap : Nat} {G : Nat → Value} {s : PSt} (h : PlanAt w p bl cap G s) (hk : ∀ g, own p bl G s.l.length g → w'.heap[g]? = w.heap[g]?) : PlanAt w' p bl cap G s := by
  obtain ⟨cs, hb, hs, hl⟩ := h.hb
  exact ⟨(hk p (.inl rfl)).trans h.hp, ⟨cs, (hk bl (.inr (.inl rfl))).trans hb, hs, hl⟩, fun i hi => (h.hw i hi).keep fun g hg => hk g (.inr (.inr ⟨i, hi, hg⟩)), h.ha⟩
theorem PlanAt.lt {w : World} {p bl cap : Nat} {G : Nat → Value} {s : PSt} (h : PlanAt w p bl cap G s) : ∀ g, own p bl G s.l.length g → g < w.heap.size := by
  rintro g (rfl | rfl | ⟨i, hi, hg⟩)
  · exact h.hp.lt
  · obtain ⟨cs, hb, _⟩ := h.hb; exact hb.lt
  · exact ((h.hw i hi).lt g hg).1
theorem PlanAt.fr {S : Nat → Prop} {w w' : World} {p bl cap : Nat} {G : Nat → Value} {s : PSt} (h : PlanAt w p bl cap G s) (hf : Fr S w w') (hd : ∀ g, own p bl G s.l.length g → ¬ S g) : PlanAt w' p bl cap G s :=
  h.keep fun g hg => hf.block g (h.lt g hg) (hd g hg)
theorem PlanAt.alloc {w : World} {p bl cap : Nat} {G : Nat → Value} {s : PSt} (h : PlanAt w p bl cap G s) (o : Obj) : PlanAt (w.alloc o) p bl cap G s :=
  h.keep fun g hg => Below.heap_alloc w o g (h.lt g hg)
theorem PlanAt.drewN {w : World} {p bl cap : Nat} {G : Nat → Value} {s : PSt} (h : PlanAt w p bl cap G s) (n : Nat) : PlanAt (w.drewN n) p bl cap G s := h.keep fun _ _ => rfl
theorem PlanAt.below {w w' : World} {p bl cap : Nat} {G : Nat → Value} {s : PSt} (h : PlanAt w p bl cap G s) (hb : Below w.heap.size w w') : PlanAt w' p bl cap G s :=
  h.keep fun g hg => hb.block g (h.lt g hg)
/-- A store elsewhere. -/
theorem PlanAt.far {w : World} {p bl cap : Nat} {G : Nat → Value} {s : PSt} (h : PlanAt w p bl cap G s) {a : Addr} (ha : ¬ own p bl G s.l.length a.block) (u : Value) : PlanAt (w.setCell a u) p bl cap G s :=
  h.keep fun g hg => Below.heap_setCell w a u g (by rintro rfl; exact ha hg)

/-- The cells of a line, as the walk asks for them. -/
theorem PlanAt.cells {w : World} {p bl cap : Nat} {G : Nat → Value} {s : PSt} (h : PlanAt w p bl cap G s) {i : Nat} (hi : i < s.l.length) :
    w.cell? ⟨bl, i * 6, none⟩ = some (.int .i64 s.l[i].t.ev) ∧ w.cell? ⟨bl, i * 6 + 1, none⟩ = some (.int .i64 s.l[i].t.lo) ∧ w.cell? ⟨bl, i * 6 + 2, none⟩ = some (.int .i64 s.l[i].t.rk) ∧
    w.cell? ⟨bl, i * 6 + 3, none⟩ = some (.int .i64 s.l[i].next) ∧ w.cell? ⟨bl, i * 6 + 4, none⟩ = some (G i) ∧ w.cell? ⟨bl, i * 6 + 5, none⟩ = some (.int .i64 s.l[i].left) := by
  obtain ⟨cs, hb, hs, hl⟩ := h.hb
  obtain ⟨⟨h0, h1, h2⟩, h3, h4, h5⟩ := hl i hi
  exact ⟨(hb.cell _).trans h0, (hb.cell _).trans h1, (hb.cell _).trans h2, (hb.cell _).trans h3, (hb.cell _).trans h4, (hb.cell _).trans h5⟩
theorem PlanAt.frozen {w : World} {p bl cap : Nat} {G : Nat → Value} {s : PSt} (h : PlanAt w p bl cap G s) (o : Nat) : w.frozen? ⟨bl, o, none⟩ = false := by
  obtain ⟨cs, hb, _⟩ := h.hb
  exact hb.frozen o
theorem PlanAt.head {w : World} {p bl cap : Nat} {G : Nat → Value} {s : PSt} (h : PlanAt w p bl cap G s) : w.cell? ⟨p, 0, none⟩ = some (.slice (some ⟨bl, 0, none⟩) s.l.length cap) ∧ w.cell? ⟨p, 1, none⟩ = some (.int .i64 s.now) :=
  ⟨h.hp.cell 0, h.hp.cell 1⟩
/-- The cells of a job that waits. -/
theorem WaitAt.cells {w : World} {v : Value} {rs : List PRun} (h : WaitAt w v rs) (hne : rs ≠ []) : ∃ g off c, v = .slice (some ⟨g, off, none⟩) rs.length c ∧ rs.length ≤ c ∧ blkOf v = some g ∧ (∀ o, w.frozen? ⟨g, o, none⟩ = false) ∧ ∀ j (hj : j < rs.length),
    w.cell? ⟨g, off + j * 5, none⟩ = some (.int .i64 rs[j].first) ∧ w.cell? ⟨g, off + j * 5 + 1, none⟩ = some (.int .i64 rs[j].count) ∧ w.cell? ⟨g, off + j * 5 + 2, none⟩ = some (.int .i64 rs[j].t.ev) ∧
    w.cell? ⟨g, off + j * 5 + 3, none⟩ = some (.int .i64 rs[j].t.lo) ∧ w.cell? ⟨g, off + j * 5 + 4, none⟩ = some (.int .i64 rs[j].t.rk) := by
  rcases h with ⟨rfl, _⟩ | ⟨g, off, c, ds, rfl, _, hb, hc, _, hs, ho, hr⟩
  · exact absurd rfl hne
  · refine ⟨g, off, c, rfl, hc, ?_, fun o => hb.frozen o, fun j hj => ?_⟩
    · cases rs with
      | nil => exact absurd rfl hne
      | cons a t => rfl
    · obtain ⟨h0, h1, h2, h3, h4⟩ := hr j hj
      exact ⟨(hb.cell _).trans h0, (hb.cell _).trans h1, (hb.cell _).trans h2, (hb.cell _).trans h3, (hb.cell _).trans h4⟩
theorem WaitAt.len {w : World} {v : Value} {rs : List PRun} (h : WaitAt w v rs) : ∃ A c, v = .slice A rs.length c := by
  rcases h with ⟨rfl, A, rfl⟩ | ⟨g, off, c, ds, rfl, _⟩
  · exact ⟨A, 0, rfl⟩
  · exact ⟨_, _, rfl⟩

/-- A block of another element type is none of a plan's. -/
theorem PlanAt.not_own {w : World} {p bl cap : Nat} {G : Nat → Value} {s : PSt} (h : PlanAt w p bl cap G s) {k : Nat} {t : TypeId} {cs : Array Value} (hk : Bk w k t cs) (h1 : t ≠ 71) (h2 : t ≠ 74) (h3 : t ≠ 108) : ¬ own p bl G s.l.length k := by
  have ne : ∀ {g : Nat} {t' : TypeId} {cs' : Array Value}, Bk w g t' cs' → t ≠ t' → k ≠ g := by
    intro g t' cs' hg htt e
    subst e
    unfold Bk at hk hg
    rw [hk] at hg
    injection hg with hg
    injection hg with _ e2
    exact htt e2
  rintro (rfl | rfl | ⟨i, hi, hg⟩)
  · exact ne h.hp h1 rfl
  · obtain ⟨cs', hb, _⟩ := h.hb
    exact ne hb h2 rfl
  · obtain ⟨_, ds, hd⟩ := (h.hw i hi).lt k hg
    exact ne hd h3 rfl

theorem PlanAt.not_bl {w : World} {p bl cap : Nat} {G : Nat → Value} {s : PSt} (h : PlanAt w p bl cap G s) {t : TypeId} {cs : Array Value} (hk : Bk w bl t cs) (h2 : t ≠ 74) : False := by
  obtain ⟨cs', hb, _⟩ := h.hb
  unfold Bk at hk hb
  rw [hb] at hk
  injection hk with hk
  injection hk with _ e2
  exact h2 e2.symm

section
variable {w : World} {p bl cap : Nat} {G : Nat → Value} {s : PSt}

/-- One line turned within its block; its wait slice stays. -/
theorem PlanAt.line (h : PlanAt w p bl cap G s) {k : Nat} (hk : k < s.l.length) (f : Nat) (u : Value) (x' : PLine) (hx : x'.wait = s.l[k].wait) (hf : f < 6)
    (hl : ∀ cs, LineAt cs (k * 6) (G k) s.l[k] → k * 6 + 6 ≤ cs.size → LineAt (cs.setIfInBounds (k * 6 + f) u) (k * 6) (G k) x') :
    PlanAt (w.setCell ⟨bl, k * 6 + f, none⟩ u) p bl cap G { s with l := s.l.set k x' } := by
  obtain ⟨cs, hb, hs, hline⟩ := h.hb
  have hpb : p ≠ bl := by
    rintro rfl
    have h1 := h.hp
    unfold Bk at h1 hb
    rw [h1] at hb
    injection hb with hb
    injection hb with _ hb
    cases hb
  refine ⟨by simpa using h.hp.far (p := ⟨bl, k * 6 + f, none⟩) hpb u, ⟨_, hb.put (k * 6 + f) u, by simpa using hs, fun i hi => ?_⟩, fun i hi => ?_, by simpa using h.ha⟩
  · by_cases e : k = i
    · subst e
      rw [getElem_set_self']
      exact hl cs (hline k hk) (by omega)
    · rw [getElem_set_other hi e]
      exact (hline i (by simpa using hi)).other u (by omega)
  · have hi' : i < s.l.length := by simpa using hi
    have hw := h.hw i hi'
    have e : (s.l.set k x')[i].wait = s.l[i].wait := by
      by_cases e : k = i
      · subst e; rw [getElem_set_self']; exact hx
      · rw [getElem_set_other hi e]
    show WaitAt _ (G i) (s.l.set k x')[i].wait
    rw [e]
    refine hw.keep fun g hg => Below.heap_setCell _ _ _ _ ?_
    obtain ⟨_, ds, hd⟩ := hw.lt g hg
    rintro rfl
    unfold Bk at hd hb
    rw [hb] at hd
    injection hd with hd
    injection hd with _ hd
    cases hd

theorem PlanAt.setNext (h : PlanAt w p bl cap G s) {k : Nat} (hk : k < s.l.length) (y : Int) : PlanAt (w.setCell ⟨bl, k * 6 + 3, none⟩ (.int .i64 y)) p bl cap G { s with l := s.l.set k { s.l[k] with next := y } } :=
  h.line hk 3 _ _ rfl (by omega) fun _ hc hs => hc.next y hs
theorem PlanAt.setLeft (h : PlanAt w p bl cap G s) {k : Nat} (hk : k < s.l.length) (y : Int) : PlanAt (w.setCell ⟨bl, k * 6 + 5, none⟩ (.int .i64 y)) p bl cap G { s with l := s.l.set k { s.l[k] with left := y } } :=
  h.line hk 5 _ _ rfl (by omega) fun _ hc hs => hc.left y hs
theorem PlanAt.setNow (h : PlanAt w p bl cap G s) (y : Int) : PlanAt (w.setCell ⟨p, 1, none⟩ (.int .i64 y)) p bl cap G { s with now := y } := by
  obtain ⟨cs, hb, hs, hline⟩ := h.hb
  have hne : ∀ {g : Nat} {t : TypeId} {ds : Array Value}, Bk w g t ds → t ≠ 71 → g ≠ p := by
    rintro g t ds hg ht rfl
    have h1 := h.hp
    unfold Bk at h1 hg
    rw [h1] at hg
    injection hg with hg
    injection hg with _ hg
    exact ht hg.symm
  refine ⟨?_, ⟨cs, hb.far (p := ⟨p, 1, none⟩) (hne hb (by decide)) _, hs, hline⟩, fun i hi => (h.hw i hi).keep fun g hg => ?_, h.ha⟩
  · have := h.hp.put 1 (.int .i64 y)
    simpa using this
  · obtain ⟨_, ds, hd⟩ := (h.hw i hi).lt g hg
    exact Below.heap_setCell _ _ _ _ (hne hd (by decide))

/-- Another wait slice for line k, from a world in which all else of the plan is as it was. -/
theorem PlanAt.setWait (h : PlanAt w p bl cap G s) {k : Nat} (hk : k < s.l.length) {w1 : World} {v' : Value} {rs : List PRun} (hw1 : WaitAt w1 v' rs)
    (hg : ∀ b, own p bl G s.l.length b → blkOf (G k) ≠ some b → w1.heap[b]? = w.heap[b]?)
    (hv : ∀ b, blkOf v' = some b → blkOf (G k) = some b ∨ w.heap.size ≤ b) :
    PlanAt (w1.setCell ⟨bl, k * 6 + 4, none⟩ v') p bl cap (fun i => if i = k then v' else G i) { s with l := s.l.set k { s.l[k] with wait := rs } } := by
  obtain ⟨cs, hb, hs, hline⟩ := h.hb
  have hkb : blkOf (G k) ≠ some bl := fun e => by
    obtain ⟨_, ds, hd⟩ := (h.hw k hk).lt bl e
    unfold Bk at hd hb
    rw [hb] at hd
    injection hd with hd
    injection hd with _ hd
    cases hd
  have hkp : blkOf (G k) ≠ some p := fun e => by
    obtain ⟨_, ds, hd⟩ := (h.hw k hk).lt p e
    have h1 := h.hp
    unfold Bk at hd h1
    rw [h1] at hd
    injection hd with hd
    injection hd with _ hd
    cases hd
  have hp1 : Bk w1 p 71 _ := (hg p (.inl rfl) hkp).trans h.hp
  have hb1 : Bk w1 bl 74 cs := (hg bl (.inr (.inl rfl)) hkb).trans hb
  have hpb : p ≠ bl := by
    rintro rfl
    unfold Bk at hp1 hb1
    rw [hp1] at hb1
    injection hb1 with hb1
    injection hb1 with _ hb1
    cases hb1
  have h102 : ∀ {g : Nat} {ds : Array Value}, Bk w1 g 108 ds → g ≠ bl := by
    rintro g ds hd rfl
    unfold Bk at hd hb1
    rw [hb1] at hd
    injection hd with hd
    injection hd with _ hd
    cases hd
  refine ⟨by simpa using hp1.far (p := ⟨bl, k * 6 + 4, none⟩) hpb v', ⟨_, hb1.put (k * 6 + 4) v', by simpa using hs, fun i hi => ?_⟩, fun i hi => ?_, ?_⟩
  · by_cases e : k = i
    · subst e
      rw [getElem_set_self']
      simp only [if_true]
      exact (hline k hk).wait v' rs (by omega)
    · rw [getElem_set_other hi e]
      simp only [if_neg (Ne.symm e)]
      exact (hline i (by simpa using hi)).other v' (by omega)
  · have hi' : i < s.l.length := by simpa using hi
    by_cases e : k = i
    · subst e
      show WaitAt _ _ (s.l.set k _)[k].wait
      rw [getElem_set_self']
      simp only [if_true]
      refine hw1.keep fun g hg' => Below.heap_setCell _ _ _ _ ?_
      obtain ⟨_, ds, hd⟩ := hw1.lt g hg'
      exact h102 hd
    · show WaitAt _ _ (s.l.set k _)[i].wait
      rw [getElem_set_other hi e]
      simp only [if_neg (Ne.symm e)]
      have hwi := h.hw i hi'
      refine hwi.keep fun g hg' => ?_
      have hki : blkOf (G k) ≠ some g := fun e' => by
        have := h.ha i k hi' hk (Ne.symm e) (by rw [hg']; simp)
        rw [hg', e'] at this
        exact this rfl
      have hst := hg g (.inr (.inr ⟨i, hi', hg'⟩)) hki
      rw [Below.heap_setCell _ _ _ _ ?_, hst]
      obtain ⟨_, ds, hd⟩ := hwi.lt g hg'
      exact h102 (hst.trans hd)
  · intro i j hi hj hij hn
    have hi' : i < s.l.length := by simpa using hi
    have hj' : j < s.l.length := by simpa using hj
    by_cases e1 : i = k
    · subst e1
      rw [if_pos rfl] at hn
      rw [if_pos rfl, if_neg (Ne.symm hij)]
      intro e
      obtain ⟨b, hbv⟩ := Option.ne_none_iff_exists'.1 hn
      rw [hbv] at e
      rcases hv b hbv with h1 | h1
      · exact h.ha i j hi' hj' hij (by rw [h1]; simp) (by rw [h1, ← e])
      · have := ((h.hw j hj').lt b e.symm).1
        omega
    · rw [if_neg e1] at hn ⊢
      by_cases e2 : j = k
      · subst e2
        rw [if_pos rfl]
        intro e
        obtain ⟨b, hbv⟩ := Option.ne_none_iff_exists'.1 hn
        rw [hbv] at e
        rcases hv b e.symm with h1 | h1
        · exact h.ha i j hi' hj' hij hn (by rw [hbv, h1])
        · have := ((h.hw i hi').lt b hbv).1
          omega
      · rw [if_neg e2]
        exact h.ha i j hi' hj' hij hn
end

theorem RunAt.other {cs : Array Value} {o : Nat} {r : PRun} (h : RunAt cs o r) {i : Nat} (u : Value) (hi : i < o ∨ o + 4 < i) : RunAt (cs.setIfInBounds i u) o r := by
  obtain ⟨h0, h1, h2, h3, h4⟩ := h
  refine ⟨?_, ?_, ?_, ?_, ?_⟩ <;> (rw [get_set_ne _ (by omega)]; assumption)
theorem RunAt.first {cs : Array Value} {o : Nat} {r : PRun} (h : RunAt cs o r) (y : Int) (hs : o + 5 ≤ cs.size) : RunAt (cs.setIfInBounds (o + 0) (.int .i64 y)) o { r with first := y } := by
  obtain ⟨h0, h1, h2, h3, h4⟩ := h
  refine ⟨get_set_eq _ (by omega), ?_, ?_, ?_, ?_⟩ <;> (rw [get_set_ne _ (by omega)]; assumption)
theorem RunAt.count {cs : Array Value} {o : Nat} {r : PRun} (h : RunAt cs o r) (y : Int) (hs : o + 5 ≤ cs.size) : RunAt (cs.setIfInBounds (o + 1) (.int .i64 y)) o { r with count := y } := by
  obtain ⟨h0, h1, h2, h3, h4⟩ := h
  refine ⟨?_, get_set_eq _ (by omega), ?_, ?_, ?_⟩ <;> (rw [get_set_ne _ (by omega)]; assumption)

/-- A job that waits, turned in its place. -/
theorem WaitAt.run {w : World} {rs : List PRun} {g off c : Nat} (h : WaitAt w (.slice (some ⟨g, off, none⟩) rs.length c) rs) {j : Nat} (hj : j < rs.length) (f : Nat) (u : Value) (r' : PRun) (hf : f < 5)
    (hr : ∀ cs, RunAt cs (off + j * 5) rs[j] → off + j * 5 + 5 ≤ cs.size → RunAt (cs.setIfInBounds (off + j * 5 + f) u) (off + j * 5) r') :
    WaitAt (w.setCell ⟨g, off + j * 5 + f, none⟩ u) (.slice (some ⟨g, off, none⟩) rs.length c) (rs.set j r') := by
  rcases h with ⟨rfl, _⟩ | ⟨g', off', c', ds, hv, hne, hb, hc, hm, hs, ho, hrun⟩
  · simp at hj
  · injection hv with h1 h2 h3
    injection h1 with h1
    injection h1 with h1 h4
    subst h1 h3 h4
    refine .inr ⟨g, off, c, _, by simp, by simpa using hne, hb.put (off + j * 5 + f) u, by simpa using hc, hm, by simpa using hs, by simpa using ho, fun i hi => ?_⟩
    have hi' : i < rs.length := by simpa using hi
    by_cases e : j = i
    · subst e
      rw [List.getElem_set_self]
      exact hr ds (hrun j hj) (by omega)
    · rw [List.getElem_set_ne e]
      exact (hrun i hi').other u (by omega)

/-- The same within a plan. -/
theorem PlanAt.setRun {w : World} {p bl cap : Nat} {G : Nat → Value} {s : PSt} (h : PlanAt w p bl cap G s) {k : Nat} (hk : k < s.l.length) {g off c : Nat} (hG : G k = .slice (some ⟨g, off, none⟩) s.l[k].wait.length c) {j : Nat} (hj : j < s.l[k].wait.length) (f : Nat) (u : Value) (r' : PRun) (hf : f < 5)
    (hr : ∀ cs, RunAt cs (off + j * 5) s.l[k].wait[j] → off + j * 5 + 5 ≤ cs.size → RunAt (cs.setIfInBounds (off + j * 5 + f) u) (off + j * 5) r') :
    PlanAt (w.setCell ⟨g, off + j * 5 + f, none⟩ u) p bl cap G { s with l := s.l.set k { s.l[k] with wait := s.l[k].wait.set j r' } } := by
  have hwk := h.hw k hk
  have hbk : blkOf (G k) = some g := by rw [hG]; exact blkOf_len (by omega)
  have hd : ∃ ds, Bk w g 108 ds := (hwk.lt g hbk).2
  obtain ⟨ds, hd⟩ := hd
  have hne : ∀ {b : Nat} {t : TypeId} {cs : Array Value}, Bk w b t cs → t ≠ 108 → b ≠ g := by
    rintro b t cs hb ht rfl
    unfold Bk at hb hd
    rw [hd] at hb
    injection hb with hb
    injection hb with _ hb
    exact ht hb.symm
  obtain ⟨cs, hb, hs, hline⟩ := h.hb
  refine ⟨by simpa using h.hp.far (p := ⟨g, off + j * 5 + f, none⟩) (hne h.hp (by decide)) u, ⟨cs, hb.far (p := ⟨g, off + j * 5 + f, none⟩) (hne hb (by decide)) u, by simpa using hs, fun i hi => ?_⟩, fun i hi => ?_, by simpa using h.ha⟩
  · by_cases e : k = i
    · subst e
      rw [getElem_set_self']
      exact hline k hk
    · rw [getElem_set_other hi e]
      exact hline i (by simpa using hi)
  · have hi' : i < s.l.length := by simpa using hi
    by_cases e : k = i
    · subst e
      show WaitAt _ _ (s.l.set k _)[k].wait
      rw [getElem_set_self']
      rw [hG] at hwk ⊢
      exact hwk.run hj f u r' hf hr
    · show WaitAt _ _ (s.l.set k _)[i].wait
      rw [getElem_set_other hi e]
      refine (h.hw i hi').keep fun b hb' => Below.heap_setCell _ _ _ _ ?_
      rintro rfl
      exact h.ha i k hi' hk (Ne.symm e) (by rw [hb']; simp) (by rw [hb', hbk])
theorem PlanAt.setFirst {w : World} {p bl cap : Nat} {G : Nat → Value} {s : PSt} (h : PlanAt w p bl cap G s) {k : Nat} (hk : k < s.l.length) {g off c : Nat} (hG : G k = .slice (some ⟨g, off, none⟩) s.l[k].wait.length c) {j : Nat} (hj : j < s.l[k].wait.length) (y : Int) :
    PlanAt (w.setCell ⟨g, off + j * 5, none⟩ (.int .i64 y)) p bl cap G { s with l := s.l.set k { s.l[k] with wait := s.l[k].wait.set j { s.l[k].wait[j] with first := y } } } :=
  h.setRun hk hG hj 0 _ _ (by omega) fun _ hr hs => hr.first y hs
theorem PlanAt.setCount {w : World} {p bl cap : Nat} {G : Nat → Value} {s : PSt} (h : PlanAt w p bl cap G s) {k : Nat} (hk : k < s.l.length) {g off c : Nat} (hG : G k = .slice (some ⟨g, off, none⟩) s.l[k].wait.length c) {j : Nat} (hj : j < s.l[k].wait.length) (y : Int) :
    PlanAt (w.setCell ⟨g, off + j * 5 + 1, none⟩ (.int .i64 y)) p bl cap G { s with l := s.l.set k { s.l[k] with wait := s.l[k].wait.set j { s.l[k].wait[j] with count := y } } } :=
  h.setRun hk hG hj 1 _ _ (by omega) fun _ hr hs => hr.count y hs

theorem info108 : (Try.prog.info? 108).map (fun i => (i.zero, i.size, i.bytes)) = some (some (.agg #[.int .i64 0, .int .i64 0, .int .i64 0, .int .i64 0, .int .i64 0]), 5, 40) := by kernel_rfl

abbrev runL (r : PRun) : List Value := [.int .i64 r.first, .int .i64 r.count, .int .i64 r.t.ev, .int .i64 r.t.lo, .int .i64 r.t.rk]
def runsL (rs : List PRun) : List Value := rs.flatMap runL
theorem runsL_len (rs : List PRun) : (runsL rs).length = rs.length * 5 := by
  induction rs with
  | nil => rfl
  | cons r rs ih => simp [runsL] at *; omega
theorem runAt_of {cs : Array Value} {o : Nat} {r : PRun} (h : ∀ k u, (runL r)[k]? = some u → cs[o + k]? = some u) : RunAt cs o r :=
  ⟨h 0 _ rfl, h 1 _ rfl, h 2 _ rfl, h 3 _ rfl, h 4 _ rfl⟩
theorem runAt_to {cs : Array Value} {o : Nat} {r : PRun} (h : RunAt cs o r) : ∀ k u, (runL r)[k]? = some u → cs[o + k]? = some u := by
  obtain ⟨h0, h1, h2, h3, h4⟩ := h
  intro k u hk
  match k, hk with
  | 0, hk => simp at hk; subst hk; exact h0
  | 1, hk => simp at hk; subst hk; exact h1
  | 2, hk => simp at hk; subst hk; exact h2
  | 3, hk => simp at hk; subst hk; exact h3
  | 4, hk => simp at hk; subst hk; exact h4
theorem runsL_at (rs : List PRun) (j : Nat) (hj : j < rs.length) (k : Nat) (hk : k < 5) : (runsL rs)[j * 5 + k]? = (runL rs[j])[k]? := by
  induction rs generalizing j with
  | nil => simp at hj
  | cons r rs ih =>
    have hl : (runL r).length = 5 := rfl
    cases j with
    | zero =>
      simp only [runsL, List.flatMap_cons, List.getElem_cons_zero, Nat.zero_mul, Nat.zero_add]
      rw [List.getElem?_append_left (by omega)]
    | succ j =>
      have := ih j (by simpa using hj)
      simp only [runsL, List.flatMap_cons, List.getElem_cons_succ] at this ⊢
      rw [List.getElem?_append_right (by omega), hl, show (j + 1) * 5 + k - 5 = j * 5 + k by omega]
      exact this
theorem runs_cells {cs : Array Value} {off : Nat} {rs : List PRun} (h : ∀ j (hj : j < rs.length), RunAt cs (off + j * 5) rs[j]) : ∀ i u, (runsL rs)[i]? = some u → cs[off + i]? = some u := by
  intro i u hu
  have hi : i < rs.length * 5 := by have := (List.getElem?_eq_some_iff.1 hu).1; rwa [runsL_len] at this
  have hj : i / 5 < rs.length := by omega
  have e : i = i / 5 * 5 + i % 5 := by omega
  rw [e, runsL_at rs (i / 5) hj (i % 5) (by omega)] at hu
  have := runAt_to (h (i / 5) hj) (i % 5) u hu
  rw [show off + i = off + i / 5 * 5 + i % 5 by omega]
  exact this
theorem runs_of_cells {cs : Array Value} {rs : List PRun} (h : ∀ (i : Nat) (u : Value), (runsL rs)[i]? = some u → cs[i]? = some u) : ∀ j (hj : j < rs.length), RunAt cs (0 + j * 5) rs[j] := by
  intro j hj
  refine runAt_of fun k u hk => ?_
  have hk5 : k < 5 := (List.getElem?_eq_some_iff.1 hk).1
  rw [Nat.zero_add]
  exact h _ u ((runsL_at rs j hj k hk5).trans hk)
theorem runsL_snoc (rs : List PRun) (r : PRun) : runsL (rs ++ [r]) = runsL rs ++ runL r := by simp [runsL]

theorem waitAt_new {w : World} {g c : Nat} {ds : Array Value} {rs : List PRun} (hne : rs ≠ []) (hb : Bk w g 108 ds) (hc : rs.length ≤ c) (hm : c ≤ maxLen) (hs : ds.size = c * 5) (h : ∀ (i : Nat) (u : Value), (runsL rs)[i]? = some u → ds[i]? = some u) :
    WaitAt w (.slice (some ⟨g, 0, none⟩) rs.length c) rs :=
  .inr ⟨g, 0, c, ds, rfl, hne, hb, hc, hm, by omega, .inl ⟨rfl, hs⟩, runs_of_cells h⟩

theorem grow_wait (w : World) (rs : List PRun) (r : PRun) (c : Nat) (hc : rs.length + 1 ≤ c) (hm : c ≤ maxLen) (z : Value) (hz : z.cells.size = 5) (row : Option Nat) :
    WaitAt (w.drew.alloc (.cells ((runsL rs).toArray ++ (runL r).toArray ++ Builtin.zeroCells z.cells (c - (rs.length + 1))) 108)) (.slice (some ⟨w.heap.size, 0, none⟩) (rs.length + 1) c) (rs ++ [r]) ∧
    w.grownBy (w.drew.alloc (.cells ((runsL rs).toArray ++ (runL r).toArray ++ Builtin.zeroCells z.cells (c - (rs.length + 1))) 108)) row := by
  have hl : (rs ++ [r]).length = rs.length + 1 := by simp
  refine ⟨?_, ⟨rfl, rfl, rfl, by simp, fun k hk _ => Below.heap_alloc w.drew _ k hk⟩⟩
  have := waitAt_new (rs := rs ++ [r]) (g := w.heap.size) (c := c) (by simp) (heap_alloc_new w.drew (.cells ((runsL rs).toArray ++ (runL r).toArray ++ Builtin.zeroCells z.cells (c - (rs.length + 1))) 108)) (by omega) hm ?_ ?_
  · rwa [hl] at this
  · simp only [Array.size_append, List.size_toArray, size_zeroCells, hz, runsL_len]
    simp
    omega
  · intro i u hu
    rw [runsL_snoc] at hu
    have hi := (List.getElem?_eq_some_iff.1 hu).1
    rw [Array.getElem?_append_left (by simpa using hi)]
    simpa using hu

theorem run_wait_append (w : World) (v : Value) (rs : List PRun) (r : PRun) (h : WaitAt w v rs) (nb : Nat) (hb : Bk w nb 108 (runL r).toArray) (hn : rs.length ≤ 1000000000) :
    ∃ v' w', (Builtin.append_ #[72, 72] 72 #[v, .slice (some ⟨nb, 0, none⟩) 1 1]).run Try.prog w = .ok v' w' ∧ WaitAt w' v' (rs ++ [r]) ∧ w.grownBy w' (blkOf v) ∧
      (blkOf v' = blkOf v ∨ blkOf v' = some w.heap.size) := by
  obtain ⟨i, hi, hz, hsz, hby⟩ := info_parts info108
  have hzs : (Value.agg #[.int .i64 0, .int .i64 0, .int .i64 0, .int .i64 0, .int .i64 0]).cells.size = 5 := rfl
  have hnews : ∀ j u, (runL r)[j]? = some u → w.cell? ((⟨nb, 0, none⟩ : Addr).add j) = some u := fun j u hu => by
    rw [Addr.add_lit, Nat.zero_add, hb.cell]
    simpa using hu
  have hlen : (runL r).length = 1 * i.size := by rw [hsz]; rfl
  have h1 : ∀ u ∈ runL r, u.oneCell' = true := by intro u hu; simp at hu; rcases hu with rfl | rfl | rfl | rfl | rfl <;> rfl
  have hml : ∀ n old, n ≤ 1000000001 → grownCap w n old 108 ≤ maxLen := fun n old hn => grownCap_le_maxLen w n old 108 (by simp only [maxLen]; omega)
  rcases h with ⟨rfl, A, rfl⟩ | ⟨g, off, c, ds, rfl, hne, hd, hc, hm, hs, ho, hr⟩
  · cases A with
    | none =>
      have hr := run_append_nil (P := Try.prog) w 72 72 108 i _ Try.underlying72 hi hz ⟨nb, 0, none⟩ 1 1 (runL r) hlen hnews (by omega) (by omega) (by omega)
      have hg := grow_wait w [] r (grownCap w 1 0 108) (by have := grownCap_ge w 1 0 108; simpa using this) (hml 1 0 (by omega)) _ hzs (blkOf (.slice none 0 0))
      simp only [runsL, List.flatMap_nil, Array.empty_append, List.length_nil, Nat.zero_add] at hg
      exact ⟨_, _, hr, by simpa using hg.1, hg.2, .inr (blkOf_len (by omega))⟩
    | some a =>
      have hr := run_append_grow (P := Try.prog) w 72 72 108 i _ Try.underlying72 hi hz a 0 0 [] (by simp) (by simp) ⟨nb, 0, none⟩ 1 1 (runL r) hlen hnews (by omega) (by omega) (growslice_fits (by omega) (by rw [hby]; omega))
      have hg := grow_wait w [] r (grownCap w (0 + 1) 0 108) (by have := grownCap_ge w (0 + 1) 0 108; simpa using this) (hml _ 0 (by omega)) _ hzs (blkOf (.slice (some a) 0 0))
      simp only [runsL, List.flatMap_nil, List.length_nil] at hg
      exact ⟨_, _, hr, by simpa using hg.1, hg.2, .inr (blkOf_len (by omega))⟩
  · have hn0 : 0 < rs.length := List.length_pos_iff.2 hne
    have hbk : blkOf (.slice (some ⟨g, off, none⟩) rs.length c) = some g := blkOf_len hn0
    by_cases hroom : rs.length + 1 ≤ c
    · have ho0 : off = 0 ∧ ds.size = c * 5 := by omega
      obtain ⟨rfl, hs'⟩ := ho0
      have hrun := run_append_room (P := Try.prog) w 72 72 108 i Try.underlying72 hi g rs.length c ds hd ⟨nb, 0, none⟩ 1 1 (runL r) hlen hnews h1 hroom (by rw [hsz, hs']; simp; omega)
      refine ⟨_, _, hrun, ?_, ⟨rfl, rfl, rfl, by simp, fun k _ hk => setRow_other w g k _ (fun e => hk (by rw [hbk, e]))⟩, .inl ?_⟩
      · have hl : (rs ++ [r]).length = rs.length + 1 := by simp
        have hcells := runs_cells hr
        have := waitAt_new (w := w.setRow g (ds.toList.take (rs.length * i.size) ++ runL r ++ ds.toList.drop (rs.length * i.size + (runL r).length)).toArray) (rs := rs ++ [r]) (g := g) (c := c) (by simp) (setRow_heap w g ds _ 108 _ hd) (by omega) hm ?_ ?_
        · rwa [hl] at this
        · rw [hsz]
          simp
          omega
        · intro q u hu
          rw [runsL_snoc] at hu
          have hq := (List.getElem?_eq_some_iff.1 hu).1
          rw [List.length_append, runsL_len] at hq
          have hq5 : (runL r).length = 5 := rfl
          have htl : (ds.toList.take (rs.length * 5)).length = rs.length * 5 := by simp; omega
          rw [hsz, List.getElem?_toArray, List.append_assoc]
          by_cases hlt : q < rs.length * 5
          · rw [List.getElem?_append_left (by rw [runsL_len]; exact hlt)] at hu
            rw [List.getElem?_append_left (by omega), List.getElem?_take, if_pos hlt]
            have := hcells q u hu
            simpa using this
          · rw [List.getElem?_append_right (by rw [runsL_len]; omega), runsL_len] at hu
            rw [List.getElem?_append_right (by omega), htl, List.getElem?_append_left (by omega)]
            exact hu
      · rw [hbk, blkOf_len (by omega)]
    · have hcn : c = rs.length := by omega
      have holds : ∀ j u, (runsL rs)[j]? = some u → w.cell? ((⟨g, off, none⟩ : Addr).add j) = some u := fun j u hu => by
        rw [Addr.add_lit, hd.cell]
        exact runs_cells hr j u hu
      have hrun := run_append_grow (P := Try.prog) w 72 72 108 i _ Try.underlying72 hi hz ⟨g, off, none⟩ rs.length c (runsL rs) (by rw [hsz]; exact runsL_len rs) holds ⟨nb, 0, none⟩ 1 1 (runL r) hlen hnews (by omega) (by omega) (growslice_fits (by omega) (by rw [hby]; omega))
      have hg := grow_wait w rs r (grownCap w (rs.length + 1) c 108) (grownCap_ge w _ c 108) (hml _ c (by omega)) _ hzs (blkOf (.slice (some ⟨g, off, none⟩) rs.length c))
      exact ⟨_, _, hrun, hg.1, hg.2, .inr (blkOf_len (by omega))⟩

/-- Behind the append, and the store of its answer into the line. -/
theorem app_done {w0 W1 w2 : World} {p bl cap : Nat} {G1 : Nat → Value} {s1 : PSt} (hp1 : PlanAt W1 p bl cap G1 s1) {k : Nat} (hk : k < s1.l.length) {v v' : Value} (hG : G1 k = v) {rs : List PRun} (o : Obj) (hw2 : WaitAt w2 v' rs)
    (hgr : ((W1.alloc o).drew).grownBy w2 (blkOf v)) (hbv : blkOf v' = blkOf v ∨ blkOf v' = some ((W1.alloc o).drew).heap.size) {S : Nat → Prop} (hf : Fr S w0 W1) (hS : ∀ x, own p bl G1 s1.l.length x → S x ∨ w0.heap.size ≤ x) :
    PlanAt (w2.setCell ⟨bl, k * 6 + 4, none⟩ v') p bl cap (fun i => if i = k then v' else G1 i) { s1 with l := s1.l.set k { s1.l[k] with wait := rs } } ∧ Fr S w0 (w2.setCell ⟨bl, k * 6 + 4, none⟩ v') ∧
      (∀ x, own p bl (fun i => if i = k then v' else G1 i) s1.l.length x → S x ∨ w0.heap.size ≤ x) := by
  subst hG
  have hsz : ((W1.alloc o).drew).heap.size = W1.heap.size + 1 := by simp
  have h0 := hf.size
  have hg : ∀ b, b < W1.heap.size → blkOf (G1 k) ≠ some b → w2.heap[b]? = W1.heap[b]? := fun b hb hn =>
    (hgr.block b (by omega) (Ne.symm hn)).trans (Below.heap_alloc W1 o b hb)
  have hv : ∀ b, blkOf v' = some b → blkOf (G1 k) = some b ∨ W1.heap.size ≤ b := by
    intro b hb
    rcases hbv with h | h
    · exact .inl (by rw [← h, hb])
    · rw [hb, hsz] at h
      injection h with h
      exact .inr (by omega)
  have hbl : S bl ∨ w0.heap.size ≤ bl := hS bl (.inr (.inl rfl))
  refine ⟨hp1.setWait hk hw2 (fun b hb hn => hg b (hp1.lt b hb) hn) hv, ?_, ?_⟩
  · refine Fr.setCell ⟨hgr.os.trans hf.os, hgr.tape.trans hf.tape, hgr.output.trans hf.output, ?_, fun b hb hn => ?_⟩ hbl _
    · have := hgr.size
      omega
    · rw [hg b (by omega) ?_]
      · exact hf.block b hb hn
      · intro e
        rcases hS b (.inr (.inr ⟨k, hk, e⟩)) with h | h
        · exact hn h
        · omega
  · rintro x (rfl | rfl | ⟨i, hi, hx⟩)
    · exact hS _ (.inl rfl)
    · exact hS _ (.inr (.inl rfl))
    · dsimp only at hx
      by_cases e : i = k
      · rw [if_pos e] at hx
        rcases hv x hx with h | h
        · exact hS _ (.inr (.inr ⟨k, hk, h⟩))
        · exact .inr (by omega)
      · rw [if_neg e] at hx
        exact hS _ (.inr (.inr ⟨i, hi, hx⟩))

/-- The same as a step of a region. -/
theorem step_wait_append {w : World} {ops : Array Oper} {o : Oper} {a : Act} {K : Act → World → Prop} {Q : Exit → Act → World → Prop} {E : Prop} (hgd : o.guard = none) (sl x : Operand)
    (ho : o.op = .call { callee := .builtin .append, args := #[sl, x], argTypes := #[72, 72] }) (hty : o.type = 72) (v : Value) (rs : List PRun) (r : PRun) (hs : a.eval sl = v) (h : WaitAt w v rs)
    (nb : Nat) (hx : a.eval x = .slice (some ⟨nb, 0, none⟩) 1 1) (hb : Bk w nb 108 (runL r).toArray) (hn : rs.length ≤ 1000000000)
    (hK : ∀ v' w', WaitAt w' v' (rs ++ [r]) → w.grownBy w' (blkOf v) → (blkOf v' = blkOf v ∨ blkOf v' = some w.heap.size) → K (a.put o.dst v') w') :
    if Region.wanted o (yielded ops a.tmps) = true then Oper.wp Try.prog o a w K Q else E := by
  have hw : Region.wanted o (yielded ops a.tmps) = true := by simp [Region.wanted, hgd]
  rw [if_pos hw]
  obtain ⟨v', w', hr, h2, h3, h4⟩ := run_wait_append w v rs r h nb hb hn
  unfold Oper.wp execOp
  simp only [ho, hty, resolve, invoke, builtin, Sem.run_bind, Sem.run_pure, Result.andThen_ok, List.map_toArray, List.map_cons, List.map_nil, hs, hx, hr]
  exact hK v' w' h2 h3 h4

theorem PlanAt.like {w w' : World} {p bl cap : Nat} {G : Nat → Value} {s : PSt} (h : PlanAt w p bl cap G s) (hh : w'.heap = w.heap) : PlanAt w' p bl cap G s := h.keep fun _ _ => by rw [hh]

theorem WaitAt.drew1 {w : World} {v : Value} {rs : List PRun} (h : WaitAt w v rs) : WaitAt w.drew v rs := h.keep fun _ _ => rfl
theorem WaitAt.alloc {w : World} {v : Value} {rs : List PRun} (h : WaitAt w v rs) (o : Obj) : WaitAt (w.alloc o) v rs := h.keep fun g hg => Below.heap_alloc w o g (h.lt g hg).1
/-- What the rounds keep. -/
structure RelI (w0 : World) (p bl cap : Nat) (G0 : Nat → Value) (s : PSt) (w : World) : Prop where
  pl : ∃ G, PlanAt w p bl cap G s ∧ ∀ x, own p bl G s.l.length x → own p bl G0 s.l.length x ∨ w0.heap.size ≤ x
  fr : Fr (own p bl G0 s.l.length) w0 w


theorem PlanAt.setTask {w : World} {p bl cap : Nat} {G : Nat → Value} {s : PSt} (h : PlanAt w p bl cap G s) {k : Nat} (hk : k < s.l.length) (t : PTask) :
    PlanAt (((w.setCell ⟨bl, k * 6, none⟩ (.int .i64 t.ev)).setCell ⟨bl, k * 6 + 1, none⟩ (.int .i64 t.lo)).setCell ⟨bl, k * 6 + 2, none⟩ (.int .i64 t.rk)) p bl cap G { s with l := s.l.set k { s.l[k] with t := t } } := by
  have h1 := h.line hk 0 (.int .i64 t.ev) { s.l[k] with t := { s.l[k].t with ev := t.ev } } rfl (by omega) fun _ hc hs => hc.ev t.ev hs
  have h2 := h1.line (k := k) (by simpa using hk) 1 (.int .i64 t.lo) { s.l[k] with t := { s.l[k].t with ev := t.ev, lo := t.lo } } (by simp) (by omega) fun cs hc hs => by
    simp only [List.getElem_set_self] at hc
    exact hc.lo t.lo hs
  have h3 := h2.line (k := k) (by simpa using hk) 2 (.int .i64 t.rk) { s.l[k] with t := t } (by simp) (by omega) fun cs hc hs => by
    simp only [List.getElem_set_self] at hc
    exact hc.rk t.rk hs
  simp only [List.set_set, Nat.add_zero] at h3
  exact h3


theorem PlanAt.congr {w : World} {p bl cap : Nat} {G : Nat → Value} {s s' : PSt} (h : PlanAt w p bl cap G s) (e : s' = s) : PlanAt w p bl cap G s' := e ▸ h
theorem RelI.drewN {w0 : World} {p bl cap : Nat} {G0 : Nat → Value} {s : PSt} {W : World} (h : RelI w0 p bl cap G0 s W) (k : Nat) : RelI w0 p bl cap G0 s (W.drewN k) := by
  obtain ⟨⟨G, h1, h2⟩, h3⟩ := h
  exact ⟨⟨G, h1.drewN k, h2⟩, h3.drewN k⟩

theorem RelI.of {w0 W : World} {p bl cap : Nat} {G0 G : Nat → Value} {s : PSt} {n : Nat} (hn : s.l.length = n) (hp : PlanAt W p bl cap G s) (ho : ∀ x, own p bl G n x → own p bl G0 n x ∨ w0.heap.size ≤ x) (hf : Fr (own p bl G0 n) w0 W) : RelI w0 p bl cap G0 s W := by
  subst hn
  exact ⟨⟨G, hp, ho⟩, hf⟩


theorem PlanAt.frozenP {w : World} {p bl cap : Nat} {G : Nat → Value} {s : PSt} (h : PlanAt w p bl cap G s) (o : Nat) : w.frozen? ⟨p, o, none⟩ = false := h.hp.frozen o
theorem PlanAt.p_ne {w : World} {p bl cap : Nat} {G : Nat → Value} {s : PSt} (h : PlanAt w p bl cap G s) : ¬ p = bl := by
  rintro rfl
  obtain ⟨cs, hb, _⟩ := h.hb
  have h1 := h.hp
  unfold Bk at h1 hb
  rw [h1] at hb
  injection hb with hb
  injection hb with _ hb
  cases hb


theorem RelI.step {w0 w1 : World} {p bl cap : Nat} {G0 : Nat → Value} {s1 : PSt} (h : RelI w0 p bl cap G0 s1 w1) : ∃ G1, PlanAt w1 p bl cap G1 s1 ∧ ∀ s2 w2, s2.l.length = s1.l.length → RelI w1 p bl cap G1 s2 w2 → RelI w0 p bl cap G0 s2 w2 := by
  obtain ⟨⟨G1, hp, ho⟩, hf⟩ := h
  refine ⟨G1, hp, fun s2 w2 hl h2 => ?_⟩
  obtain ⟨⟨G2, hp2, ho2⟩, hf2⟩ := h2
  rw [hl] at ho2 hf2
  refine RelI.of hl hp2 (fun x hx => ?_) (hf.trans hf2 ho)
  rcases ho2 x hx with h | h
  · exact ho x h
  · exact .inr (Nat.le_trans hf.size h)
theorem RelI.row {w1 w2 : World} {p bl cap : Nat} {G1 : Nat → Value} {s1 s2 : PSt} (hp : PlanAt w1 p bl cap G1 s1) (hl : s2.l.length = s1.l.length) (hr : RelI w1 p bl cap G1 s2 w2) {base sz n : Nat} {v : Value} {xs : List Value} (ho : w1.ownsRow base 42 sz v n xs) : w2.ownsRow base 42 sz v n xs := by
  refine own_fr ho hr.fr fun g cs hg => ?_
  rw [hl]
  exact hp.not_own hg (by decide) (by decide) (by decide)
theorem RelI.same {w0 w1 w2 : World} {p bl cap : Nat} {G0 : Nat → Value} {s : PSt} (h : RelI w0 p bl cap G0 s w1) (hb : Below w1.heap.size w1 w2) : RelI w0 p bl cap G0 s w2 := by
  obtain ⟨⟨G1, hp, ho⟩, hf⟩ := h
  exact ⟨⟨G1, hp.below hb, ho⟩, hf.trans (Fr.of_below hb (fun _ => False)) (fun _ h => h.elim)⟩
theorem RelI.base {w0 w1 : World} {p bl cap : Nat} {G0 : Nat → Value} {s : PSt} (h : RelI w0 p bl cap G0 s w1) : w0.heap.size ≤ w1.heap.size := h.fr.size


theorem RelI.grown {w0 w1 w2 : World} {p bl cap : Nat} {G0 : Nat → Value} {s : PSt} (h : RelI w0 p bl cap G0 s w1) {base sz n : Nat} {v : Value} {xs : List Value} (ho : w1.ownsRow base 42 sz v n xs) (hb : w0.heap.size ≤ base) (o : Obj) (hg : (w1.alloc o).grownBy w2 v.ownBlock) :
    RelI w0 p bl cap G0 s w2 := by
  obtain ⟨⟨G1, hp, hown⟩, hf⟩ := h
  have hsz : (w1.alloc o).heap.size = w1.heap.size + 1 := by simp
  have keep : ∀ b, b < w1.heap.size → v.ownBlock ≠ some b → w2.heap[b]? = w1.heap[b]? := fun b hlt hne => (hg.block b (by omega) (Ne.symm hne)).trans (Below.heap_alloc w1 o b hlt)
  have hv : ∀ b, v.ownBlock = some b → base ≤ b ∧ ∃ cs, Bk w1 b 42 cs := by
    intro b hb
    rcases ho.2 with ⟨rfl, _⟩ | ⟨g, cp, cur, rfl, hbase, hh, _⟩
    · simp [Value.ownBlock] at hb
    · simp [Value.ownBlock] at hb
      subst hb
      exact ⟨hbase, cur, hh⟩
  refine ⟨⟨G1, hp.keep fun b hbo => keep b (hp.lt b hbo) fun e => ?_, hown⟩, ?_⟩
  · obtain ⟨_, cs, hk⟩ := hv b e
    exact hp.not_own hk (by decide) (by decide) (by decide) hbo
  · refine ⟨hg.os.trans hf.os, hg.tape.trans hf.tape, hg.output.trans hf.output, ?_, fun b hlt hn => ?_⟩
    · have := hg.size
      have := hf.size
      omega
    · have := hf.size
      rw [keep b (by omega) fun e => ?_]
      · exact hf.block b hlt hn
      · have := (hv b e).1
        omega

end Go.Proofs.Ytcffjobefgecdaa.Ref
