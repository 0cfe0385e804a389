/- Several plans side by side in memory; the calls on one of them. -/
import Derived.Test.YtcffjobefgecdaaO
namespace Go.Proofs.Ytcffjobefgecdaa
open Go.RowKit

/-- Plans of the call's own, none of which shares memory with another. -/
def Many (w W : World) (ps : List (PSt × Nat)) : Prop :=
  Below w.heap.size w W ∧ ∃ E : Nat → Nat × Nat × (Nat → Value),
    (∀ i s p, ps[i]? = some (s, p) → PlanAt W p (E i).1 (E i).2.1 (E i).2.2 s ∧ ∀ x, own p (E i).1 (E i).2.2 s.l.length x → w.heap.size ≤ x) ∧
    ∀ i j s p s' p', ps[i]? = some (s, p) → ps[j]? = some (s', p') → i ≠ j → ∀ x, own p (E i).1 (E i).2.2 s.l.length x → ¬ own p' (E j).1 (E j).2.2 s'.l.length x
/-- What is no plan's stays. -/
def Kp (W W' : World) : Prop := W.heap.size ≤ W'.heap.size ∧ ∀ g t cs, t ≠ 64 → t ≠ 68 → t ≠ 102 → Bk W g t cs → Bk W' g t cs

section
variable {w W W' W'' : World} {ps : List (PSt × Nat)}
theorem Kp.refl (W : World) : Kp W W := ⟨Nat.le_refl _, fun _ _ _ _ _ _ h => h⟩
theorem Kp.trans (h : Kp W W') (g : Kp W' W'') : Kp W W'' := ⟨Nat.le_trans h.1 g.1, fun b t cs h1 h2 h3 hb => g.2 b t cs h1 h2 h3 (h.2 b t cs h1 h2 h3 hb)⟩
theorem Kp.below (h : Below W.heap.size W W') : Kp W W' := ⟨h.size, fun _ _ _ _ _ _ hb => hb.below h hb.lt⟩
theorem Kp.slots (h : Kp W W') {b : Nat} {cs : Array Value} (hb : Bk W b 42 cs) : Bk W' b 42 cs := h.2 b 42 cs (by decide) (by decide) (by decide) hb
theorem Kp.row (h : Kp W W') {base sz n : Nat} {e : TypeId} {v : Value} {xs : List Value} (ho : W.ownsRow base e sz v n xs) (h1 : e ≠ 64) (h2 : e ≠ 68) (h3 : e ≠ 102) : W'.ownsRow base e sz v n xs := by
  refine ⟨ho.1, ?_⟩
  rcases ho.2 with h4 | ⟨g, cap, cur, rfl, hg, hh, rest⟩
  · exact .inl h4
  · exact .inr ⟨g, cap, cur, rfl, hg, h.2 g e cur h1 h2 h3 hh, rest⟩

theorem Many.zero (w : World) : Many w w [] := ⟨Below.refl _ _, fun _ => (0, 0, fun _ => .slice none 0 0), (fun i s p h => by simp at h), (fun i j s p s' p' h => by simp at h)⟩
theorem Many.below (h : Many w W ps) (hb : Below W.heap.size W W') : Many w W' ps := by
  obtain ⟨h0, E, h1, h2⟩ := h
  exact ⟨below_to h0 hb h0.size, E, fun i s p hi => ⟨(h1 i s p hi).1.below hb, (h1 i s p hi).2⟩, h2⟩
theorem Many.drewN (h : Many w W ps) (n : Nat) : Many w (W.drewN n) ps := h.below ⟨rfl, rfl, rfl, Nat.le_refl _, fun _ _ => rfl⟩
theorem Many.alloc (h : Many w W ps) (o : Obj) : Many w (W.alloc o) ps := h.below ((Below.refl _ _).alloc (Nat.le_refl _) _)
theorem Many.base (h : Many w W ps) : Below w.heap.size w W := h.1

theorem Many.step (h : Many w W ps) {i : Nat} {s : PSt} {p : Nat} (hi : ps[i]? = some (s, p)) : ∃ bl cap G, PlanAt W p bl cap G s ∧
    ∀ s' W', s'.l.length = s.l.length → RelX W p bl G s' W' → Many w W' (ps.set i (s', p)) ∧ Kp W W' := by
  obtain ⟨h0, E, h1, h2⟩ := h
  obtain ⟨hp, ho⟩ := h1 i s p hi
  refine ⟨_, _, _, hp, fun s' W' hl hr => ?_⟩
  obtain ⟨bl', cap', G', hp', ho', hf⟩ := hr
  rw [hl] at hf ho'
  have hil : i < ps.length := (List.getElem?_eq_some_iff.1 hi).1
  have hz := h0.size
  refine ⟨⟨below_to' h0 (hf.below (B := w.heap.size) ho hz), fun j => if j = i then (bl', cap', G') else E j, ?_, ?_⟩, hf.size, fun g t cs t1 t2 t3 hb => hf.bk hb (hp.not_own hb t1 t2 t3)⟩
  · intro j s2 p2 hj
    by_cases e : j = i
    · subst e
      rw [List.getElem?_set_self hil] at hj
      injection hj with hj
      injection hj with e1 e2
      subst e1 e2
      simp only [if_true]
      refine ⟨hp', fun x hx => ?_⟩
      rw [hl] at hx
      rcases ho' x hx with h | h
      · exact ho x h
      · omega
    · rw [List.getElem?_set_ne (Ne.symm e)] at hj
      simp only [if_neg e]
      obtain ⟨q1, q2⟩ := h1 j s2 p2 hj
      exact ⟨q1.fr hf fun g hg => h2 j i s2 p2 s p hj hi e g hg, q2⟩
  · intro j k s2 p2 s3 p3 hj hk hjk x hx
    by_cases e : j = i
    · subst e
      rw [List.getElem?_set_self hil] at hj
      injection hj with hj
      injection hj with e1 e2
      subst e1 e2
      rw [List.getElem?_set_ne hjk] at hk
      simp only [if_true] at hx
      simp only [if_neg (Ne.symm hjk)]
      rw [hl] at hx
      intro hx'
      rcases ho' x hx with h | h
      · exact h2 j k s p s3 p3 hi hk hjk x h hx'
      · have := (h1 k s3 p3 hk).1.lt x hx'
        omega
    · rw [List.getElem?_set_ne (Ne.symm e)] at hj
      simp only [if_neg e] at hx
      by_cases e2 : k = i
      · subst e2
        rw [List.getElem?_set_self hil] at hk
        injection hk with hk
        injection hk with e3 e4
        subst e3 e4
        simp only [if_true]
        intro hx'
        rw [hl] at hx'
        rcases ho' x hx' with h | h
        · exact h2 j k s2 p2 s p hj hi hjk x hx h
        · have := (h1 j s2 p2 hj).1.lt x hx
          omega
      · rw [List.getElem?_set_ne (Ne.symm e2)] at hk
        simp only [if_neg e2]
        exact h2 j k s2 p2 s3 p3 hj hk hjk x hx
theorem Many.new (h : Many w W ps) {F : List PTask} {p bl : Nat} (hb : Below W.heap.size W W') (hp0 : W.heap.size ≤ p) (hbl0 : W.heap.size ≤ bl) (hp : PlanAt W' p bl F.length (fun _ => .slice none 0 0) (newS F)) : Many w W' (ps ++ [(newS F, p)]) := by
  obtain ⟨h0, E, h1, h2⟩ := h.below hb
  have h1' := h.2
  have hz := h.1.size
  have hown : ∀ x, own p bl (fun _ => Value.slice none 0 0) (newS F).l.length x → W.heap.size ≤ x := by
    intro x hx
    rcases hx with rfl | rfl | ⟨i, _, hx⟩
    · exact hp0
    · exact hbl0
    · simp [blkOf] at hx
  obtain ⟨_, E, g1, g2⟩ := h
  refine ⟨h0, fun j => if j = ps.length then (bl, F.length, fun _ => .slice none 0 0) else E j, ?_, ?_⟩
  · intro j s2 p2 hj
    by_cases e : j = ps.length
    · subst e
      simp at hj
      obtain ⟨rfl, rfl⟩ := hj
      simp only [if_true]
      exact ⟨hp, fun x hx => by have := hown x hx; omega⟩
    · have hlt : j < ps.length := by
        have := (List.getElem?_eq_some_iff.1 hj).1
        simp at this
        omega
      rw [List.getElem?_append_left hlt] at hj
      simp only [if_neg e]
      obtain ⟨q1, q2⟩ := g1 j s2 p2 hj
      exact ⟨q1.below hb, q2⟩
  · intro j k s2 p2 s3 p3 hj hk hjk x hx
    by_cases e : j = ps.length
    · subst e
      simp at hj
      obtain ⟨rfl, rfl⟩ := hj
      have hlt : k < ps.length := by
        have := (List.getElem?_eq_some_iff.1 hk).1
        simp at this
        omega
      rw [List.getElem?_append_left hlt] at hk
      simp only [if_true] at hx
      simp only [if_neg (Ne.symm hjk)]
      intro hx'
      have a := (g1 k s3 p3 hk).1.lt x hx'
      have b := hown x hx
      omega
    · have hlt : j < ps.length := by
        have := (List.getElem?_eq_some_iff.1 hj).1
        simp at this
        omega
      rw [List.getElem?_append_left hlt] at hj
      simp only [if_neg e] at hx
      by_cases e2 : k = ps.length
      · subst e2
        simp at hk
        obtain ⟨rfl, rfl⟩ := hk
        simp only [if_true]
        intro hx'
        have a := (g1 j s2 p2 hj).1.lt x hx
        have b := hown x hx'
        omega
      · have hlt2 : k < ps.length := by
          have := (List.getElem?_eq_some_iff.1 hk).1
          simp at this
          omega
        rw [List.getElem?_append_left hlt2] at hk
        simp only [if_neg e2]
        exact g2 j k s2 p2 s3 p3 hj hk hjk x hx

theorem RelI.toX {p bl cap : Nat} {G : Nat → Value} {s : PSt} (h : RelI W p bl cap G s W') : RelX W p bl G s W' := by
  obtain ⟨⟨G', hp, ho⟩, hf⟩ := h
  exact ⟨bl, cap, G', hp, ho, hf⟩
theorem release_len' (tick : Int) (s : PSt) : (release tick s).l.length = s.l.length := release_len tick s
theorem untilGo_len {K : Nat} {t : Int} (ht : t ≤ 1152921504606846976) : ∀ (m : Nat) {s : PSt}, StOk K s → (untilGo t m s).1.l.length = s.l.length
  | 0, s, h => rfl
  | m + 1, s, h => by
    by_cases hn : s.now < t
    · obtain ⟨q1, q2, q3, q4⟩ := stretch_ok (lim := t) h ht
      rw [untilGo, if_pos hn]
      generalize stretch s t = st at *
      obtain ⟨s', o⟩ := st
      cases o with
      | none => exact q2
      | some xd =>
        obtain ⟨x, d⟩ := xd
        obtain ⟨⟨i, hi⟩, _, q6⟩ := q4 _ _ rfl
        have hto := cut_to (x := x) (d := d) (t := t)
        have := untilGo_len ht m (done_ok (x := cutAt t (x, d)) q1 (cut_ok hi (q6 hn)) (by omega))
        show (untilGo t m (done s' (cutAt t (x, d)))).1.l.length = _
        rw [this]
        simpa [done] using q2
    · rw [untilGo, if_neg hn]
theorem untilS_len {K : Nat} {s : PSt} (tick : Int) (h : StOk K s) : (untilS s tick).1.l.length = s.l.length := by
  unfold untilS
  simp only
  have ht : (if endT < tick then endT else tick) ≤ 1152921504606846976 := by unfold endT; split <;> omega
  generalize (if endT < tick then endT else tick) = t at *
  have hg := untilGo_len ht mostN h
  split
  · exact hg
  · exact hg
theorem nextS_len {K : Nat} {s : PSt} (h : StOk K s) : (nextS s).1.l.length = s.l.length := by
  unfold nextS
  split
  · rfl
  · have hs := stretch_ok (lim := endT) h (by unfold endT; omega)
    split
    · rename_i s' sl d e
      rw [e] at hs
      split
      · rfl
      · simpa [done] using hs.2.1
    · rfl
theorem setS_len (s : PSt) (task : Int) (t : PTask) : (setS s task t).1.l.length = s.l.length := by
  unfold setS
  split
  · rfl
  · simp [release]

theorem until_many {K i : Nat} {s : PSt} {p : Nat} (h : Many w W ps) (hi : ps[i]? = some (s, p)) (tick : Int) (hok : StOk K s) (hK : K ≤ 1000000000) :
    Calls Try.prog 18 #[.pointer (some ⟨p, 0, none⟩), .int .i64 tick] W fun e W' => ∃ v, e = .returned v ∧ W'.ownsRow W.heap.size 42 4 v (untilS s tick).2.length (slotsL (untilS s tick).2) ∧ Many w W' (ps.set i ((untilS s tick).1, p)) ∧ Kp W W' := by
  obtain ⟨bl, cap, G, hp, hst⟩ := h.step hi
  refine (until18 p bl cap K G s tick W hp hok hK).mono ?_
  rintro e W' ⟨v, rfl, hown, hr⟩
  have := hst _ W' (untilS_len tick hok) hr.toX
  exact ⟨v, rfl, hown, this.1, this.2⟩
theorem next_many {K i : Nat} {s : PSt} {p : Nat} (h : Many w W ps) (hi : ps[i]? = some (s, p)) (hok : StOk K s) (hK : K ≤ 1000000000) :
    Calls Try.prog 17 #[.pointer (some ⟨p, 0, none⟩)] W fun e W' => e = .returned (.tuple #[slotV (nextS s).2.1, .int .i64 (nextS s).2.2]) ∧ Many w W' (ps.set i ((nextS s).1, p)) ∧ Kp W W' := by
  obtain ⟨bl, cap, G, hp, hst⟩ := h.step hi
  refine (next17 p bl cap K G s W hp hok hK).mono ?_
  rintro e W' ⟨rfl, hr⟩
  have := hst _ W' (nextS_len hok) hr
  exact ⟨rfl, this.1, this.2⟩
theorem set_many {K i : Nat} {s : PSt} {p : Nat} (h : Many w W ps) (hi : ps[i]? = some (s, p)) (task : Int) (t : PTask) (hok : StOk K s) (hK : K ≤ 1000000000) (ht0 : -9223372036854775808 ≤ task) (ht1 : task ≤ 9223372036854775807) :
    Calls Try.prog 19 #[.pointer (some ⟨p, 0, none⟩), .int .i64 task, taskV t] W fun e W' => e = .returned (.int .i64 (setS s task t).2) ∧ Many w W' (ps.set i ((setS s task t).1, p)) ∧ Kp W W' := by
  obtain ⟨bl, cap, G, hp, hst⟩ := h.step hi
  refine (set19 p bl cap K G s task t W hp hok hK ht0 ht1).mono ?_
  rintro e W' ⟨rfl, hr⟩
  have := hst _ W' (setS_len s task t) hr.toX
  exact ⟨rfl, this.1, this.2⟩
theorem load_many {K i : Nat} {s : PSt} {p : Nat} (h : Many w W ps) (hi : ps[i]? = some (s, p)) (hok : StOk K s) :
    Calls Try.prog 13 #[.pointer (some ⟨p, 0, none⟩)] W fun e W' => e = .returned (.tuple #[.int .i64 (loadS s).1, .int .i64 (loadS s).2]) ∧ Many w W' ps ∧ Kp W W' := by
  obtain ⟨bl, cap, G, hp, hst⟩ := h.step hi
  refine (load13 p bl cap K G s W hp hok).mono ?_
  rintro e W' ⟨rfl, q, rfl⟩
  exact ⟨rfl, h.drewN q, Nat.le_refl _, fun g t cs _ _ _ hb => hb⟩
theorem now_many {i : Nat} {s : PSt} {p : Nat} (h : Many w W ps) (hi : ps[i]? = some (s, p)) :
    Calls Try.prog 15 #[.pointer (some ⟨p, 0, none⟩)] W fun e W' => e = .returned (.int .i64 s.now) ∧ W' = W := by
  obtain ⟨bl, cap, G, hp, hst⟩ := h.step hi
  exact now15 p bl cap G s W hp
def NewMany (w W : World) (ps : List (PSt × Nat)) (l : List PTask) (e : Ending) (W' : World) : Prop := ∃ p, e = .returned (.tuple #[.pointer (some ⟨p, 0, none⟩), .int .i64 0]) ∧ Many w W' (ps ++ [(newS l, p)]) ∧ Below W.heap.size W W'
theorem new_many (h : Many w W ps) {B : Nat} {A : Option Addr} {c : Nat} {l : List PTask} (hl : newR l = 0) (hrd : Rd W B 3 A l.length (tasksL l)) (hB : B ≤ W.heap.size) (hlen : l.length ≤ 1000) :
    Calls Try.prog 10 #[.slice A l.length c] W (NewMany w W ps l) := by
  refine (new10 B A c l W hrd hB (by omega)).mono ?_
  rintro e W' ⟨hb, ⟨h1, _⟩ | ⟨_, p, bl, hp0, hbl0, rfl, hp⟩⟩
  · exact absurd hl h1
  · exact ⟨p, rfl, h.new hb hp0 hbl0 hp, hb⟩
theorem new_refused {B : Nat} {A : Option Addr} {c : Nat} {l : List PTask} (hl : newR l ≠ 0) (hrd : Rd W B 3 A l.length (tasksL l)) (hB : B ≤ W.heap.size) (hlen : l.length ≤ 1000) :
    Calls Try.prog 10 #[.slice A l.length c] W fun e W' => e = .returned (.tuple #[.pointer none, .int .i64 (newR l)]) ∧ Below W.heap.size W W' := by
  refine (new10 B A c l W hrd hB (by omega)).mono ?_
  rintro e W' ⟨hb, ⟨_, rfl⟩ | ⟨h1, _⟩⟩
  · exact ⟨rfl, hb⟩
  · exact absurd h1 hl
end
end Go.Proofs.Ytcffjobefgecdaa
