/- Plain laws: the states behind New, Next, Until, Set. -/
import Derived.Test.YtcffjobefgecdaaQ
namespace Go.Proofs.Ytcffjobefgecdaa

theorem newS_ok {l : List PTask} (hn : l.length ≤ 256) (hm : ∀ t ∈ l, mayB t = true) : StOk 1 (newS l) := by
  refine ⟨by simpa [newS] using hn, fun x hx => ?_, Int.le_refl _, by show (0 : Int) ≤ _; omega⟩
  simp only [newS, List.mem_map] at hx
  obtain ⟨t, ht, rfl⟩ := hx
  refine ⟨hm t ht, Int.le_refl _, by show (0 : Int) ≤ _; omega, (fun r hr => by cases hr), ?_, fun h => absurd rfl h⟩
  simp [weight]
theorem nextS_ok {K : Nat} {s : PSt} (h : StOk K s) : StOk K (nextS s).1 := by
  unfold nextS
  split
  · exact h
  · have hs := stretch_ok (lim := endT) h (by unfold endT; omega)
    split
    · rename_i s' sl d e
      rw [e] at hs
      obtain ⟨q1, q2, q3, q4⟩ := hs
      obtain ⟨⟨i, hi⟩, _⟩ := q4 _ _ rfl
      split
      · exact h
      · rename_i hle
        refine done_ok q1 hi ?_
        unfold endT at hle
        omega
    · exact h
theorem untilGo_ok {K : Nat} {t : Int} (ht : t ≤ 1152921504606846976) : ∀ (m : Nat) {s : PSt}, StOk K s → StOk K (untilGo t m s).1
  | 0, s, h => h
  | m + 1, s, h => by
    by_cases hn : s.now < t
    · obtain ⟨q1, q2, q3, q4⟩ := stretch_ok (lim := t) h ht
      rw [untilGo, if_pos hn]
      generalize stretch s t = st at *
      obtain ⟨s', o⟩ := st
      cases o with
      | none => exact q1
      | some xd =>
        obtain ⟨x, d⟩ := xd
        obtain ⟨⟨i, hi⟩, _, q6⟩ := q4 _ _ rfl
        have hto := cut_to (x := x) (d := d) (t := t)
        exact untilGo_ok ht m (done_ok q1 (cut_ok hi (q6 hn)) (by omega))
    · rw [untilGo, if_neg hn]
      exact h
theorem untilS_ok {K : Nat} {s : PSt} (tick : Int) (h : StOk K s) : StOk K (untilS s tick).1 := by
  unfold untilS
  simp only
  have ht : (if endT < tick then endT else tick) ≤ 1152921504606846976 := by unfold endT; split <;> omega
  generalize (if endT < tick then endT else tick) = t at *
  have hg := untilGo_ok ht mostN h
  split
  · refine ⟨hg.n, hg.lines, ?_, ?_⟩
    · show 0 ≤ (if (untilGo t mostN s).1.now < t then t else (untilGo t mostN s).1.now)
      have := hg.now0
      split <;> omega
    · show (if (untilGo t mostN s).1.now < t then t else (untilGo t mostN s).1.now) ≤ _
      have := hg.now1
      split <;> omega
  · exact hg
theorem setS_ok {K : Nat} {s : PSt} (task : Int) (t : PTask) (h : StOk K s) : StOk (K + 1) (setS s task t).1 := by
  have up : ∀ {s : PSt}, StOk K s → StOk (K + 1) s := fun h => ⟨h.n, fun x hx => ⟨(h.lines x hx).may, (h.lines x hx).n0, (h.lines x hx).n1, (h.lines x hx).runs, Nat.le_succ_of_le (h.lines x hx).wt, (h.lines x hx).left⟩, h.now0, h.now1⟩
  unfold setS
  split
  · exact up h
  · rename_i hc
    have hm : mayB t = true := by
      cases hmt : mayB t
      · exact absurd (.inr (.inr hmt)) hc
      · rfl
    have hr := release_ok h h.now1
    have hlen : task.toNat < (release s.now s).l.length := by
      rw [release_len]
      omega
    refine ⟨by simpa using hr.n, fun x hx => ?_, hr.now0, hr.now1⟩
    rcases List.mem_or_eq_of_mem_set hx with hx | rfl
    · exact (up hr).lines x hx
    · have e : (release s.now s).l.getD task.toNat ⟨⟨0, 0, 0⟩, 0, [], 0⟩ = (release s.now s).l[task.toNat] := by
        simp [List.getD_eq_getElem?_getD, List.getElem?_eq_getElem hlen]
      rw [e]
      have lo := hr.lines _ (List.getElem_mem hlen)
      refine ⟨hm, lo.n0, lo.n1, lo.runs, ?_, lo.left⟩
      have := lo.wt
      unfold weight at this ⊢
      show (release s.now s).l[task.toNat].wait.length + _ ≤ K + 1
      split <;> omega
end Go.Proofs.Ytcffjobefgecdaa
