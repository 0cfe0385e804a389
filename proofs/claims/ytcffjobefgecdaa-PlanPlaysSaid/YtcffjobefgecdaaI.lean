/- Walks: Now, Set. -/
import Derived.Test.YtcffjobefgecdaaH
namespace Go.Proofs.Ytcffjobefgecdaa
open Go.RowKit

theorem LineAt.task {cs : Array Value} {o : Nat} {v : Value} {x : PLine} (h : LineAt cs o v x) (t : PTask) (hs : o + 6 ≤ cs.size) :
    LineAt (((cs.setIfInBounds o (.int .i64 t.ev)).setIfInBounds (o + 1) (.int .i64 t.lo)).setIfInBounds (o + 2) (.int .i64 t.rk)) o v { x with t := t } := by
  obtain ⟨⟨h0, h1, h2⟩, h3, h4, h5⟩ := h
  refine ⟨⟨?_, ?_, ?_⟩, ?_, ?_, ?_⟩
  · rw [get_set_ne _ (by omega), get_set_ne _ (by omega), get_set_eq _ (by omega)]
  · rw [get_set_ne _ (by omega), get_set_eq _ (by simp; omega)]
  · rw [get_set_eq _ (by simp; omega)]
  · rw [get_set_ne _ (by omega), get_set_ne _ (by omega), get_set_ne _ (by omega)]; exact h3
  · rw [get_set_ne _ (by omega), get_set_ne _ (by omega), get_set_ne _ (by omega)]; exact h4
  · rw [get_set_ne _ (by omega), get_set_ne _ (by omega), get_set_ne _ (by omega)]; exact h5
theorem LineAt.ev {cs : Array Value} {o : Nat} {v : Value} {x : PLine} (h : LineAt cs o v x) (y : Int) (hs : o + 6 ≤ cs.size) : LineAt (cs.setIfInBounds (o + 0) (.int .i64 y)) o v { x with t := { x.t with ev := y } } := by
  obtain ⟨⟨h0, h1, h2⟩, h3, h4, h5⟩ := h
  refine ⟨⟨get_set_eq _ (by omega), ?_, ?_⟩, ?_, ?_, ?_⟩ <;> (rw [get_set_ne _ (by omega)]; assumption)
theorem LineAt.lo {cs : Array Value} {o : Nat} {v : Value} {x : PLine} (h : LineAt cs o v x) (y : Int) (hs : o + 6 ≤ cs.size) : LineAt (cs.setIfInBounds (o + 1) (.int .i64 y)) o v { x with t := { x.t with lo := y } } := by
  obtain ⟨⟨h0, h1, h2⟩, h3, h4, h5⟩ := h
  refine ⟨⟨?_, get_set_eq _ (by omega), ?_⟩, ?_, ?_, ?_⟩ <;> (rw [get_set_ne _ (by omega)]; assumption)
theorem LineAt.rk {cs : Array Value} {o : Nat} {v : Value} {x : PLine} (h : LineAt cs o v x) (y : Int) (hs : o + 6 ≤ cs.size) : LineAt (cs.setIfInBounds (o + 2) (.int .i64 y)) o v { x with t := { x.t with rk := y } } := by
  obtain ⟨⟨h0, h1, h2⟩, h3, h4, h5⟩ := h
  refine ⟨⟨?_, ?_, get_set_eq _ (by omega)⟩, ?_, ?_, ?_⟩ <;> (rw [get_set_ne _ (by omega)]; assumption)
theorem PlanAt.setTask {w : World} {p bl cap : Nat} {G : Nat → Value} {s : PSt} (h : PlanAt w p bl cap G s) {k : Nat} (hk : k < s.l.length) (t : PTask) :
    PlanAt (((w.setCell ⟨bl, k * 6, none⟩ (.int .i64 t.ev)).setCell ⟨bl, k * 6 + 1, none⟩ (.int .i64 t.lo)).setCell ⟨bl, k * 6 + 2, none⟩ (.int .i64 t.rk)) p bl cap G { s with l := s.l.set k { s.l[k] with t := t } } := by
  have h1 := h.line hk 0 (.int .i64 t.ev) { s.l[k] with t := { s.l[k].t with ev := t.ev } } rfl (by omega) fun _ hc hs => hc.ev t.ev hs
  have h2 := h1.line (k := k) (by simpa using hk) 1 (.int .i64 t.lo) { s.l[k] with t := { s.l[k].t with ev := t.ev, lo := t.lo } } (by simp) (by omega) fun cs hc hs => by
    simp only [List.getElem_set_self] at hc
    exact hc.lo t.lo hs
  have h3 := h2.line (k := k) (by simpa using hk) 2 (.int .i64 t.rk) { s.l[k] with t := t } (by simp) (by omega) fun cs hc hs => by
    simp only [List.getElem_set_self] at hc
    exact hc.rk t.rk hs
  simp only [List.set_set, Nat.add_zero] at h3
  exact h3

theorem PlanAt.congr {w : World} {p bl cap : Nat} {G : Nat → Value} {s s' : PSt} (h : PlanAt w p bl cap G s) (e : s' = s) : PlanAt w p bl cap G s' := e ▸ h

theorem now15 (p bl cap : Nat) (G : Nat → Value) (s : PSt) (w : World) (h : PlanAt w p bl cap G s) :
    Calls Try.prog 15 #[.pointer (some ⟨p, 0, none⟩)] w fun e w' => e = .returned (.int .i64 s.now) ∧ w' = w := by
  obtain ⟨d0, d1⟩ := h.head
  clear h
  go_enter Try.func15, Try.ntmps15
  go_wp2_with fail
  go_ret
  exact ⟨rfl, rfl⟩
theorem now15_nil (w : World) : Calls Try.prog 15 #[.pointer none] w fun e w' => e = .returned (.int .i64 0) ∧ w' = w := by
  go_enter Try.func15, Try.ntmps15
  go_wp2_with fail
  go_ret
  exact ⟨rfl, rfl⟩
theorem set19_nil (task : Int) (t : PTask) (w : World) : Calls Try.prog 19 #[.pointer none, .int .i64 task, taskV t] w fun e w' => e = .returned (.int .i64 1) ∧ Below w.heap.size w w' := by
  go_enter Try.func19, Try.ntmps19
  go_wp2_with fail
  go_ret
  exact ⟨rfl, (Below.refl _ _).alloc (Nat.le_refl _) _⟩

set_option maxRecDepth 100000 in
set_option maxHeartbeats 4000000 in
theorem set19 (p bl cap K : Nat) (G : Nat → Value) (s : PSt) (task : Int) (t : PTask) (w : World) (h : PlanAt w p bl cap G s) (hok : StOk K s) (hK : K ≤ 1000000000) (ht0 : -9223372036854775808 ≤ task) (ht1 : task ≤ 9223372036854775807) :
    Calls Try.prog 19 #[.pointer (some ⟨p, 0, none⟩), .int .i64 task, taskV t] w fun e w' => e = .returned (.int .i64 (setS s task t).2) ∧ RelI w p bl cap G (setS s task t).1 w' := by
  have hn := hok.n
  have hn0 := hok.now0
  have hn1 := hok.now1
  obtain ⟨d0, d1⟩ := h.head
  have hpl := h.lt p (.inl rfl)
  have HOK := Lib.hid hok
  have H := Lib.hid h
  clear h hok
  by_cases hc : task < 0 ∨ (s.l.length : Int) ≤ task
  · have hset : setS s task t = (s, 240) := by
      unfold setS
      rw [if_pos]
      omega
    rw [hset]
    have hr : RelI w p bl cap G s (w.alloc (.cells #[.int .i64 t.ev, .int .i64 t.lo, .int .i64 t.rk] 26)) :=
      ⟨⟨G, H.out.alloc _, fun x hx => .inl hx⟩, (Fr.refl _ _).alloc _⟩
    have HR := Lib.hid hr
    clear hr hset
    by_cases h0 : task < 0
    · go_enter Try.func19, Try.ntmps19
      go_wp2_with fail
      go_ret
      exact ⟨rfl, HR.out⟩
    · have h1 : (s.l.length : Int) ≤ task := by omega
      clear hc
      go_enter Try.func19, Try.ntmps19
      go_wp2_with fail
      go_ret
      exact ⟨rfl, HR.out⟩
  · have h0 : ¬ task < 0 := fun h => hc (.inl h)
    have h1 : ¬ (s.l.length : Int) ≤ task := fun h => hc (.inr h)
    obtain ⟨i, rfl⟩ : ∃ i : Nat, task = i := ⟨task.toNat, by omega⟩
    have hi : i < s.l.length := by omega
    clear hc
    go_enter Try.func19, Try.ntmps19
    go_wp2_with fail
    refine calls_gen (fun W => PlanAt W p bl cap G s ∧ Fr (own p bl G s.l.length) w W ∧ Bk W w.heap.size 26 #[.int .i64 t.ev, .int .i64 t.lo, .int .i64 t.rk]) ?_ ?_
    · exact ⟨H.out.alloc _, (Fr.refl _ _).alloc _, Bk.new w _ _⟩
    rintro W1 ⟨hp1, hf1, hb1⟩
    refine (may25 t W1).mono ?_
    rintro e W2 ⟨rfl, hbb⟩
    have hp2 := hp1.below hbb
    have hf2 := hf1.trans (Fr.of_below hbb (fun _ => False)) (fun _ h => h.elim)
    have hb2 := hb1.below hbb hb1.lt
    have hlp := hp2.lt p (.inl rfl)
    clear hp1 hf1 hb1 hbb d0 d1
    obtain ⟨d0, d1⟩ := hp2.head
    have HP2 := Lib.hid hp2
    have HF2 := Lib.hid hf2
    have HB2 := Lib.hid hb2
    clear hp2 hf2 hb2
    cases hm : mayB t
    · have HM := Lib.hid hm
      clear hm
      go_wp2_with fail
      go_ret
      have hset : setS s i t = (s, 240) := by
        unfold setS
        rw [if_pos (.inr (.inr HM.out))]
      rw [hset]
      exact ⟨rfl, ⟨G, HP2.out, fun x hx => .inl hx⟩, HF2.out⟩
    · have hset : setS s i t = ({ (release s.now s) with l := (release s.now s).l.set i { ((release s.now s).l.getD i ⟨⟨0, 0, 0⟩, 0, [], 0⟩) with t := t } }, 0) := by
        unfold setS
        rw [if_neg (by rw [hm]; simp; omega)]
        simp
      have HSET := Lib.hid hset
      clear hm hset
      go_wp2_with fail
      refine (release36 p bl cap K G s s.now W2 HP2.out HOK.out hK hn0 hn1).mono ?_
      rintro e W3 ⟨rfl, hr3⟩
      obtain ⟨⟨G3, hp3, ho3⟩, hf3⟩ := hr3
      have hlen := release_len s.now s
      rw [hlen] at ho3 hf3
      have hb3 := hf3.bk HB2.out (HP2.out.not_own HB2.out (by decide) (by decide) (by decide))
      have hf3' := HF2.out.trans hf3 (fun x hx => .inl hx)
      have hsz := HF2.out.size
      have ho3' : ∀ x, own p bl G3 s.l.length x → own p bl G s.l.length x ∨ w.heap.size ≤ x := fun x hx => (ho3 x hx).imp id (fun h => Nat.le_trans hsz h)
      generalize hs3 : release s.now s = s3 at *
      have hi3 : i < s3.l.length := by omega
      clear d0 d1
      obtain ⟨d0, d1⟩ := hp3.head
      obtain ⟨c0, c1, c2, c3, c4, c5⟩ := hp3.cells hi3
      rw [hlen] at d0
      have z0 := hp3.frozen (i * 6)
      have z1 := hp3.frozen (i * 6 + 1)
      have z2 := hp3.frozen (i * 6 + 2)
      have b0 := hb3.cell 0
      have b1 := hb3.cell 1
      have b2 := hb3.cell 2
      simp at b0 b1 b2
      have hin : (i : Int) < (s.l.length : Int) := by omega
      have ne := hp3.not_own hb3 (by decide) (by decide) (by decide)
      have ne1 : ¬ bl = w.heap.size := fun e => ne (.inr (.inl e.symm))
      have ne2 : ¬ bl = p := fun e => hp3.p_ne e.symm
      have HP3 := Lib.hid hp3
      have HF3 := Lib.hid hf3'
      have HO3 := Lib.hid ho3'
      have HL3 := Lib.hid hlen
      clear hp3 hf3 hf3' ho3 ho3' hb3 hs3 hlen ne
      go_upto_region 6 with fail
      go_region_held3 (fun w' => w'.cell? ⟨p, 0, none⟩ = some (.slice (some ⟨bl, 0, none⟩) s.l.length cap) ∧ w'.cell? ⟨w.heap.size, 0, none⟩ = some (.int .i64 t.ev) ∧ w'.cell? ⟨w.heap.size, 1, none⟩ = some (.int .i64 t.lo) ∧ w'.cell? ⟨w.heap.size, 2, none⟩ = some (.int .i64 t.rk))
        (first | go_keep)
        (first | fail)
      go_wp2_with fail
      go_ret
      rw [HSET.out]
      refine ⟨rfl, RelI.of (n := s.l.length) (by simp [HL3.out]) (((HP3.out.setTask hi3 t).drewN 1).congr ?_) HO3.out ((((HF3.out.setCell (p := ⟨bl, i * 6, none⟩) (.inl (.inr (.inl rfl))) _).setCell (p := ⟨bl, i * 6 + 1, none⟩) (.inl (.inr (.inl rfl))) _).setCell (p := ⟨bl, i * 6 + 2, none⟩) (.inl (.inr (.inl rfl))) _).drewN 1)⟩
      simp [List.getD_eq_getElem?_getD, List.getElem?_eq_getElem hi3]
end Go.Proofs.Ytcffjobefgecdaa
