/- Walks of the document's Now and Set. -/
import Derived.Test.YtcffjobefgecdaaRh
namespace Go.Proofs.Ytcffjobefgecdaa.Ref
open Go.RowKit

theorem now16 (p bl cap : Nat) (G : Nat → Value) (s : PSt) (w : World) (h : PlanAt w p bl cap G s) :
    Calls Try.prog 16 #[.pointer (some ⟨p, 0, none⟩)] w fun e w' => e = .returned (.int .i64 s.now) ∧ w' = w := by
  obtain ⟨d0, d1⟩ := h.head
  clear h
  go_enter Try.func16, Try.ntmps16
  go_wp2_with fail
  go_ret
  exact ⟨rfl, rfl⟩
set_option maxRecDepth 100000 in
set_option maxHeartbeats 4000000 in
theorem set28 (p bl cap K : Nat) (G : Nat → Value) (s : PSt) (task : Int) (t : PTask) (w : World) (h : PlanAt w p bl cap G s) (hok : StOk K s) (hK : K ≤ 1000000000) (ht0 : -9223372036854775808 ≤ task) (ht1 : task ≤ 9223372036854775807) :
    Calls Try.prog 28 #[.pointer (some ⟨p, 0, none⟩), .int .i64 task, taskV t] w fun e w' => e = .returned (.int .i64 (setS s task t).2) ∧ RelI w p bl cap G (setS s task t).1 w' := by
  have hn := hok.n
  have hn0 := hok.now0
  have hn1 := hok.now1
  obtain ⟨d0, d1⟩ := h.head
  have hpl := h.lt p (.inl rfl)
  have HOK := Lib.hid hok
  have H := Lib.hid h
  clear h hok
  by_cases hc : task < 0 ∨ (s.l.length : Int) ≤ task
  · have hset : setS s task t = (s, 240) := by
      unfold setS
      rw [if_pos]
      omega
    rw [hset]
    have hr : RelI w p bl cap G s (w.alloc (.cells #[.int .i64 t.ev, .int .i64 t.lo, .int .i64 t.rk] 26)) :=
      ⟨⟨G, H.out.alloc _, fun x hx => .inl hx⟩, (Fr.refl _ _).alloc _⟩
    have HR := Lib.hid hr
    clear hr hset
    by_cases h0 : task < 0
    · go_enter Try.func28, Try.ntmps28
      go_wp2_with fail
      go_ret
      exact ⟨rfl, HR.out⟩
    · have h1 : (s.l.length : Int) ≤ task := by omega
      clear hc
      go_enter Try.func28, Try.ntmps28
      go_wp2_with fail
      go_ret
      exact ⟨rfl, HR.out⟩
  · have h0 : ¬ task < 0 := fun h => hc (.inl h)
    have h1 : ¬ (s.l.length : Int) ≤ task := fun h => hc (.inr h)
    obtain ⟨i, rfl⟩ : ∃ i : Nat, task = i := ⟨task.toNat, by omega⟩
    have hi : i < s.l.length := by omega
    clear hc
    go_enter Try.func28, Try.ntmps28
    go_wp2_with fail
    refine calls_gen (fun W => PlanAt W p bl cap G s ∧ Fr (own p bl G s.l.length) w W ∧ Bk W w.heap.size 26 #[.int .i64 t.ev, .int .i64 t.lo, .int .i64 t.rk]) ?_ ?_
    · exact ⟨H.out.alloc _, (Fr.refl _ _).alloc _, Bk.new w _ _⟩
    rintro W1 ⟨hp1, hf1, hb1⟩
    refine (may26 t W1).mono ?_
    rintro e W2 ⟨rfl, hbb⟩
    have hp2 := hp1.below hbb
    have hf2 := hf1.trans (Fr.of_below hbb (fun _ => False)) (fun _ h => h.elim)
    have hb2 := hb1.below hbb hb1.lt
    have hlp := hp2.lt p (.inl rfl)
    clear hp1 hf1 hb1 hbb d0 d1
    obtain ⟨d0, d1⟩ := hp2.head
    have HP2 := Lib.hid hp2
    have HF2 := Lib.hid hf2
    have HB2 := Lib.hid hb2
    clear hp2 hf2 hb2
    cases hm : mayB t
    · have HM := Lib.hid hm
      clear hm
      go_wp2_with fail
      go_ret
      have hset : setS s i t = (s, 240) := by
        unfold setS
        rw [if_pos (.inr (.inr HM.out))]
      rw [hset]
      exact ⟨rfl, ⟨G, HP2.out, fun x hx => .inl hx⟩, HF2.out⟩
    · have hset : setS s i t = ({ (release s.now s) with l := (release s.now s).l.set i { ((release s.now s).l.getD i ⟨⟨0, 0, 0⟩, 0, [], 0⟩) with t := t } }, 0) := by
        unfold setS
        rw [if_neg (by rw [hm]; simp; omega)]
        simp
      have HSET := Lib.hid hset
      clear hm hset
      go_wp2_with fail
      refine (release40 p bl cap K G s s.now W2 HP2.out HOK.out hK hn0 hn1).mono ?_
      rintro e W3 ⟨rfl, hr3⟩
      obtain ⟨⟨G3, hp3, ho3⟩, hf3⟩ := hr3
      have hlen := release_len s.now s
      rw [hlen] at ho3 hf3
      have hb3 := hf3.bk HB2.out (HP2.out.not_own HB2.out (by decide) (by decide) (by decide))
      have hf3' := HF2.out.trans hf3 (fun x hx => .inl hx)
      have hsz := HF2.out.size
      have ho3' : ∀ x, own p bl G3 s.l.length x → own p bl G s.l.length x ∨ w.heap.size ≤ x := fun x hx => (ho3 x hx).imp id (fun h => Nat.le_trans hsz h)
      generalize hs3 : release s.now s = s3 at *
      have hi3 : i < s3.l.length := by omega
      clear d0 d1
      obtain ⟨d0, d1⟩ := hp3.head
      obtain ⟨c0, c1, c2, c3, c4, c5⟩ := hp3.cells hi3
      rw [hlen] at d0
      have z0 := hp3.frozen (i * 6)
      have z1 := hp3.frozen (i * 6 + 1)
      have z2 := hp3.frozen (i * 6 + 2)
      have b0 := hb3.cell 0
      have b1 := hb3.cell 1
      have b2 := hb3.cell 2
      simp at b0 b1 b2
      have hin : (i : Int) < (s.l.length : Int) := by omega
      have ne := hp3.not_own hb3 (by decide) (by decide) (by decide)
      have ne1 : ¬ bl = w.heap.size := fun e => ne (.inr (.inl e.symm))
      have ne2 : ¬ bl = p := fun e => hp3.p_ne e.symm
      have HP3 := Lib.hid hp3
      have HF3 := Lib.hid hf3'
      have HO3 := Lib.hid ho3'
      have HL3 := Lib.hid hlen
      clear hp3 hf3 hf3' ho3 ho3' hb3 hs3 hlen ne
      go_upto_region 6 with fail
      go_region_held3 (fun w' => w'.cell? ⟨p, 0, none⟩ = some (.slice (some ⟨bl, 0, none⟩) s.l.length cap) ∧ w'.cell? ⟨w.heap.size, 0, none⟩ = some (.int .i64 t.ev) ∧ w'.cell? ⟨w.heap.size, 1, none⟩ = some (.int .i64 t.lo) ∧ w'.cell? ⟨w.heap.size, 2, none⟩ = some (.int .i64 t.rk))
        (first | go_keep)
        (first | fail)
      go_wp2_with fail
      go_ret
      rw [HSET.out]
      refine ⟨rfl, RelI.of (n := s.l.length) (by simp [HL3.out]) (((HP3.out.setTask hi3 t).drewN 1).congr ?_) HO3.out ((((HF3.out.setCell (p := ⟨bl, i * 6, none⟩) (.inl (.inr (.inl rfl))) _).setCell (p := ⟨bl, i * 6 + 1, none⟩) (.inl (.inr (.inl rfl))) _).setCell (p := ⟨bl, i * 6 + 2, none⟩) (.inl (.inr (.inl rfl))) _).drewN 1)⟩
      simp [List.getD_eq_getElem?_getD, List.getElem?_eq_getElem hi3]

/-! A plan without tasks. -/
theorem now16_e (p : Nat) (now : Int) (w : World) (h : Bk w p 71 #[.slice none 0 0, .int .i64 now]) :
    Calls Try.prog 16 #[.pointer (some ⟨p, 0, none⟩)] w fun e w' => e = .returned (.int .i64 now) ∧ w' = w := by
  have d0 := h.cell 0
  have d1 := h.cell 1
  simp at d0 d1
  clear h
  go_enter Try.func16, Try.ntmps16
  go_wp2_with fail
  go_ret
  exact ⟨rfl, rfl⟩
set_option maxHeartbeats 1000000 in
theorem set28_e (p : Nat) (now task : Int) (t : PTask) (w : World) (h : Bk w p 71 #[.slice none 0 0, .int .i64 now]) :
    Calls Try.prog 28 #[.pointer (some ⟨p, 0, none⟩), .int .i64 task, taskV t] w fun e w' => e = .returned (.int .i64 240) ∧ Below w.heap.size w w' := by
  have d0 := h.cell 0
  have d1 := h.cell 1
  have hl := h.lt
  simp at d0 d1
  clear h
  by_cases h0 : task < 0
  · go_enter Try.func28, Try.ntmps28
    go_wp2_with fail
    go_ret
    exact ⟨rfl, (Below.refl _ _).alloc (Nat.le_refl _) _⟩
  · have h1 : 0 ≤ task := by omega
    go_enter Try.func28, Try.ntmps28
    go_wp2_with fail
    go_ret
    exact ⟨rfl, (Below.refl _ _).alloc (Nat.le_refl _) _⟩
set_option maxHeartbeats 1000000 in
theorem next27_e (p : Nat) (now : Int) (w : World) (h : Bk w p 71 #[.slice none 0 0, .int .i64 now]) :
    Calls Try.prog 27 #[.pointer (some ⟨p, 0, none⟩)] w fun e w' => e = .returned (.tuple #[slotV ⟨0, 0, 0, false⟩, .int .i64 240]) ∧ Below w.heap.size w w' := by
  have d0 := h.cell 0
  have hl := h.lt
  simp at d0
  clear h
  go_enter Try.func27, Try.ntmps27
  go_wp2_with fail
  refine bodyPost_ret (v := .tuple #[slotV ⟨0, 0, 0, false⟩, .int .i64 240]) (by simp [results, Try.results27, go_sem]) rfl ⟨rfl, ?_⟩
  exact (Below.refl _ _).alloc (Nat.le_refl _) _
end Go.Proofs.Ytcffjobefgecdaa.Ref
