/- Walks of the document's own plan: may a task be; which job is ahead; the best. -/
import Derived.Test.YtcffjobefgecdaaRf
namespace Go.Proofs.Ytcffjobefgecdaa.Ref
open Go.RowKit

set_option maxHeartbeats 400000 in
theorem may26 (t : PTask) (w : World) : Calls Try.prog 26 #[taskV t] w fun e w' => e = .returned (.bool (mayB t)) ∧ Below w.heap.size w w' := by
  have hb : Below w.heap.size w (w.alloc (.cells #[.int .i64 t.ev, .int .i64 t.lo, .int .i64 t.rk] 26)) := (Below.refl _ _).alloc (Nat.le_refl _) _
  unfold mayB
  by_cases h1 : 1 ≤ t.ev
  · by_cases h2 : t.ev ≤ 1099511627776
    · by_cases h3 : 1 ≤ t.lo
      · by_cases h4 : t.lo ≤ t.ev
        all_goals
          go_enter Try.func26, Try.ntmps26
          go_wp2
          go_ret
          exact ⟨ret_bool (by rw [Bool.eq_iff_iff]; simp; omega), hb⟩
      · go_enter Try.func26, Try.ntmps26
        go_wp2
        go_ret
        exact ⟨ret_bool (by rw [Bool.eq_iff_iff]; simp; omega), hb⟩
    · go_enter Try.func26, Try.ntmps26
      go_wp2
      go_ret
      exact ⟨ret_bool (by rw [Bool.eq_iff_iff]; simp; omega), hb⟩
  · go_enter Try.func26, Try.ntmps26
    go_wp2
    go_ret
    exact ⟨ret_bool (by rw [Bool.eq_iff_iff]; simp; omega), hb⟩

set_option maxHeartbeats 400000 in
theorem ahead48 (j k : PJob) (w : World) : Calls Try.prog 48 #[jobV j, jobV k] w fun e w' => e = .returned (.bool (beforeB j k)) ∧ Below w.heap.size w w' := by
  have hb : Below w.heap.size w ((w.alloc (.cells #[.int .i64 j.due, .int .i64 j.rank, .int .i64 j.task] 88)).alloc (.cells #[.int .i64 k.due, .int .i64 k.rank, .int .i64 k.task] 88)) := ((Below.refl _ _).alloc (Nat.le_refl _) _).alloc (by simp) _
  by_cases h1 : j.due = k.due
  · have b1 : (j.due != k.due) = false := by simp [h1]
    by_cases h2 : j.rank = k.rank
    · have b2 : (j.rank != k.rank) = false := by simp [h2]
      have E : beforeB j k = decide (j.task < k.task) := by simp [beforeB, h1, h2]
      have HE := Lib.hid E
      clear E h1 h2
      go_enter Try.func48, Try.ntmps48
      go_wp2
      go_ret
      exact ⟨ret_bool HE.out.symm, hb⟩
    · have b2 : (j.rank != k.rank) = true := by simp [h2]
      have E : beforeB j k = decide (k.rank < j.rank) := by simp [beforeB, h1, h2]
      have HE := Lib.hid E
      clear E h1 h2
      go_enter Try.func48, Try.ntmps48
      go_wp2
      go_ret
      exact ⟨ret_bool HE.out.symm, hb⟩
  · have b1 : (j.due != k.due) = true := by simp [h1]
    have E : beforeB j k = decide (j.due < k.due) := by simp [beforeB, h1]
    have HE := Lib.hid E
    clear E h1
    go_enter Try.func48, Try.ntmps48
    go_wp2
    go_ret
    exact ⟨ret_bool HE.out.symm, hb⟩

/-- The best so far, as the document keeps it. -/
def outJ (b : PJob) : PJob := if 0 ≤ b.task then b else ⟨0, 0, 0⟩
theorem firstTo_task (l : List PLine) (k : Nat) : 0 ≤ (firstTo l k).task ∨ (firstTo l k).task = -1 := by
  rcases firstTo_spec l k with ⟨h, _⟩ | ⟨i, _, hi, h, _⟩
  · exact .inr h
  · rw [h, jobOf_task]
    exact .inl (by omega)

set_option maxRecDepth 100000 in
set_option maxHeartbeats 4000000 in
theorem best47 (p bl cap : Nat) (G : Nat → Value) (s : PSt) (w : World) (h : PlanAt w p bl cap G s) (hn : s.l.length ≤ 256)
    (hok : ∀ x ∈ s.l, ∀ r ∈ x.wait, 0 ≤ r.first ∧ r.first ≤ 2305843009213693952 ∧ 1 ≤ r.t.ev ∧ r.t.ev ≤ 1099511627776) :
    Calls Try.prog 47 #[.pointer (some ⟨p, 0, none⟩)] w fun e w' => e = .returned (.tuple #[jobV (outJ (firstJ s.l)), .bool (decide (0 ≤ (firstJ s.l).task))]) ∧ Below w.heap.size w w' := by
  have hlp := h.lt p (.inl rfl)
  have H := Lib.hid h
  have HOK := Lib.hid hok
  clear h hok
  go_enter Try.func47, Try.ntmps47
  go_wp2_with fail
  go_loopw [5, 6, 7, 8] (fun f i _ _ wr => ∃ k : Nat, k ≤ s.l.length ∧ i = .int .i64 k ∧ f = .bool (decide (0 ≤ (firstTo s.l k).task)) ∧ PlanAt wr p bl cap G s ∧ Bk wr w.heap.size 88 (jobCells ⟨0, 0, 0⟩) ∧ Bk wr (w.heap.size + 1) 88 (jobCells (outJ (firstTo s.l k))) ∧ Below w.heap.size w wr) (fun _ i _ _ _ => s.l.length - (intOf i).toNat)
  case atStart =>
    refine ⟨0, by omega, rfl, rfl, (H.out.alloc _).alloc _, (Bk.new w _ _).alloc _, ?_, ((Below.refl _ _).alloc (Nat.le_refl _) _).alloc (by simp) _⟩
    have := Bk.new (w.alloc (Obj.cells #[Value.int IntKind.i64 0, Value.int IntKind.i64 0, Value.int IntKind.i64 0] 88)) 88 (jobCells ⟨0, 0, 0⟩)
    rw [World.size_alloc] at this
    exact this
  case round =>
    obtain ⟨k, hk, rfl, rfl, hpl, hk0, hk1, hbel⟩ := hrel
    obtain ⟨p0, p1⟩ := hpl.head
    have HPL := Lib.hid hpl
    have HK0 := Lib.hid hk0
    have HK1 := Lib.hid hk1
    have HBEL := Lib.hid hbel
    have hsz := hbel.size
    by_cases hlt : k < s.l.length
    · obtain ⟨c0, c1, c2, c3, c4, c5⟩ := hpl.cells hlt
      have hW := hpl.hw k hlt
      by_cases hne : s.l[k].wait = []
      · rcases hW with ⟨_, A, hv⟩ | ⟨g, off, c, ds, hv, hne', _⟩
        · rw [hv] at c4
          have e : firstTo s.l (k + 1) = firstTo s.l k := by
            rw [firstTo, List.getElem?_eq_getElem hlt]
            simp [stepFirst, hne]
          have HE := Lib.hid e
          clear hpl hk0 hk1 hbel e hv c0 c1 c2 c3 c5 hne
          go_wp2_with fail
          go_roundw
          case rel => exact ⟨k + 1, by omega, by go_num, by rw [HE.out], HPL.out, HK0.out, by rw [HE.out]; exact HK1.out, HBEL.out⟩
          case measure => simp [intOf]; omega
        · exact absurd hne hne'
      · obtain ⟨g, off, c, hv, hc, hg, hfz, hcell⟩ := hW.cells hne
        have hlen : 0 < s.l[k].wait.length := List.length_pos_iff.2 hne
        obtain ⟨r0, r1, r2, r3, r4⟩ := hcell 0 hlen
        simp only [Nat.zero_mul, Nat.add_zero] at r0 r1 r2 r3 r4
        obtain ⟨o1, o2, o3, o4⟩ := HOK.out s.l[k] (List.getElem_mem hlt) s.l[k].wait[0] (List.getElem_mem hlen)
        rw [hv] at c4
        have hj : jobOf k s.l[k] = ⟨s.l[k].wait[0].first + s.l[k].wait[0].t.ev, s.l[k].wait[0].t.rk, k⟩ := by
          unfold jobOf
          rw [List.headD_eq_head?_getD, List.head?_eq_getElem?, List.getElem?_eq_getElem hlen]
          rfl
        have hf : firstTo s.l (k + 1) = if (firstTo s.l k).task < 0 ∨ beforeB (jobOf k s.l[k]) (firstTo s.l k) = true then jobOf k s.l[k] else firstTo s.l k := by
          rw [firstTo, List.getElem?_eq_getElem hlt]
          simp [stepFirst, hne]
        rw [hj] at hf
        generalize s.l[k].wait[0] = r at *
        have hlg : g < wr.heap.size := (hW.lt g hg).1
        have hlp' := hpl.lt p (.inl rfl)
        have hlb := hpl.lt bl (.inr (.inl rfl))
        have z0 := hk1.frozen 0
        have z1 := hk1.frozen 1
        have z2 := hk1.frozen 2
        have hl1 := hk1.lt
        have gl : (0 : Int) < (s.l[k].wait.length : Int) := by omega
        have gl0 : ((s.l[k].wait.length : Int) == 0) = false := beq_eq_false_iff_ne.2 (by omega)
        have gl1 : (s.l[k].wait.length == 0) = false := beq_eq_false_iff_ne.2 (by omega)
        have HF := Lib.hid hf
        clear hpl hk0 hbel hf hj hv hW hcell hfz hne c0 c1 c2 c3 c5
        generalize s.l[k].wait.length = n at *
        have hno := fun W (h : PlanAt W p bl cap G s) (hb : Bk W (w.heap.size + 1) 88 (jobCells (outJ (firstTo s.l k)))) => h.not_own hb (by decide) (by decide) (by decide)
        have HNO := Lib.hid hno
        clear hno
        clear hk1 z0 z1 z2
        go_upto_region 9 with fail
        refine wp_gen (fun W => PlanAt W p bl cap G s ∧ Bk W w.heap.size 88 (jobCells ⟨0, 0, 0⟩) ∧ Bk W (w.heap.size + 1) 88 (jobCells (outJ (firstTo s.l k))) ∧ Below w.heap.size w W ∧ Bk W (wr.heap.size + 1) 88 (jobCells ⟨r.first + r.t.ev, r.t.rk, k⟩)) ?_ ?_
        · refine ⟨(HPL.out.alloc _).alloc _, (HK0.out.alloc _).alloc _, (HK1.out.alloc _).alloc _, (HBEL.out.alloc hsz _).alloc (by simp; omega) _, ?_⟩
          have := Bk.new (wr.alloc (Obj.cells #[Value.int IntKind.i64 r.first, Value.int IntKind.i64 r.count, Value.int IntKind.i64 r.t.ev, Value.int IntKind.i64 r.t.lo, Value.int IntKind.i64 r.t.rk] 108)) 88 (jobCells ⟨r.first + r.t.ev, r.t.rk, k⟩)
          rw [World.size_alloc] at this
          exact this
        rintro W ⟨hpW, h0W, h1W, hbW, hjW⟩
        have hnoW := HNO.out W hpW h1W
        have y0 := hjW.cell 0
        have y1 := hjW.cell 1
        have y2 := hjW.cell 2
        simp at y0 y1 y2
        have z0 := h1W.frozen 0
        have z1 := h1W.frozen 1
        have z2 := h1W.frozen 2
        have hl1 := h1W.lt
        have hne : w.heap.size + 1 ≠ w.heap.size := by omega
        have done : ∀ W, PlanAt W p bl cap G s → Bk W w.heap.size 88 (jobCells ⟨0, 0, 0⟩) → Bk W (w.heap.size + 1) 88 (jobCells (outJ (firstTo s.l k))) → Below w.heap.size w W → ∀ y : PJob, ∀ W2, W2 = ((W.setCell ⟨w.heap.size + 1, 0, none⟩ (.int .i64 y.due)).setCell ⟨w.heap.size + 1, 1, none⟩ (.int .i64 y.rank)).setCell ⟨w.heap.size + 1, 2, none⟩ (.int .i64 y.task) →
            PlanAt W2 p bl cap G s ∧ Bk W2 w.heap.size 88 (jobCells ⟨0, 0, 0⟩) ∧ Bk W2 (w.heap.size + 1) 88 (jobCells y) ∧ Below w.heap.size w W2 := by
          rintro W a b c d y W2 rfl
          have hn := HNO.out W a c
          refine ⟨((a.far (a := ⟨w.heap.size + 1, 0, none⟩) hn _).far (a := ⟨w.heap.size + 1, 1, none⟩) hn _).far (a := ⟨w.heap.size + 1, 2, none⟩) hn _, ((b.far (p := ⟨w.heap.size + 1, 0, none⟩) (by simp) _).far (p := ⟨w.heap.size + 1, 1, none⟩) (by simp) _).far (p := ⟨w.heap.size + 1, 2, none⟩) (by simp) _, ?_, ((d.setCell (p := ⟨w.heap.size + 1, 0, none⟩) (Nat.le_succ _) _).setCell (p := ⟨w.heap.size + 1, 1, none⟩) (Nat.le_succ _) _).setCell (p := ⟨w.heap.size + 1, 2, none⟩) (Nat.le_succ _) _⟩
          have := ((c.put 0 (.int .i64 y.due)).put 1 (.int .i64 y.rank)).put 2 (.int .i64 y.task)
          simpa using this
        have DONE := Lib.hid done
        have HPW := Lib.hid hpW
        have H0W := Lib.hid h0W
        have H1W := Lib.hid h1W
        have HBW := Lib.hid hbW
        have HJW := Lib.hid hjW
        clear hpW h0W hbW hjW done hnoW p0 p1 c4 r0 r1 r2 r3 r4
        by_cases ht : 0 ≤ (firstTo s.l k).task
        · have hto : outJ (firstTo s.l k) = firstTo s.l k := by unfold outJ; rw [if_pos ht]
          have hd : decide (0 ≤ (firstTo s.l k).task) = true := decide_eq_true ht
          rw [hto] at h1W
          have b0 := h1W.cell 0
          have b1 := h1W.cell 1
          have b2 := h1W.cell 2
          simp at b0 b1 b2
          have HTO := Lib.hid hto
          have HT := Lib.hid ht
          clear h1W hto ht
          generalize hb : firstTo s.l k = b at *
          have HB := Lib.hid hb
          clear hb
          go_wp2_with fail
          refine (ahead48 ⟨r.first + r.t.ev, r.t.rk, k⟩ b W).mono ?_
          rintro e W3 ⟨rfl, hb3⟩
          have HP3 := Lib.hid (HPW.out.below hb3)
          have H03 := Lib.hid (H0W.out.below hb3 H0W.out.lt)
          have h13 := H1W.out.below hb3 hl1
          have H13 := Lib.hid h13
          have HB3 := Lib.hid (below_to HBW.out hb3 HBW.out.size)
          have hj3 := HJW.out.below hb3 HJW.out.lt
          have x0 := hj3.cell 0
          have x1 := hj3.cell 1
          have x2 := hj3.cell 2
          simp at x0 x1 x2
          have v0 := h13.frozen 0
          have v1 := h13.frozen 1
          have v2 := h13.frozen 2
          have u0 := h13.cell 0
          have u1 := h13.cell 1
          have u2 := h13.cell 2
          simp at u0 u1 u2
          clear hb3 h13 hj3
          cases hbe : beforeB ⟨r.first + r.t.ev, r.t.rk, k⟩ b
          · have HBE := Lib.hid hbe
            clear hbe
            have hfe : firstTo s.l (k + 1) = b := by rw [HF.out, if_neg (by have := HT.out; rw [HBE.out]; intro h; rcases h with h | h; omega; cases h)]
            have HFE := Lib.hid hfe
            clear hfe
            go_wp2_with fail
            go_roundw
            case rel => exact ⟨k + 1, by omega, by go_num, by rw [HFE.out, decide_eq_true HT.out], HP3.out, H03.out, by rw [HFE.out]; exact H13.out, HB3.out⟩
            case measure => simp [intOf]; omega
          · have HBE := Lib.hid hbe
            clear hbe
            have hfe : firstTo s.l (k + 1) = ⟨r.first + r.t.ev, r.t.rk, k⟩ := by rw [HF.out, if_pos (.inr HBE.out)]
            have hoj : outJ (firstTo s.l (k + 1)) = ⟨r.first + r.t.ev, r.t.rk, k⟩ := by rw [hfe]; unfold outJ; rw [if_pos (by show (0 : Int) ≤ k; omega)]
            have HFE := Lib.hid hfe
            have HOJ := Lib.hid hoj
            clear hfe hoj
            go_wp2_with fail
            go_roundw
            case rel =>
              obtain ⟨d1, d2, d3, d4⟩ := DONE.out W3 HP3.out H03.out H13.out HB3.out ⟨r.first + r.t.ev, r.t.rk, k⟩ _ rfl
              exact ⟨k + 1, by omega, by go_num, by rw [HFE.out]; simp, d1, d2, by rw [HOJ.out]; exact d3, d4⟩
            case measure => simp [intOf]; omega
        · have hd : decide (0 ≤ (firstTo s.l k).task) = false := decide_eq_false ht
          have HT := Lib.hid ht
          have u0 := h1W.cell 0
          have u1 := h1W.cell 1
          have u2 := h1W.cell 2
          simp at u0 u1 u2
          clear h1W ht
          have hfe : firstTo s.l (k + 1) = ⟨r.first + r.t.ev, r.t.rk, k⟩ := by rw [HF.out, if_pos (.inl (by have := HT.out; omega))]
          have hoj : outJ (firstTo s.l (k + 1)) = ⟨r.first + r.t.ev, r.t.rk, k⟩ := by rw [hfe]; unfold outJ; rw [if_pos (by show (0 : Int) ≤ k; omega)]
          have HFE := Lib.hid hfe
          have HOJ := Lib.hid hoj
          clear hfe hoj
          go_wp2_with fail
          go_roundw
          case rel =>
            obtain ⟨d1, d2, d3, d4⟩ := DONE.out W HPW.out H0W.out H1W.out HBW.out ⟨r.first + r.t.ev, r.t.rk, k⟩ _ rfl
            exact ⟨k + 1, by omega, by go_num, by rw [HFE.out]; simp, d1, d2, by rw [HOJ.out]; exact d3, d4⟩
          case measure => simp [intOf]; omega
    · clear hpl hbel
      obtain rfl : k = s.l.length := by omega
      have b0 := hk1.cell 0
      have b1 := hk1.cell 1
      have b2 := hk1.cell 2
      have z0 := hk0.frozen 0
      have z1 := hk0.frozen 1
      have z2 := hk0.frozen 2
      simp at b0 b1 b2
      have hl0 := hk0.lt
      have y0 := hk0.cell 0
      have y1 := hk0.cell 1
      have y2 := hk0.cell 2
      simp at y0 y1 y2
      go_wp2_with fail
      refine bodyPost_ret (v := .tuple #[jobV (outJ (firstJ s.l)), .bool (decide (0 ≤ (firstJ s.l).task))]) ?_ rfl ⟨rfl, ?_⟩
      · have hbk := ((HK0.out.put 0 (.int .i64 (outJ (firstTo s.l s.l.length)).due)).put 1 (.int .i64 (outJ (firstTo s.l s.l.length)).rank)).put 2 (.int .i64 (outJ (firstTo s.l s.l.length)).task)
        have q0 := hbk.cell 0
        have q1 := hbk.cell 1
        have q2 := hbk.cell 2
        simp at q0 q1 q2
        simp [results, Try.results47, go_sem, q0, q1, q2, firstJ]
        exact decide_eq_decide.2 Iff.rfl
      · exact ((HBEL.out.setCell (p := ⟨w.heap.size, 0, none⟩) (Nat.le_refl _) _).setCell (p := ⟨w.heap.size, 1, none⟩) (Nat.le_refl _) _).setCell (p := ⟨w.heap.size, 2, none⟩) (Nat.le_refl _) _
end Go.Proofs.Ytcffjobefgecdaa.Ref
