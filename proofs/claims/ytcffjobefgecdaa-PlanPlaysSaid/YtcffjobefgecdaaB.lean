/- Walks: the job that runs; the earliest release; where a stretch ends. -/
import Derived.Test.YtcffjobefgecdaaA
namespace Go.Proofs.Ytcffjobefgecdaa
open Go.RowKit

abbrev jobCells (j : PJob) : Array Value := #[.int .i64 j.due, .int .i64 j.rank, .int .i64 j.task]

/-- A block of another element type is none of a plan's. -/
theorem PlanAt.not_own {w : World} {p bl cap : Nat} {G : Nat → Value} {s : PSt} (h : PlanAt w p bl cap G s) {k : Nat} {t : TypeId} {cs : Array Value} (hk : Bk w k t cs) (h1 : t ≠ 64) (h2 : t ≠ 68) (h3 : t ≠ 102) : ¬ own p bl G s.l.length k := by
  have ne : ∀ {g : Nat} {t' : TypeId} {cs' : Array Value}, Bk w g t' cs' → t ≠ t' → k ≠ g := by
    intro g t' cs' hg htt e
    subst e
    unfold Bk at hk hg
    rw [hk] at hg
    injection hg with hg
    injection hg with _ e2
    exact htt e2
  rintro (rfl | rfl | ⟨i, hi, hg⟩)
  · exact ne h.hp h1 rfl
  · obtain ⟨cs', hb, _⟩ := h.hb
    exact ne hb h2 rfl
  · obtain ⟨_, ds, hd⟩ := (h.hw i hi).lt k hg
    exact ne hd h3 rfl

theorem PlanAt.not_bl {w : World} {p bl cap : Nat} {G : Nat → Value} {s : PSt} (h : PlanAt w p bl cap G s) {t : TypeId} {cs : Array Value} (hk : Bk w bl t cs) (h2 : t ≠ 68) : False := by
  obtain ⟨cs', hb, _⟩ := h.hb
  unfold Bk at hk hb
  rw [hb] at hk
  injection hk with hk
  injection hk with _ e2
  exact h2 e2.symm
/-- What each step of the search keeps. -/
structure FirstI (w0 : World) (p bl cap : Nat) (G : Nat → Value) (s : PSt) (bb : Nat) (b : PJob) (w : World) : Prop where
  pl : PlanAt w p bl cap G s
  hb : Bk w bb 94 (jobCells b)
  fr : Fr (· = bb) w0 w

theorem FirstI.store {w0 : World} {p bl cap : Nat} {G : Nat → Value} {s : PSt} {bb : Nat} {b : PJob} {W : World} (pl : PlanAt W p bl cap G s) (hb : Bk W bb 94 (jobCells b)) (fr : Fr (· = bb) w0 W) (j : PJob) :
    FirstI w0 p bl cap G s bb j (((W.setCell ⟨bb, 0, none⟩ (.int .i64 j.due)).setCell ⟨bb, 1, none⟩ (.int .i64 j.rank)).setCell ⟨bb, 2, none⟩ (.int .i64 j.task)) := by
  have hno := pl.not_own hb (by decide) (by decide) (by decide)
  refine ⟨((pl.far (a := ⟨bb, 0, none⟩) hno _).far (a := ⟨bb, 1, none⟩) hno _).far (a := ⟨bb, 2, none⟩) hno _, ?_, ((fr.setCell (p := ⟨bb, 0, none⟩) (.inl rfl) _).setCell (p := ⟨bb, 1, none⟩) (.inl rfl) _).setCell (p := ⟨bb, 2, none⟩) (.inl rfl) _⟩
  have := ((hb.put 0 (.int .i64 j.due)).put 1 (.int .i64 j.rank)).put 2 (.int .i64 j.task)
  simpa using this

theorem FirstI.alloc {w0 : World} {p bl cap : Nat} {G : Nat → Value} {s : PSt} {bb : Nat} {b : PJob} {W : World} (h : FirstI w0 p bl cap G s bb b W) (o : Obj) : FirstI w0 p bl cap G s bb b (W.alloc o) :=
  ⟨h.pl.alloc o, h.hb.alloc o, h.fr.alloc o⟩

set_option maxHeartbeats 1000000 in
theorem first49 (w0 : World) (p bl cap : Nat) (G : Nat → Value) (s : PSt) (bb : Nat) (b : PJob) (w : World) (h : FirstI w0 p bl cap G s bb b w) (i : Nat) (hi : i < s.l.length)
    (hok : ∀ r ∈ s.l[i].wait, 0 ≤ r.first ∧ r.first ≤ 2305843009213693952 ∧ 1 ≤ r.t.ev ∧ r.t.ev ≤ 1099511627776) :
    Calls Try.prog 49 #[.int .i64 i, .pointer (some ⟨bl, i * 6, none⟩), .pointer (some ⟨bb, 0, none⟩)] w fun e w' => e = .returned (.tuple #[]) ∧ FirstI w0 p bl cap G s bb (stepFirst i s.l[i] b) w' := by
  obtain ⟨c0, c1, c2, c3, c4, c5⟩ := h.pl.cells hi
  obtain ⟨hpl, hbb, hfr⟩ := h
  have hW := hpl.hw i hi
  by_cases hne : s.l[i].wait = []
  · have hst : stepFirst i s.l[i] b = b := by simp [stepFirst, hne]
    rw [hst]
    rcases hW with ⟨_, A, hv⟩ | ⟨g, off, c, ds, hv, hne', _⟩
    · rw [hv] at c4
      clear hst hne hok
      have HPL := Lib.hid hpl
      clear hpl hv
      go_enter Try.func49, Try.ntmps49
      go_wp2
      refine bodyPost_ret (results_none rfl _ _ _) rfl ⟨rfl, ⟨HPL.out, hbb, hfr⟩⟩
    · exact absurd hne hne'
  · obtain ⟨g, off, c, hv, hc, hg, hfz, hcell⟩ := hW.cells hne
    have hlen : 0 < s.l[i].wait.length := List.length_pos_iff.2 hne
    obtain ⟨r0, r1, r2, r3, r4⟩ := hcell 0 hlen
    simp only [Nat.zero_mul, Nat.add_zero] at r0 r1 r2 r3 r4
    obtain ⟨k1, k2, k3, k4⟩ := hok s.l[i].wait[0] (List.getElem_mem hlen)
    rw [hv] at c4
    have hj : jobOf i s.l[i] = ⟨s.l[i].wait[0].first + s.l[i].wait[0].t.ev, s.l[i].wait[0].t.rk, i⟩ := by
      unfold jobOf
      rw [List.headD_eq_head?_getD, List.head?_eq_getElem?, List.getElem?_eq_getElem hlen]
      rfl
    generalize s.l[i].wait[0] = r at *
    have b0 := hbb.cell 0
    have b1 := hbb.cell 1
    have b2 := hbb.cell 2
    have f0 := hbb.frozen 0
    have f1 := hbb.frozen 1
    have f2 := hbb.frozen 2
    simp at b0 b1 b2
    have hlt := hpl.lt bl (.inr (.inl rfl))
    have hgl : g < w.heap.size := (hW.lt g hg).1
    have hbl := hbb.lt
    have hst : stepFirst i s.l[i] b = if b.task < 0 ∨ beforeB (jobOf i s.l[i]) b = true then jobOf i s.l[i] else b := by simp [stepFirst, hne]
    have gl : (0 : Int) < (s.l[i].wait.length : Int) := by omega
    have gl0 : ((s.l[i].wait.length : Int) == 0) = false := by simp; omega
    have HST := Lib.hid hst
    have HJ := Lib.hid hj
    have HPL := Lib.hid hpl
    have HFR := Lib.hid hfr
    have HBB := Lib.hid hbb
    clear hst hj hok hne hv hW hcell hpl hfr hbb c0 c1 c2 c3 c5
    generalize s.l[i].wait.length = n at *
    by_cases ht : b.task < 0
    · go_enter Try.func49, Try.ntmps49
      go_wp2
      go_end0
      refine ⟨rfl, ?_⟩
      rw [HST.out, if_pos (.inl ht), HJ.out]
      exact ((FirstI.store HPL.out HBB.out HFR.out ⟨r.first + r.t.ev, r.t.rk, i⟩).alloc _).alloc _
    · go_enter Try.func49, Try.ntmps49
      go_wp2_with fail
      obtain ⟨W, hWe⟩ : ∃ W, W = ((w.alloc (Obj.cells #[Value.int IntKind.i64 r.t.ev, Value.int IntKind.i64 r.t.lo, Value.int IntKind.i64 r.t.rk, Value.int IntKind.i64 r.first, Value.int IntKind.i64 r.count] 102)).alloc (Obj.cells #[Value.int IntKind.i64 (r.first + r.t.ev), Value.int IntKind.i64 r.t.rk, Value.int IntKind.i64 ↑i] 94)) := ⟨_, rfl⟩
      have pW : PlanAt W p bl cap G s := by rw [hWe]; exact (HPL.out.alloc _).alloc _
      have bW : Bk W bb 94 (jobCells b) := by rw [hWe]; exact (HBB.out.alloc _).alloc _
      have fW : Fr (· = bb) w0 W := by rw [hWe]; exact (HFR.out.alloc _).alloc _
      have jW : Bk W (w.heap.size + 1) 94 #[.int .i64 (r.first + r.t.ev), .int .i64 r.t.rk, .int .i64 i] := by rw [hWe]; have := Bk.new (w.alloc (Obj.cells #[Value.int IntKind.i64 r.t.ev, Value.int IntKind.i64 r.t.lo, Value.int IntKind.i64 r.t.rk, Value.int IntKind.i64 r.first, Value.int IntKind.i64 r.count] 102)) 94 #[Value.int IntKind.i64 (r.first + r.t.ev), Value.int IntKind.i64 r.t.rk, Value.int IntKind.i64 ↑i]; simpa using this
      rw [← hWe]
      clear hWe
      refine (before46 ⟨r.first + r.t.ev, r.t.rk, i⟩ b W).mono ?_
      rintro e w3 ⟨rfl, hb3⟩
      have p3 := pW.below hb3
      have b3 := bW.below hb3 bW.lt
      have f3 := fW.trans (Fr.of_below hb3 (fun _ => False)) (fun _ h => h.elim)
      have j3 := jW.below hb3 jW.lt
      have x0 := b3.cell 0
      have x1 := b3.cell 1
      have x2 := b3.cell 2
      have y0 := b3.frozen 0
      have y1 := b3.frozen 1
      have y2 := b3.frozen 2
      have z0 := j3.cell 0
      have z1 := j3.cell 1
      have z2 := j3.cell 2
      simp at x0 x1 x2 z0 z1 z2
      have P3 := Lib.hid p3
      have B3 := Lib.hid b3
      have F3 := Lib.hid f3
      clear pW bW fW jW hb3 p3 b3 f3 j3 b0 b1 b2 f0 f1 f2
      cases hbe : beforeB ⟨r.first + r.t.ev, r.t.rk, i⟩ b
      · have HBE := Lib.hid hbe
        clear hbe
        go_wp2_with fail
        go_end0
        refine ⟨rfl, ?_⟩
        rw [HST.out, HJ.out, HBE.out, if_neg (by simp [ht])]
        exact ⟨P3.out, B3.out, F3.out⟩
      · have HBE := Lib.hid hbe
        clear hbe
        go_wp2_with fail
        go_end0
        refine ⟨rfl, ?_⟩
        rw [HST.out, HJ.out, HBE.out, if_pos (.inr rfl)]
        exact FirstI.store P3.out B3.out F3.out _

set_option maxHeartbeats 1000000 in
theorem first42 (p bl cap : Nat) (G : Nat → Value) (s : PSt) (w : World) (h : PlanAt w p bl cap G s) (hn : s.l.length ≤ 256)
    (hok : ∀ x ∈ s.l, ∀ r ∈ x.wait, 0 ≤ r.first ∧ r.first ≤ 2305843009213693952 ∧ 1 ≤ r.t.ev ∧ r.t.ev ≤ 1099511627776) :
    Calls Try.prog 42 #[.pointer (some ⟨p, 0, none⟩)] w fun e w' => e = .returned (jobV (firstJ s.l)) ∧ Below w.heap.size w w' := by
  have HPL := Lib.hid h
  have HOK := Lib.hid hok
  have hpl := h.lt p (.inl rfl)
  clear h hok
  go_enter Try.func42, Try.ntmps42
  go_wp2_with fail
  obtain ⟨W, hWe⟩ : ∃ W, W = ((w.alloc (Obj.cells #[Value.int IntKind.i64 0, Value.int IntKind.i64 0, Value.int IntKind.i64 0] 94)).alloc (Obj.cells #[Value.int IntKind.i64 0, Value.int IntKind.i64 0, Value.int IntKind.i64 (-1)] 94)) := ⟨_, rfl⟩
  have pW : PlanAt W p bl cap G s := by rw [hWe]; exact (HPL.out.alloc _).alloc _
  have rW : Bk W w.heap.size 94 (jobCells ⟨0, 0, 0⟩) := by rw [hWe]; exact (Bk.new w _ _).alloc _
  have bW : Bk W (w.heap.size + 1) 94 (jobCells ⟨0, 0, -1⟩) := by rw [hWe]; have := Bk.new (w.alloc (Obj.cells #[Value.int IntKind.i64 0, Value.int IntKind.i64 0, Value.int IntKind.i64 0] 94)) 94 (jobCells ⟨0, 0, -1⟩); simpa using this
  have zW : W.heap.size = w.heap.size + 2 := by rw [hWe]; simp
  have lW : Below w.heap.size w W := by rw [hWe]; exact ((Below.refl _ _).alloc (Nat.le_refl _) _).alloc (by simp) _
  rw [← hWe]
  clear hWe
  refine (each43_49 (.pointer (some ⟨w.heap.size + 1, 0, none⟩)) p bl cap s.l.length (fun i W' => FirstI W p bl cap G s (w.heap.size + 1) (firstTo s.l i) W') W ⟨pW, bW, Fr.refl _ _⟩ (fun i W' h => h.pl.head.1) hn ?_).mono ?_
  · intro i W' hi hI
    refine (first49 W p bl cap G s (w.heap.size + 1) (firstTo s.l i) W' hI i hi (fun r hr => HOK.out _ (List.getElem_mem hi) r hr)).mono ?_
    rintro e w2 ⟨he, h2⟩
    refine ⟨he, ?_⟩
    have e1 : firstTo s.l (i + 1) = stepFirst i s.l[i] (firstTo s.l i) := by rw [firstTo, List.getElem?_eq_getElem hi]
    show FirstI W p bl cap G s (w.heap.size + 1) (firstTo s.l (i + 1)) w2
    rw [e1]
    exact h2
  · rintro e w3 ⟨rfl, h3⟩
    have b3 := h3.hb
    have r3 := h3.fr.bk rW (by omega)
    have x0 := b3.cell 0
    have x1 := b3.cell 1
    have x2 := b3.cell 2
    have y0 := r3.cell 0
    have y1 := r3.cell 1
    have y2 := r3.cell 2
    have z0 := r3.frozen 0
    have z1 := r3.frozen 1
    have z2 := r3.frozen 2
    simp at x0 x1 x2 y0 y1 y2
    have B3 := Lib.hid b3
    have R3 := Lib.hid r3
    have hB : Below w.heap.size w w3 := lW.trans (h3.fr.below (fun x hx => by omega) (by omega))
    have HB := Lib.hid hB
    clear b3 r3 h3 hB rW bW pW lW
    generalize hj : firstTo s.l s.l.length = j at *
    have HJ := Lib.hid hj
    clear hj
    go_wp2_with fail
    refine bodyPost_ret (v := jobV j) ?_ rfl ⟨by rw [← HJ.out]; rfl, ?_⟩
    · have hF : Bk (((w3.setCell ⟨w.heap.size, 0, none⟩ (.int .i64 j.due)).setCell ⟨w.heap.size, 1, none⟩ (.int .i64 j.rank)).setCell ⟨w.heap.size, 2, none⟩ (.int .i64 j.task)) w.heap.size 94 (jobCells j) := by
        have := ((R3.out.put 0 (.int .i64 j.due)).put 1 (.int .i64 j.rank)).put 2 (.int .i64 j.task)
        simpa using this
      have q0 := hF.cell 0
      have q1 := hF.cell 1
      have q2 := hF.cell 2
      simp at q0 q1 q2
      simp [results, Try.results42, go_sem, q0, q1, q2]
    · exact ((HB.out.setCell (p := ⟨w.heap.size, 0, none⟩) (Nat.le_refl _) _).setCell (p := ⟨w.heap.size, 1, none⟩) (Nat.le_refl _) _).setCell (p := ⟨w.heap.size, 2, none⟩) (Nat.le_refl _) _
end Go.Proofs.Ytcffjobefgecdaa
