/- Walks: the two closures of a stretch. -/
import Derived.Test.YtcffjobefgecdaaB
import Derived.BigRegion
import Derived.RegionTactic
import Derived.Deep.RegionHeld3
namespace Go.Proofs.Ytcffjobefgecdaa
open Go.RowKit

/-- What each step of the look for a number keeps: the number stands in a block of its own. -/
structure NumI (w0 : World) (p bl cap : Nat) (G : Nat → Value) (s : PSt) (fb : Nat) (f : Int) (w : World) : Prop where
  pl : PlanAt w p bl cap G s
  hb : Bk w fb 2 #[.int .i64 f]
  fr : Fr (· = fb) w0 w
theorem NumI.store {w0 : World} {p bl cap : Nat} {G : Nat → Value} {s : PSt} {fb : Nat} {f : Int} {W : World} (h : NumI w0 p bl cap G s fb f W) (x : Int) :
    NumI w0 p bl cap G s fb x (W.setCell ⟨fb, 0, none⟩ (.int .i64 x)) := by
  have hno := h.pl.not_own h.hb (by decide) (by decide) (by decide)
  refine ⟨h.pl.far (a := ⟨fb, 0, none⟩) hno _, ?_, h.fr.setCell (p := ⟨fb, 0, none⟩) (.inl rfl) _⟩
  have := h.hb.put 0 (.int .i64 x)
  simpa using this
theorem NumI.below {w0 : World} {p bl cap : Nat} {G : Nat → Value} {s : PSt} {fb : Nat} {f : Int} {W W' : World} (h : NumI w0 p bl cap G s fb f W) (hb : Below W.heap.size W W') : NumI w0 p bl cap G s fb f W' :=
  ⟨h.pl.below hb, h.hb.below hb h.hb.lt, h.fr.trans (Fr.of_below hb (fun _ => False)) (fun _ h => h.elim)⟩
theorem NumI.drewN {w0 : World} {p bl cap : Nat} {G : Nat → Value} {s : PSt} {fb : Nat} {f : Int} {W : World} (h : NumI w0 p bl cap G s fb f W) (n : Nat) : NumI w0 p bl cap G s fb f (W.drewN n) :=
  ⟨h.pl.drewN n, h.hb.drewN n, h.fr.drewN n⟩

set_option maxHeartbeats 1000000 in
theorem min44 (w0 : World) (p bl cap : Nat) (G : Nat → Value) (s : PSt) (fb : Nat) (f : Int) (w : World) (h : NumI w0 p bl cap G s fb f w) (i : Nat) (hi : i < s.l.length) :
    Calls Try.prog 44 #[.int .i64 i, .pointer (some ⟨bl, i * 6, none⟩), .pointer (some ⟨fb, 0, none⟩)] w fun e w' => e = .returned (.tuple #[]) ∧ NumI w0 p bl cap G s fb (mn s.l[i].next f) w' := by
  obtain ⟨c0, c1, c2, c3, c4, c5⟩ := h.pl.cells hi
  have b0 := h.hb.cell 0
  have f0 := h.hb.frozen 0
  simp at b0
  have H := Lib.hid h
  clear h c0 c1 c2 c4 c5
  generalize s.l[i].next = x at *
  go_enter Try.func44, Try.ntmps44
  go_wp2
  go_region
  by_cases hx : x < f
  · have H2 := Lib.hid ((H.out.store x).drewN 1)
    go_wp2
    go_end0
    refine ⟨rfl, ?_⟩
    rw [mn, if_pos hx]
    exact H2.out
  · have H2 := Lib.hid ((H.out.store f).drewN 1)
    go_wp2
    go_end0
    refine ⟨rfl, ?_⟩
    rw [mn, if_neg (by omega)]
    exact H2.out

set_option maxHeartbeats 1000000 in
theorem end45 (w0 : World) (p bl cap : Nat) (G : Nat → Value) (s : PSt) (tb jb : Nat) (j : PJob) (to : Int) (w : World) (h : NumI w0 p bl cap G s tb to w) (hj : Bk w jb 94 (jobCells j)) (i : Nat) (hi : i < s.l.length)
    (hok : 0 ≤ s.l[i].next ∧ s.l[i].next ≤ 2305843009213693952 ∧ 1 ≤ s.l[i].t.ev ∧ s.l[i].t.ev ≤ 1099511627776) :
    Calls Try.prog 45 #[.int .i64 i, .pointer (some ⟨bl, i * 6, none⟩), .pointer (some ⟨jb, 0, none⟩), .pointer (some ⟨tb, 0, none⟩)] w fun e w' => e = .returned (.tuple #[]) ∧
      NumI w0 p bl cap G s tb (endStep i s.l[i] j to) w' ∧ Bk w' jb 94 (jobCells j) := by
  obtain ⟨c0, c1, c2, c3, c4, c5⟩ := h.pl.cells hi
  obtain ⟨k1, k2, k3, k4⟩ := hok
  have hW := h.pl.hw i hi
  have b0 := h.hb.cell 0
  have f0 := h.hb.frozen 0
  simp at b0
  have j0 := hj.cell 0
  have j1 := hj.cell 1
  have j2 := hj.cell 2
  simp at j0 j1 j2
  obtain ⟨A, c, hv⟩ := hW.len
  rw [hv] at c4
  have H := Lib.hid h
  have HJ := Lib.hid hj
  clear h hj hW hv
  by_cases hne : s.l[i].wait = []
  · have hl : s.l[i].wait.length = 0 := by rw [hne]; rfl
    rw [hl] at c4
    have hlb : bl < w.heap.size := H.out.pl.lt bl (.inr (.inl rfl))
    have hlj : jb < w.heap.size := HJ.out.lt
    have hnj : nextJob i s.l[i] = ⟨s.l[i].next + s.l[i].t.ev, s.l[i].t.rk, i⟩ := rfl
    have hne' : endStep i s.l[i] j to = if beforeB ⟨s.l[i].next + s.l[i].t.ev, s.l[i].t.rk, i⟩ j = true then mn s.l[i].next to else to := by rw [endStep, hnj]; simp [hne]
    have HNE := Lib.hid hne'
    clear hne hl hne' hnj
    generalize s.l[i].next = nx at *
    generalize s.l[i].t.ev = ev at *
    generalize s.l[i].t.rk = rk at *
    have hsum : IntKind.i64.wrap (nx + ev) = nx + ev := by rw [IntKind.wrap_i64]; omega
    go_enter Try.func45, Try.ntmps45
    go_wp2
    go_region_held3 (fun w' => w'.cell? ⟨bl, i * 6, none⟩ = some (.int .i64 ev) ∧ w'.cell? ⟨bl, i * 6 + 2, none⟩ = some (.int .i64 rk) ∧ w'.cell? ⟨bl, i * 6 + 3, none⟩ = some (.int .i64 nx) ∧ w'.cell? ⟨bl, i * 6 + 4, none⟩ = some (.slice A 0 c) ∧
        w'.cell? ⟨jb, 0, none⟩ = some (.int .i64 j.due) ∧ w'.cell? ⟨jb, 1, none⟩ = some (.int .i64 j.rank) ∧ w'.cell? ⟨jb, 2, none⟩ = some (.int .i64 j.task))
      (first
        | go_keep
        | (go_split_ands
           refine ⟨?_, ?_, ?_, ?_, ?_, ?_, ?_⟩
           all_goals (rw [hb3.cell (by simpa using by omega)]; assumption)))
      (first
        | (go_at_call 46; refine (before46 ⟨nx + ev, rk, i⟩ j _).mono ?_; rintro e w3 ⟨rfl, hb3⟩))
    have n3 := (H.out.drewN 1).below hb3
    have jj3 := (HJ.out.drewN 1).below hb3 (HJ.out.drewN 1).lt
    have t0 := n3.hb.cell 0
    have t1 := n3.hb.frozen 0
    have t2 : w3.cell? ⟨bl, i * 6 + 3, none⟩ = some (.int .i64 nx) := (hb3.cell (p := ⟨bl, i * 6 + 3, none⟩) (by simpa using hlb)).trans c3
    simp at t0
    have N3 := Lib.hid n3
    have J3 := Lib.hid jj3
    clear n3 jj3 hb3 c0 c1 c2 c3 c4 c5 b0 f0 j0 j1 j2
    cases hbe : beforeB ⟨nx + ev, rk, i⟩ j
    · have HBE := Lib.hid hbe
      clear hbe
      go_wp2
      go_end0
      refine ⟨rfl, ?_, J3.out⟩
      rw [HNE.out, HBE.out]
      exact N3.out
    · have HBE := Lib.hid hbe
      clear hbe
      go_wp2
      go_region
      have hno : jb ≠ tb := by
        rintro rfl
        have h1 := N3.out.hb
        have h2 := J3.out
        unfold Bk at h1 h2
        rw [h1] at h2
        injection h2 with h2
        injection h2 with _ h2
        cases h2
      by_cases hx : nx < to
      · have H2 := Lib.hid ((N3.out.store nx).drewN 1)
        have J4 := Lib.hid ((J3.out.far (p := ⟨tb, 0, none⟩) hno (.int .i64 nx)).drewN 1)
        go_wp2
        go_end0
        refine ⟨rfl, ?_, J4.out⟩
        rw [HNE.out, HBE.out, if_pos rfl, mn, if_pos hx]
        exact H2.out
      · have H2 := Lib.hid ((N3.out.store to).drewN 1)
        have J4 := Lib.hid ((J3.out.far (p := ⟨tb, 0, none⟩) hno (.int .i64 to)).drewN 1)
        go_wp2
        go_end0
        refine ⟨rfl, ?_, J4.out⟩
        rw [HNE.out, HBE.out, if_pos rfl, mn, if_neg (by omega)]
        exact H2.out
  · have hl : 0 < s.l[i].wait.length := List.length_pos_iff.2 hne
    have gl : ((s.l[i].wait.length : Int) == 0) = false := by simp; omega
    have gl2 : (s.l[i].wait.length == 0) = false := by simp; omega
    have hes : endStep i s.l[i] j to = to := by rw [endStep, if_neg (fun h => hne h.1)]
    rw [hes]
    clear hes
    generalize s.l[i].wait.length = n at *
    clear hne k1 k2 k3 k4
    go_enter Try.func45, Try.ntmps45
    go_wp2
    go_quiet (fail)
    go_wp2
    go_end0
    exact ⟨rfl, H.out.drewN _, HJ.out.drewN _⟩
end Go.Proofs.Ytcffjobefgecdaa
