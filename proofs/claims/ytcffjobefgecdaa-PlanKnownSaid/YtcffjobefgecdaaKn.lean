/- The walk of PlanKnown: the chapter's examples. (Its steps are printed by wip/tools/known.py.) -/
import Derived.Test.YtcffjobefgecdaaLa
namespace Go.Proofs.Ytcffjobefgecdaa
open Go.RowKit

abbrev kP : List PTask := [⟨2, 1, 0⟩, ⟨2, 1, 9⟩]
abbrev kQ : List PTask := [⟨2, 2, 0⟩, ⟨3, 1, 0⟩]
abbrev kR : List PTask := [⟨4, 2, 0⟩]
abbrev kT : List PTask := [⟨2, 1, 0⟩]
abbrev kU : List PTask := [uT0, uT1]
def kp1 : PSt := (nextS (newS kP)).1
def kp2 : PSt := (nextS kp1).1
def kq1 : PSt := (untilS (newS kQ) 6).1
def kr1 : PSt := (untilS (newS kR) 1).1
def kr2 : PSt := (untilS kr1 9).1
def ks1 : PSt := ⟨[], 5⟩
def kt1 : PSt := (untilS (newS kT) 1).1
def kt2 : PSt := (setS kt1 0 ⟨3, 1, 0⟩).1
def kt3 : PSt := (untilS kt2 9).1
def kt4 : PSt := (setS kt3 0 ⟨0, 0, 0⟩).1
def xT1 : List PSlot := (untilS (newS kT) 1).2
abbrev xC : List PSlot := [⟨0, 0, 2, false⟩, ⟨1, 2, 3, false⟩, ⟨0, 3, 5, true⟩, ⟨0, 5, 6, false⟩]
abbrev xD1 : List PSlot := [⟨0, 0, 1, false⟩]
abbrev xF : List PSlot := [⟨0, 1, 2, false⟩, ⟨0, 4, 6, false⟩, ⟨0, 8, 9, false⟩]
abbrev xI : List PSlot := [⟨0, 2, 3, false⟩, ⟨0, 5, 6, false⟩, ⟨0, 8, 9, false⟩]
theorem kn_p1 : nextS (newS kP) = (kp1, ⟨1, 0, 1, false⟩, 0) := by decide +kernel
theorem kn_p2 : nextS kp1 = (kp2, ⟨0, 1, 2, false⟩, 0) := by decide +kernel
theorem kn_q1 : untilS (newS kQ) 6 = (kq1, xC) := by decide +kernel
theorem kn_r1 : untilS (newS kR) 1 = (kr1, xD1) := by decide +kernel
theorem kn_r2 : untilS kr1 9 = (kr2, xF) := by decide +kernel
theorem kn_s1 : nextS (newS []) = (newS [], ⟨0, 0, 0, false⟩, 240) := by decide
theorem kn_s2 : loadS (newS []) = (0, 1) := by decide
theorem kn_s3 : untilS (newS []) 5 = (ks1, []) := by decide +kernel
theorem kn_s4 : untilS ks1 3 = (ks1, []) := by decide +kernel
theorem kn_now : ks1.now = 5 := rfl
theorem kn_t1 : untilS (newS kT) 1 = (kt1, xT1) := rfl
theorem kn_t2 : (setS kt1 0 ⟨3, 1, 0⟩).2 = 0 := by decide +kernel
theorem kn_t3 : untilS kt2 9 = (kt3, xI) := by decide +kernel
theorem kn_t4 : (setS kt3 0 ⟨0, 0, 0⟩).2 = 240 := by decide +kernel
theorem kokP0 : StOk 1 (newS kP) := newS_ok (by decide) (by decide)
theorem kokP1 : StOk 1 kp1 := nextS_ok kokP0
theorem kokQ0 : StOk 1 (newS kQ) := newS_ok (by decide) (by decide)
theorem kokR0 : StOk 1 (newS kR) := newS_ok (by decide) (by decide)
theorem kokR1 : StOk 1 kr1 := untilS_ok 1 kokR0
theorem kokS0 : StOk 1 (newS []) := newS_ok (by decide) (by decide)
theorem kokS1 : StOk 1 ks1 := by have := untilS_ok 5 kokS0; rw [kn_s3] at this; exact this
theorem kokT0 : StOk 1 (newS kT) := newS_ok (by decide) (by decide)
theorem kokT1 : StOk 1 kt1 := untilS_ok 1 kokT0
theorem kokT2 : StOk 2 kt2 := setS_ok 0 ⟨3, 1, 0⟩ kokT1
theorem kokT3 : StOk 2 kt3 := untilS_ok 9 kokT2
abbrev zeros : List PTask := List.replicate 257 ⟨0, 0, 0⟩
theorem zeros_at (n j : Nat) (u : Value) (h : (tasksL (List.replicate n ⟨0, 0, 0⟩))[j]? = some u) : u = .int .i64 0 := by
  obtain ⟨t, ht, hu⟩ := List.mem_flatMap.1 (List.mem_of_getElem? h)
  obtain ⟨_, rfl⟩ := List.mem_replicate.1 ht
  simpa using hu
theorem zeros_rd (w : World) : Rd (w.alloc (.cells (madeCells (Value.agg #[.int .i64 0, .int .i64 0, .int .i64 0]).cells (257 * 3)) 26)) (w.heap.size + 1) 3 (some ⟨w.heap.size, 0, none⟩) zeros.length (tasksL zeros) :=
  ⟨tasksL_len zeros, fun _ => ⟨w.heap.size, 0, rfl, Nat.lt_succ_self _, fun j u hu => by
    have hj := (List.getElem?_eq_some_iff.1 hu).1
    rw [tasksL_len] at hj
    rw [(Bk.new w 26 _).cell, Nat.zero_add, zeros_at 257 j u hu]
    unfold madeCells
    rw [Array.getElem?_map, Array.getElem?_range, if_pos (by simpa using hj)]
    simp only [Option.map_some]
    congr 1
    have : j % 3 = 0 ∨ j % 3 = 1 ∨ j % 3 = 2 := by omega
    rcases this with h | h | h <;> simp [Value.cells, h]⟩⟩

set_option maxRecDepth 100000 in
set_option maxHeartbeats 16000000 in
theorem known8 (w : World) : Calls Try.prog 8 #[] w fun e W' => e = .returned (.bool true) ∧ Below w.heap.size w W' := by
  obtain ⟨i26, hi, hz, hsz, hby⟩ := info_parts info26
  have hmk0 : ∀ W, (Instr.makeSlice 22 (.int .i64 257) (.int .i64 257)).run Try.prog W = .ok (.slice (some ⟨W.heap.size, 0, none⟩) 257 257) (W.alloc (.cells (madeCells (Value.agg #[.int .i64 0, .int .i64 0, .int .i64 0]).cells (257 * i26.size)) 26)) := fun W =>
    run_make_rowN (P := Try.prog) 22 26 i26 _ Try.underlying22 hi hz .i64 .i64 257 257 (Nat.le_refl _) (by rw [hby]; decide) (by decide) W
  rw [hsz] at hmk0
  obtain ⟨cs, hcs⟩ : ∃ cs, madeCells (Value.agg #[.int .i64 0, .int .i64 0, .int .i64 0]).cells (257 * 3) = cs := ⟨_, rfl⟩
  rw [hcs] at hmk0
  have HCS := Lib.hid hcs
  clear hi hz hsz hby hcs
  go_enter Try.func8, Try.ntmps8
  go_wp2_with fail
  refine ((new_is (Many.zero w) (l := kP) (by decide) (by decide))).mono ?_
  rintro e W1 ⟨p, rfl, hM, hb⟩
  have HM1 := Lib.hid (show Many w W1 [(newS kP, p)] from hM)
  clear hM hb
  go_wp2_with fail
  refine ((new_is HM1.out (l := kQ) (by decide) (by decide))).mono ?_
  rintro e W2 ⟨q, rfl, hM, hb⟩
  have HM2 := Lib.hid (show Many w W2 [(newS kP, p), (newS kQ, q)] from hM)
  clear hM hb
  go_wp2_with fail
  refine ((new_is HM2.out (l := kR) (by decide) (by decide))).mono ?_
  rintro e W3 ⟨r, rfl, hM, hb⟩
  have HM3 := Lib.hid (show Many w W3 [(newS kP, p), (newS kQ, q), (newS kR, r)] from hM)
  clear hM hb
  go_wp2_with fail
  refine ((new_many HM3.out (l := []) (A := none) (c := 0) (by decide) Rd.zero (Nat.le_refl _) (by decide))).mono ?_
  rintro e W4 ⟨s, rfl, hM, hb⟩
  have HM4 := Lib.hid (show Many w W4 [(newS kP, p), (newS kQ, q), (newS kR, r), (newS [], s)] from hM)
  clear hM hb
  go_wp2_with fail
  refine ((new_is HM4.out (l := kT) (by decide) (by decide))).mono ?_
  rintro e W5 ⟨t, rfl, hM, hb⟩
  have HM5 := Lib.hid (show Many w W5 [(newS kP, p), (newS kQ, q), (newS kR, r), (newS [], s), (newS kT, t)] from hM)
  clear hM hb
  go_wp2_with fail
  refine ((new_is HM5.out (l := kU) (by decide) (by decide))).mono ?_
  rintro e W6 ⟨u, rfl, hM, hb⟩
  have HM6 := Lib.hid (show Many w W6 [(newS kP, p), (newS kQ, q), (newS kR, r), (newS [], s), (newS kT, t), (newS kU, u)] from hM)
  clear hM hb
  go_wp2_with fail
  have hn := next_many HM6.out (i := 0) rfl kokP0 (by omega)
  rw [kn_p1] at hn
  refine hn.mono ?_
  rintro e W7 ⟨rfl, hM, hk⟩
  have HM7 := Lib.hid (show Many w W7 [(kp1, p), (newS kQ, q), (newS kR, r), (newS [], s), (newS kT, t), (newS kU, u)] from hM)
  clear hM hk hn
  go_wp2_with fail
  refine calls_gen (fun W => Many w W [(kp1, p), (newS kQ, q), (newS kR, r), (newS [], s), (newS kT, t), (newS kU, u)] ∧ Bk W W7.heap.size 42 (slotCells ⟨1, 0, 1, false⟩)) ?_ ?_
  · exact ⟨HM7.out.alloc _, Bk.new W7 _ _⟩
  rintro W8 ⟨hM, hka⟩
  have HM8 := Lib.hid hM
  clear hM
  have hn := next_many HM8.out (i := 0) rfl kokP1 (by omega)
  rw [kn_p2] at hn
  refine hn.mono ?_
  rintro e W9 ⟨rfl, hM, hk⟩
  have HM9 := Lib.hid (show Many w W9 [(kp2, p), (newS kQ, q), (newS kR, r), (newS [], s), (newS kT, t), (newS kU, u)] from hM)
  have hka := hk.slots hka
  have x0 := hka.cell 0
  have x1 := hka.cell 1
  have x2 := hka.cell 2
  have x3 := hka.cell 3
  simp at x0 x1 x2 x3
  have hal := hka.lt
  clear hM hk hn hka
  go_wp2_with fail
  refine calls_gen (fun W => Many w W [(kp2, p), (newS kQ, q), (newS kR, r), (newS [], s), (newS kT, t), (newS kU, u)]) (HM9.out.alloc _) ?_
  rintro W10 hM
  have HM10 := Lib.hid hM
  clear hM x0 x1 x2 x3 hal
  refine (until_is HM10.out (i := 1) rfl kokQ0 kn_q1 (by omega)).mono ?_
  rintro e W11 ⟨vc, rfl, ho, hM, hk, hlt⟩
  have HM11 := Lib.hid (show Many w W11 [(kp2, p), (kq1, q), (newS kR, r), (newS [], s), (newS kT, t), (newS kU, u)] from hM)
  have hz11 : w.heap.size ≤ W10.heap.size := HM10.out.base.size
  have hy11 : W10.heap.size ≤ W11.heap.size := hk.1
  have HC := Lib.hid ho
  clear hM ho hk hlt
  go_wp2_with fail
  refine (same_lit (xs := xC) HM11.out HC.out (by first | exact hz11 | omega) (by omega) (by decide)).mono ?_
  rintro e W12 ⟨rfl, hM, hg⟩
  have HM12 := Lib.hid hM
  have hy12 : W11.heap.size ≤ W12.heap.size := hg.size
  clear hM hg
  go_wp2_with fail
  refine (until_is HM12.out (i := 2) rfl kokR0 kn_r1 (by omega)).mono ?_
  rintro e W13 ⟨vd, rfl, ho, hM, hk, hlt⟩
  have HM13 := Lib.hid (show Many w W13 [(kp2, p), (kq1, q), (kr1, r), (newS [], s), (newS kT, t), (newS kU, u)] from hM)
  have hz13 : w.heap.size ≤ W12.heap.size := HM12.out.base.size
  have hy13 : W12.heap.size ≤ W13.heap.size := hk.1
  have HD := Lib.hid ho
  have HLD := Lib.hid hlt
  clear hM ho hk hlt
  go_wp2_with fail
  refine (until_is HM13.out (i := 2) rfl kokR1 kn_r2 (by omega)).mono ?_
  rintro e W14 ⟨vf, rfl, ho, hM, hk, hlt⟩
  have HM14 := Lib.hid (show Many w W14 [(kp2, p), (kq1, q), (kr2, r), (newS [], s), (newS kT, t), (newS kU, u)] from hM)
  have hz14 : w.heap.size ≤ W13.heap.size := HM13.out.base.size
  have hy14 : W13.heap.size ≤ W14.heap.size := hk.1
  have HD2 := Lib.hid (hk.row HD.out (by decide) (by decide) (by decide))
  have HF := Lib.hid ho
  clear hM ho hk hlt
  go_wp2_with fail
  refine (same_lit (xs := xD1) HM14.out HD2.out (by first | exact hz13 | omega) (by omega) (by decide)).mono ?_
  rintro e W15 ⟨rfl, hM, hg⟩
  have HM15 := Lib.hid hM
  have hy15 : W14.heap.size ≤ W15.heap.size := hg.size
  have HF2 := Lib.hid (keep_other HF.out hg HLD.out)
  clear hM hg
  go_wp2_with fail
  refine (same_lit (xs := xF) HM15.out HF2.out (by first | exact hz14 | omega) (by omega) (by decide)).mono ?_
  rintro e W16 ⟨rfl, hM, hg⟩
  have HM16 := Lib.hid hM
  have hy16 : W15.heap.size ≤ W16.heap.size := hg.size
  clear hM hg
  go_wp2_with fail
  have hn := next_many HM16.out (i := 3) rfl kokS0 (by omega)
  rw [kn_s1] at hn
  refine hn.mono ?_
  rintro e W17 ⟨rfl, hM, hk⟩
  have HM17 := Lib.hid (show Many w W17 [(kp2, p), (kq1, q), (kr2, r), (newS [], s), (newS kT, t), (newS kU, u)] from hM)
  clear hM hk hn
  go_wp2_with fail
  refine calls_gen (fun W => Many w W [(kp2, p), (kq1, q), (kr2, r), (newS [], s), (newS kT, t), (newS kU, u)]) (HM17.out.alloc _) ?_
  rintro W18 hM
  have HM18 := Lib.hid hM
  clear hM
  have hld := load_many HM18.out (i := 3) rfl kokS0
  rw [kn_s2] at hld
  refine hld.mono ?_
  rintro e W19 ⟨rfl, hM, hk⟩
  have HM19 := Lib.hid hM
  clear hM hk hld
  go_wp2_with fail
  refine (until_is HM19.out (i := 3) rfl kokS0 kn_s3 (by omega)).mono ?_
  rintro e W20 ⟨v5, rfl, ho, hM, hk, hlt⟩
  have HM20 := Lib.hid (show Many w W20 [(kp2, p), (kq1, q), (kr2, r), (ks1, s), (newS kT, t), (newS kU, u)] from hM)
  have hz20 : w.heap.size ≤ W19.heap.size := HM19.out.base.size
  have hy20 : W19.heap.size ≤ W20.heap.size := hk.1
  obtain ⟨A5, c5, rfl, _⟩ := Rd.own ho
  clear hM ho hk hlt
  go_wp2_with fail
  have hnw := now_many HM20.out (i := 3) rfl
  rw [kn_now] at hnw
  refine hnw.mono ?_
  rintro e Wx ⟨rfl, hWx⟩
  have hWy := hWx.symm
  subst hWy
  clear hnw hWx
  go_wp2_with fail
  refine (until_is HM20.out (i := 3) rfl kokS1 kn_s4 (by omega)).mono ?_
  rintro e W21 ⟨v6, rfl, ho, hM, hk, hlt⟩
  have HM21 := Lib.hid (show Many w W21 [(kp2, p), (kq1, q), (kr2, r), (ks1, s), (newS kT, t), (newS kU, u)] from hM)
  have hz21 : w.heap.size ≤ W20.heap.size := HM20.out.base.size
  have hy21 : W20.heap.size ≤ W21.heap.size := hk.1
  obtain ⟨A6, c6, rfl, _⟩ := Rd.own ho
  clear hM ho hk hlt
  go_wp2_with fail
  have hnw := now_many HM21.out (i := 3) rfl
  rw [kn_now] at hnw
  refine hnw.mono ?_
  rintro e Wx ⟨rfl, hWx⟩
  have hWy := hWx.symm
  subst hWy
  clear hnw hWx
  go_wp2_with fail
  refine (until_is HM21.out (i := 4) rfl kokT0 kn_t1 (by omega)).mono ?_
  rintro e W22 ⟨v7, rfl, ho, hM, hk, hlt⟩
  have HM22 := Lib.hid (show Many w W22 [(kp2, p), (kq1, q), (kr2, r), (ks1, s), (kt1, t), (newS kU, u)] from hM)
  have hz22 : w.heap.size ≤ W21.heap.size := HM21.out.base.size
  have hy22 : W21.heap.size ≤ W22.heap.size := hk.1
  clear hM ho hk hlt
  go_wp2_with fail
  have hs := set_many HM22.out (i := 4) rfl 0 ⟨3, 1, 0⟩ kokT1 (by omega) (by omega) (by omega)
  rw [kn_t2] at hs
  refine hs.mono ?_
  rintro e W23 ⟨rfl, hM, hk⟩
  have HM23 := Lib.hid (show Many w W23 [(kp2, p), (kq1, q), (kr2, r), (ks1, s), (kt2, t), (newS kU, u)] from hM)
  clear hM hk hs
  go_wp2_with fail
  refine (until_is HM23.out (i := 4) rfl kokT2 kn_t3 (by omega)).mono ?_
  rintro e W24 ⟨vi, rfl, ho, hM, hk, hlt⟩
  have HM24 := Lib.hid (show Many w W24 [(kp2, p), (kq1, q), (kr2, r), (ks1, s), (kt3, t), (newS kU, u)] from hM)
  have hz24 : w.heap.size ≤ W23.heap.size := HM23.out.base.size
  have hy24 : W23.heap.size ≤ W24.heap.size := hk.1
  have HI := Lib.hid ho
  clear hM ho hk hlt
  go_wp2_with fail
  refine (same_lit (xs := xI) HM24.out HI.out (by first | exact hz24 | omega) (by omega) (by decide)).mono ?_
  rintro e W25 ⟨rfl, hM, hg⟩
  have HM25 := Lib.hid hM
  have hy25 : W24.heap.size ≤ W25.heap.size := hg.size
  clear hM hg
  go_wp2_with fail
  have hs := set_many HM25.out (i := 4) rfl 0 ⟨0, 0, 0⟩ kokT3 (by omega) (by omega) (by omega)
  rw [kn_t4] at hs
  refine hs.mono ?_
  rintro e W26 ⟨rfl, hM, hk⟩
  have HM26 := Lib.hid (show Many w W26 [(kp2, p), (kq1, q), (kr2, r), (ks1, s), (kt4, t), (newS kU, u)] from hM)
  clear hM hk hs
  go_wp2_with fail
  refine (new_refused (l := [⟨0, 1, 0⟩]) (by decide) (Rd.tasksNew W26 _) (by simp) (by decide)).mono ?_
  rintro e W27 ⟨rfl, hb⟩
  have HM27 := Lib.hid ((HM26.out.alloc _).below hb)
  clear hb
  go_wp2_with fail
  refine (new_refused (l := [⟨2, 3, 0⟩]) (by decide) (Rd.tasksNew W27 _) (by simp) (by decide)).mono ?_
  rintro e W28 ⟨rfl, hb⟩
  have HM28 := Lib.hid ((HM27.out.alloc _).below hb)
  clear hb
  go_wp2_with fail
  refine (new_refused (l := [⟨1099511627777, 1, 0⟩]) (by decide) (Rd.tasksNew W28 _) (by simp) (by decide)).mono ?_
  rintro e W29 ⟨rfl, hb⟩
  have HM29 := Lib.hid ((HM28.out.alloc _).below hb)
  clear hb
  go_wp2_with fail
  refine (new_refused (l := zeros) (by decide) (HCS.out ▸ zeros_rd W29) (by simp) (by decide)).mono ?_
  rintro e W30 ⟨rfl, hb⟩
  have HM30 := Lib.hid ((HM29.out.alloc _).below hb)
  clear hb
  go_wp2_with fail
  refine (far23 w W30 u (HM30.out.pick (i := 5) rfl)).mono ?_
  rintro e X1 ⟨rfl, hb1⟩
  have HB1 := Lib.hid hb1
  clear hb1
  go_wp2_with fail
  refine (late24 X1).mono ?_
  rintro e X2 ⟨rfl, hb2⟩
  have HB2 := Lib.hid (below_to HB1.out hb2 HB1.out.size)
  clear hb2
  go_wp2_with fail
  refine (wakes9 X2).mono ?_
  rintro e X3 ⟨rfl, hb3⟩
  have HB3 := Lib.hid (below_to HB2.out hb3 HB2.out.size)
  clear hb3
  go_wp2_with fail
  go_ret
  exact ⟨rfl, HB3.out⟩
end Go.Proofs.Ytcffjobefgecdaa
