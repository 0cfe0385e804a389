/- The walk of PlanInTime. -/
import Derived.Test.YtcffjobefgecdaaZ
import Derived.Test.YtcffjobefgecdaaMa
import Derived.StillTailTactics
namespace Go.Proofs.Ytcffjobefgecdaa
open Go.RowKit

theorem few_ok {most : Int} (h0 : 1 ≤ most) (h1 : most ≤ 100) (l : List PTask) : (∀ t ∈ fewS most l, mayB t = true) ∧ newR (fewS most l) = 0 ∧ (fewS most l).length ≤ 12 ∧ StOk 1 (newS (fewS most l)) := by
  have hm := fewS_may h0 h1 l
  have h12 : (fewS most l).length ≤ 12 := by rw [fewS_len]; omega
  have hmay : ∀ t ∈ fewS most l, mayB t = true := by
    intro t ht
    have := hm t ht
    simp only [mayB, Bool.and_eq_true, decide_eq_true_eq]
    omega
  refine ⟨hmay, ?_, h12, newS_ok (by omega) hmay⟩
  unfold newR
  rw [if_neg (by omega), if_pos (by rw [List.all_eq_true]; exact hmay)]
theorem TS.len {L : List AL} {s : PSt} {n : Nat} (h : TS L s n) : s.l.length = L.length := by
  have := congrArg List.length h.abs
  rw [List.length_map, Lat_len] at this
  exact this
theorem ini_len (l : List PTask) : (ini l).length = l.length := by simp [ini]
theorem near_all {F : List PTask} {c : Nat} (hm : ∀ t ∈ F, mayB t = true) (hc : ∀ t ∈ F, t.ev ≤ c ∧ t.lo ≤ c) (n : Nat) : ∀ y ∈ Lat (ini F) n, y.a ≤ n + c ∧ 0 ≤ y.u ∧ y.t.lo ≤ c := by
  intro y hy
  have hok := Lat_ok hm n y hy
  have ht : y.t ∈ (Lat (ini F) n).map (·.t) := List.mem_map_of_mem hy
  rw [Lat_t] at ht
  have hini : (ini F).map (·.t) = F := by simp [ini, Function.comp_def]
  rw [hini] at ht
  have := hc _ ht
  have := hok.a1
  have := hok.u0
  omega
theorem rem16 (x k : Int) (h0 : 0 < k) : -k < x.tmod k ∧ x.tmod k < k := ⟨Int.lt_tmod_of_pos x h0, Int.tmod_lt_of_pos x h0⟩

set_option maxRecDepth 100000 in
set_option maxHeartbeats 4000000 in
theorem inTime5 (B : Nat) (A1 A2 : Option Addr) (n1 c1 n2 c2 : Nat) (l : List PTask) (st : List Int) (w : World) (h1 : Rd w B 3 A1 n1 (tasksL l)) (h2 : Rd w B 1 A2 n2 (ints .i16 st)) (hB : B ≤ w.heap.size)
    (hn1 : n1 ≤ 9223372036854775807) (hn2 : n2 ≤ 9223372036854775807) (ht : ∀ t ∈ l, TB t) (hs : ∀ x ∈ st, -32768 ≤ x ∧ x ≤ 32767) :
    Calls Try.prog 5 #[.slice A1 n1 c1, .slice A2 n2 c2] w fun e w' => e = .returned (.bool true) ∧ Below w.heap.size w w' := by
  have HS := Lib.hid hs
  have H2 := Lib.hid h2
  clear hs h2
  go_enter Try.func5, Try.ntmps5
  go_wp2_with fail
  refine (few20 B A1 n1 c1 l 40 w h1 hB hn1 (by omega) (by omega) ht).mono ?_
  rintro e w1 ⟨v, rfl, hown, hb1⟩
  obtain ⟨f1, f2, f3, f4⟩ := few_ok (most := 40) (by omega) (by omega) l
  have f5 := fewS_may (most := 40) (by omega) (by omega) l
  generalize fewS 40 l = F at *
  obtain ⟨A, c, rfl, hrd⟩ := Rd.own hown
  have HF1 := Lib.hid f1
  have HF2 := Lib.hid f2
  have HF4 := Lib.hid f4
  have HF5 := Lib.hid f5
  have hM1 : Many w w1 [] := (Many.zero w).below hb1
  clear f1 f2 f4 f5 h1 ht hown hb1
  go_wp2_with fail
  refine (new_many hM1 HF2.out hrd (Nat.le_refl _) (by omega)).mono ?_
  rintro e w2 ⟨p, rfl, hM2, _⟩
  clear hM1 hrd
  have HM2 := Lib.hid (show Many w w2 [(newS F, p)] from hM2)
  clear hM2
  go_wp2_with fail
  refine (load_many HM2.out (i := 0) rfl HF4.out).mono ?_
  rintro e W ⟨rfl, hM3, _⟩
  have HM3 := Lib.hid hM3
  clear hM3 HM2
  obtain ⟨N, D, hND⟩ : ∃ N D, loadS (newS F) = (N, D) := ⟨_, _, rfl⟩
  have HND := Lib.hid hND
  rw [hND]
  clear hND
  by_cases hgo : 0 < F.length ∧ 1 ≤ D ∧ N ≤ D
  · obtain ⟨g1, g2, g3⟩ := hgo
    have b1 : ((F.length : Int) == 0) = false := beq_eq_false_iff_ne.2 (by omega)
    have b1' : (F.length == 0) = false := beq_eq_false_iff_ne.2 (by omega)
    have hU : Util (ini F) := util_of_load HF1.out (by rw [HND.out]; exact g2) (by rw [HND.out]; exact g3)
    have HU := Lib.hid hU
    clear hU
    go_wp2_with fail
    go_loopw [10, 11, 12, 13, 14] (fun i _ _ _ _ wr => ∃ (k m : Nat) (s : PSt), k ≤ n2 ∧ k ≤ 60 ∧ i = .int .i64 k ∧ Many w wr [(s, p)] ∧ StOk 1 s ∧ TS (ini F) s m ∧ m ≤ k * 80) (fun i _ _ _ _ _ => n2 - (intOf i).toNat)
    case atStart => exact ⟨0, 0, newS F, Nat.zero_le _, Nat.zero_le _, rfl, HM3.out, HF4.out, ts_new HF1.out, Nat.zero_le _⟩
    case round =>
      obtain ⟨k, m, s, hk, hk60, rfl, hM, hok, hts, hm⟩ := hrel
      by_cases hlt : k < n2 ∧ k < 60
      · obtain ⟨l1, l2⟩ := hlt
        have hbel := hM.base
        obtain ⟨b, off, rfl, hb, hz, hc⟩ := ((H2.out.below (hbel.mono hB))).atInt l1
        obtain ⟨s1, s2⟩ := HS.out _ (List.getElem_mem hz)
        have hbw : b < wr.heap.size := by have := hbel.size; omega
        have HM := Lib.hid hM
        have HOK := Lib.hid hok
        have HTS := Lib.hid hts
        generalize st[k] = x at *
        obtain ⟨r1, r2⟩ := rem16 x 2 (by omega)
        obtain ⟨r3, r4⟩ := rem16 x 50 (by omega)
        clear hM hok hts hbel
        by_cases hev : x.tmod 2 = 0
        · have e1 : (x.tmod 2 == 0) = true := by rw [hev]; rfl
          clear hev
          have hls : s.l ≠ [] := fun e => by have := HTS.out.len; rw [e, ini_len] at this; simp at this; omega
          have hall : ∀ n, ∀ y ∈ Lat (ini F) n, y.a ≤ n + (40 : Nat) ∧ 0 ≤ y.u ∧ y.t.lo ≤ (40 : Nat) := near_all HF1.out fun t ht => by have := HF5.out t ht; omega
          obtain ⟨m', q0, q1, q2, q3, q4, q5⟩ := nextS_ticks (b := m + 40) (c := 40) HTS.out hls (by omega) (fun y hy => by have := (hall m y hy).1; omega) (fun n y hy => (hall n y hy).2) (by omega)
          have hlate := not_late HF1.out HU.out q3
          have hok' := nextS_ok HOK.out
          have hnx := (next_many HM.out (i := 0) rfl HOK.out (by omega))
          obtain ⟨s', sl, er, hns⟩ : ∃ s' sl er, nextS s = (s', sl, er) := ⟨_, _, _, rfl⟩
          rw [hns] at q1 q2 q3 q4 hlate hok' hnx
          obtain ⟨tk, fr, tt, lt⟩ := sl
          obtain rfl : er = 0 := by assumption
          obtain rfl : lt = false := by assumption
          have HQ1 := Lib.hid q1
          have HOK' := Lib.hid hok'
          clear q3 q4 hns hall hls q1 hok'
          go_wp2_with fail
          refine hnx.mono ?_
          rintro e W1 ⟨rfl, hM1, _⟩
          have HM1 := Lib.hid hM1
          clear hM1 hnx
          go_wp2_with fail
          go_roundw
          case rel => exact ⟨k + 1, m', s', by omega, by omega, by go_num, HM1.out.alloc _, HOK'.out, HQ1.out, by omega⟩
          case measure => simp [intOf]; omega
        · have e1 : (x.tmod 2 == 0) = false := by simpa using hev
          clear hev
          go_wp2_with fail
          have hcd : wr.drew.cell? ⟨b, off + k, none⟩ = some (.int .i16 x) := hc
          have HMD := Lib.hid (show Many w wr.drew [(s, p)] from HM.out.drewN 1)
          have hnow := HTS.out.now
          have hnowc := (now_many HMD.out (i := 0) rfl)
          rw [hnow] at hnowc
          have HNC := Lib.hid hnowc
          have HNOW := Lib.hid hnow
          clear hnow hnowc
          go_still_tail 10, (by kernel_rfl)
          still_call (HNC.out)
          repeat still_step
          try refine wpStill_nil ?_
          change wpList _ _ _ _ _ wr.drew
          generalize wr.drew = w2 at *
          obtain ⟨m', q0, q1, q2, q3, q4⟩ := untilS_ticks (m + x.tmod 50) HTS.out (by omega) (by omega)
          have hlate : ∀ y ∈ (untilS s (m + x.tmod 50)).2, y.late = false := fun y hy => not_late HF1.out HU.out (q4 y hy)
          have hlen : (untilS s (m + x.tmod 50)).2.length ≤ 1000 := by have := q3.len; omega
          have hok' := untilS_ok (m + x.tmod 50) HOK.out
          have hun := until_many HMD.out (i := 0) rfl (m + x.tmod 50) HOK.out (by omega)
          obtain ⟨s', out, hus⟩ : ∃ s' out, untilS s (m + x.tmod 50) = (s', out) := ⟨_, _, rfl⟩
          rw [hus] at q2 hlate hlen hok' hun
          have HQ2 := Lib.hid q2
          have HLT := Lib.hid hlate
          have HOK' := Lib.hid hok'
          clear q2 q3 q4 hlate hok' hus
          go_wp2_with fail
          refine hun.mono ?_
          rintro e W1 ⟨v, rfl, hown, hM1, _⟩
          obtain ⟨A', c', rfl, hrd'⟩ := Rd.own hown
          have HM1 := Lib.hid hM1
          have HRD := Lib.hid hrd'
          clear hown hM1 hrd' hun
          go_wp2_with fail
          go_loop [14] (fun i => ∃ j : Nat, j ≤ out.length ∧ i = .int .i64 j) (fun i => out.length - (intOf i).toNat)
          case atStart => exact ⟨0, by omega, rfl⟩
          case round =>
            obtain ⟨j, hj, rfl⟩ := hrel
            by_cases hjl : j < out.length
            · obtain ⟨b', off', hjl', rfl, hb', x0, x1, x2, x3⟩ := HRD.out.slot hjl
              rw [HLT.out _ (List.getElem_mem hjl')] at x3
              clear x0 x1 x2
              go_wp2_with fail
              go_round
              case rel => exact ⟨j + 1, by omega, by go_num⟩
              case measure => simp [intOf]; omega
            · obtain rfl : j = out.length := by omega
              go_wp2_with fail
              go_roundw
              case rel => exact ⟨k + 1, m', s', by omega, by omega, by go_num, HM1.out, HOK'.out, HQ2.out, by omega⟩
              case measure => simp [intOf]; omega
      · have HM := Lib.hid hM
        clear hM hok hts
        by_cases l1 : k < n2
        · obtain rfl : k = 60 := by omega
          go_wp2_with fail
          refine (wakes9 wr).mono ?_
          rintro e W1 ⟨rfl, hb⟩
          go_wp2_with fail
          go_ret
          exact ⟨rfl, (HM.out.below hb).base⟩
        · go_wp2_with fail
          refine (wakes9 wr).mono ?_
          rintro e W1 ⟨rfl, hb⟩
          go_wp2_with fail
          go_ret
          exact ⟨rfl, (HM.out.below hb).base⟩
  · by_cases g1 : 0 < F.length
    · have b1 : ((F.length : Int) == 0) = false := beq_eq_false_iff_ne.2 (by omega)
      have b1' : (F.length == 0) = false := beq_eq_false_iff_ne.2 (by omega)
      by_cases g2 : 1 ≤ D
      · have g3 : D < N := by omega
        go_wp2_with fail
        refine (wakes9 W).mono ?_
        rintro e W1 ⟨rfl, hb⟩
        go_wp2_with fail
        go_ret
        exact ⟨rfl, (HM3.out.below hb).base⟩
      · have g3 : D < 1 := by omega
        go_wp2_with fail
        refine (wakes9 W).mono ?_
        rintro e W1 ⟨rfl, hb⟩
        go_wp2_with fail
        go_ret
        exact ⟨rfl, (HM3.out.below hb).base⟩
    · have b1 : ((F.length : Int) == 0) = true := beq_iff_eq.2 (by omega)
      have b1' : (F.length == 0) = true := beq_iff_eq.2 (by omega)
      go_wp2_with fail
      refine (wakes9 W).mono ?_
      rintro e W1 ⟨rfl, hb⟩
      go_wp2_with fail
      go_ret
      exact ⟨rfl, (HM3.out.below hb).base⟩
end Go.Proofs.Ytcffjobefgecdaa
