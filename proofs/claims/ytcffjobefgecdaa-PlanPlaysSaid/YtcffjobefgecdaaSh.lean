/- The walk of PlanShares. -/
import Derived.Test.YtcffjobefgecdaaFm
import Derived.Deep.CutBlock
namespace Go.Proofs.Ytcffjobefgecdaa
open Go.RowKit

theorem load_small {l : List PLine} (hm : ∀ x ∈ l, 1 ≤ x.t.ev ∧ x.t.ev ≤ 7 ∧ 1 ≤ x.t.lo ∧ x.t.lo ≤ x.t.ev) : ∀ k, k ≤ l.length → k ≤ 5 → ∃ n d, loadTo l k = some (n, d) ∧ 1 ≤ d ∧ d ≤ 7 ^ k ∧ n ≤ k * 7 ^ k := by
  intro k
  induction k with
  | zero => exact fun _ _ => ⟨0, 1, rfl, by omega, by simp, by simp⟩
  | succ k ih =>
    intro hk h5
    obtain ⟨n, d, h1, h2, h3, h4⟩ := ih (by omega) (by omega)
    obtain ⟨m1, m2, m3, m4⟩ := hm _ (List.getElem_mem (show k < l.length by omega))
    have e : loadTo l (k + 1) = loadStep n d l[k].t := by rw [loadTo, h1, List.getElem?_eq_getElem (by omega)]
    rw [e]
    have hev : 1 ≤ l[k].t.ev.toNat ∧ l[k].t.ev.toNat ≤ 7 := by omega
    have hlo : l[k].t.lo.toNat ≤ 7 := by omega
    obtain ⟨v1, v2⟩ := hev
    unfold loadStep
    simp only
    generalize l[k].t.ev.toNat = ev at *
    generalize l[k].t.lo.toNat = lo at *
    have hg : 0 < Nat.gcd d ev := Nat.gcd_pos_of_pos_left _ h2
    have q1 : d / Nat.gcd d ev ≤ d := Nat.div_le_self _ _
    have q2 : ev / Nat.gcd d ev ≤ 7 := Nat.le_trans (Nat.div_le_self _ _) v2
    have q0 : 1 ≤ d / Nat.gcd d ev := Nat.div_pos (Nat.gcd_le_left _ h2) hg
    generalize d / Nat.gcd d ev = dg at *
    generalize ev / Nat.gcd d ev = eg at *
    have p7 : 7 ^ k ≤ 2401 := by
      have := Nat.pow_le_pow_right (show 0 < 7 by omega) (show k ≤ 4 by omega)
      omega
    have r1 : dg * ev ≤ d * 7 := Nat.mul_le_mul q1 v2
    have r2 : n * eg ≤ n * 7 := Nat.mul_le_mul_left _ q2
    have r3 : lo * dg ≤ 7 * d := Nat.mul_le_mul hlo q1
    have r4 : k * 7 ^ k ≤ 4 * 2401 := Nat.mul_le_mul (by omega) p7
    have r0 : 1 ≤ dg * ev := Nat.mul_pos q0 v1
    rw [if_pos (by omega)]
    refine ⟨_, _, rfl, ?_, ?_, ?_⟩
    · exact Nat.div_pos (Nat.gcd_le_left _ r0) (Nat.gcd_pos_of_pos_left _ r0)
    · refine Nat.le_trans (Nat.div_le_self _ _) ?_
      rw [Nat.pow_succ]
      omega
    · refine Nat.le_trans (Nat.div_le_self _ _) ?_
      rw [Nat.pow_succ, ← Nat.mul_assoc, Nat.add_mul, Nat.add_mul]
      omega

theorem Rd.ownC {w : World} {base sz n : Nat} {e : TypeId} {v : Value} {xs : List Value} (h : w.ownsRow base e sz v n xs) : ∃ A c, v = .slice A n c ∧ Rd w w.heap.size sz A n xs ∧ n ≤ c := by
  obtain ⟨A, c, rfl, hr⟩ := Rd.own h
  refine ⟨A, c, rfl, hr, ?_⟩
  rcases h.2 with ⟨h1, _⟩ | ⟨g, cap, cur, h1, hb, hg, hn, hc, hs, ht⟩
  · injection h1 with _ h2 h3
    omega
  · injection h1 with _ h2 h3
    omega
theorem tasksL_take (l : List PTask) (k : Nat) : tasksL (l.take k) = (tasksL l).take (k * 3) := by
  unfold tasksL
  induction l generalizing k with
  | nil => simp
  | cons a t ih =>
    cases k with
    | zero => simp
    | succ k =>
      simp only [List.take_succ_cons, List.flatMap_cons, ih]
      rw [List.take_append]
      simp
      have e : (k + 1) * 3 = k * 3 + 3 := by omega
      rw [e, Nat.add_sub_cancel, List.take_of_length_le (l := taskL a) (by simp)]
      rfl
theorem Rd.takeT {w : World} {B n : Nat} {A : Option Addr} {l : List PTask} (h : Rd w B 3 A n (tasksL l)) (k : Nat) (hk : k ≤ n) : Rd w B 3 A k (tasksL (l.take k)) := by
  have hl := h.1
  rw [tasksL_len] at hl
  refine ⟨by rw [tasksL_len]; simp; omega, fun hn => ?_⟩
  obtain ⟨b, off, e, hb, hc⟩ := h.2 (by omega)
  refine ⟨b, off, e, hb, fun j u hu => hc j u ?_⟩
  rw [tasksL_take, List.getElem?_take] at hu
  split at hu
  · exact hu
  · cases hu
theorem wt_eq (L : List AL) (q i : Nat) : (wt L q == (i : Int)) = decide (Wat L q = some i) := by
  unfold wt
  cases h : Wat L q with
  | none => simp
  | some j =>
    simp only [Option.some.injEq]
    rw [Bool.eq_iff_iff]
    simp only [beq_iff_eq, decide_eq_true_eq]
    omega
/-- Each task's ticks in each of its periods. -/
theorem share_ok {F : List PTask} (hm : ∀ t ∈ F, mayB t = true) (hu : Util (ini F)) {i : Nat} (hi : i < F.length) {c f e : Nat} (he : F[i].ev = e) (hf : f = c * e) : (hasT (ini F) i f e : Int) = F[i].lo := by
  have hi' : ∀ m, i < (Lat (ini F) m).length := fun m => by rw [Lat_len, ini_len]; exact hi
  have ht : ∀ m, ((Lat (ini F) m)[i]'(hi' _)).t = F[i] := by
    intro m
    have h1 := Lat_t (ini F) m
    have hini : (ini F).map (·.t) = F := by simp [ini, Function.comp_def]
    rw [hini] at h1
    have h2 : ((Lat (ini F) m).map (·.t))[i]? = F[i]? := by rw [h1]
    rw [List.getElem?_map, List.getElem?_eq_getElem (hi' m), List.getElem?_eq_getElem hi] at h2
    injection h2
  obtain ⟨a1, a2, a3, a4⟩ := may_spec (hm _ (List.getElem_mem hi))
  have h1 := hasT_work hm hi hi' (n := f) e
  obtain ⟨p1, p2⟩ := at_period hm hu (hi' f) (c := c) (by rw [ht, he, hf]; exact Int.natCast_mul c e)
  obtain ⟨p3, p4⟩ := at_period hm hu (hi' (f + e)) (c := c + 1) (by rw [ht, he, hf, Int.natCast_add, Int.add_mul, Int.one_mul]; rw [Int.natCast_mul])
  rw [p1, p2, p3, p4] at h1
  simp only [Int.zero_mul, Int.add_zero, Int.natCast_add, Int.add_mul] at h1
  have h2 : F[i].ev * F[i].lo = (hasT (ini F) i f e : Int) * F[i].ev := by
    rw [he] at h1 ⊢
    exact Int.add_left_cancel h1
  rw [Int.mul_comm] at h2
  exact (Int.eq_of_mul_eq_mul_right (a := F[i].ev) (by omega) h2).symm

theorem loadTo_congr {l l' : List PLine} (h : l.map (·.t) = l'.map (·.t)) : ∀ k, loadTo l k = loadTo l' k := by
  intro k
  induction k with
  | zero => rfl
  | succ k ih =>
    have h1 : (l.map (·.t))[k]? = (l'.map (·.t))[k]? := by rw [h]
    rw [List.getElem?_map, List.getElem?_map] at h1
    rw [loadTo, loadTo, ih]
    cases hx : l[k]? with
    | none =>
      rw [hx] at h1
      cases hy : l'[k]? with
      | none => rfl
      | some y => rw [hy] at h1; cases h1
    | some x =>
      rw [hx] at h1
      cases hy : l'[k]? with
      | none => rw [hy] at h1; cases h1
      | some y =>
        rw [hy] at h1
        injection h1 with h1
        cases loadTo l' k with
        | none => rfl
        | some r => simp only [h1]
theorem TS.load {F : List PTask} {s : PSt} {n : Nat} (h : TS (ini F) s n) : loadS s = loadS (newS F) := by
  have h1 : s.l.map (·.t) = (newS F).l.map (·.t) := by
    have h2 := congrArg (List.map (·.t)) h.abs
    rw [Lat_t, List.map_map] at h2
    have h3 : ((fun x => x.t) ∘ absL) = fun x : PLine => x.t := funext absL_t
    rw [h3] at h2
    rw [h2]
    simp [ini, newS, Function.comp_def]
  have h2 : s.l.length = (newS F).l.length := by have := congrArg List.length h1; simpa using this
  unfold loadS
  rw [loadTo_congr h1, h2]
theorem hasT_le (L : List AL) (i n d : Nat) : hasT L i n d ≤ d := by
  induction d with
  | zero => exact Nat.le_refl _
  | succ d ih =>
    rw [hasT]
    split <;> omega
theorem load_small' {F : List PTask} (h5 : F.length ≤ 5) (hm : ∀ t ∈ F, 1 ≤ t.ev ∧ t.ev ≤ 7 ∧ 1 ≤ t.lo ∧ t.lo ≤ t.ev) : 1 ≤ (loadS (newS F)).2 := by
  obtain ⟨n, d, h1, h2, _, _⟩ := load_small (l := (newS F).l) (fun x hx => by
    obtain ⟨t, ht, rfl⟩ := List.mem_map.1 hx
    exact hm t ht) (newS F).l.length (Nat.le_refl _) (by simpa [newS] using h5)
  unfold loadS
  rw [h1]
  simp only
  omega
theorem dvd420 {e : Nat} (h1 : 1 ≤ e) (h2 : e ≤ 7) : ∃ C, 420 = C * e := by
  rcases (by omega : e = 1 ∨ e = 2 ∨ e = 3 ∨ e = 4 ∨ e = 5 ∨ e = 6 ∨ e = 7) with rfl | rfl | rfl | rfl | rfl | rfl | rfl
  · exact ⟨420, rfl⟩
  · exact ⟨210, rfl⟩
  · exact ⟨140, rfl⟩
  · exact ⟨105, rfl⟩
  · exact ⟨84, rfl⟩
  · exact ⟨70, rfl⟩
  · exact ⟨60, rfl⟩
theorem next_mul {c C e : Nat} (h : c * e < C * e) : c * e + e ≤ C * e := by
  have h1 : c < C := Nat.lt_of_mul_lt_mul_right h
  have h2 : (c + 1) * e ≤ C * e := Nat.mul_le_mul_right _ h1
  rw [Nat.add_mul] at h2
  omega

theorem row_five {w : World} {base c : Nat} {A : Option Addr} {F0 F : List PTask} (h : w.ownsRow base 26 3 (.slice A F0.length c) F0.length (tasksL F0)) (hF : F = F0.take 5) : Rd w w.heap.size 3 A F.length (tasksL F) := by
  obtain ⟨A', c', he, hr⟩ := Rd.own h
  injection he with e1 e2 e3
  subst e1
  have e : F = F0.take F.length := by
    rw [hF, List.length_take]
    by_cases h5 : 5 ≤ F0.length
    · rw [Nat.min_eq_left h5]
    · rw [Nat.min_eq_right (by omega), List.take_of_length_le (Nat.le_refl _), List.take_of_length_le (by omega)]
  have := hr.takeT F.length (by rw [hF]; simp; omega)
  rwa [← e] at this

set_option maxRecDepth 100000 in
set_option maxHeartbeats 4000000 in
theorem shares7 (B : Nat) (A0 : Option Addr) (n0 c0 : Nat) (l : List PTask) (w : World) (h0 : Rd w B 3 A0 n0 (tasksL l)) (hB : B ≤ w.heap.size) (hn0 : n0 ≤ 9223372036854775807) (ht : ∀ t ∈ l, TB t) :
    Calls Try.prog 7 #[.slice A0 n0 c0] w fun e w' => e = .returned (.bool true) ∧ Below w.heap.size w w' := by
  go_enter Try.func7, Try.ntmps7
  go_wp2_with fail
  refine (few20 B A0 n0 c0 l 7 w h0 hB hn0 (by omega) (by omega) ht).mono ?_
  rintro e w1 ⟨v, rfl, hown, hb1⟩
  obtain ⟨f1, f2, f3, f4⟩ := few_ok (most := 7) (by omega) (by omega) l
  have f5 := fewS_may (most := 7) (by omega) (by omega) l
  generalize fewS 7 l = F0 at *
  obtain ⟨A, c, rfl, hrd, hc⟩ := Rd.ownC hown
  have HM1 := Lib.hid ((Many.zero w).below hb1)
  have HOWN := Lib.hid hown
  obtain ⟨F, hF⟩ : ∃ F, F = F0.take 5 := ⟨_, rfl⟩
  have g3 : F.length ≤ 5 := by rw [hF]; simp; omega
  have g1 : ∀ t ∈ F, mayB t = true := fun t ht => f1 t (by rw [hF] at ht; exact List.mem_of_mem_take ht)
  have g5 : ∀ t ∈ F, 1 ≤ t.ev ∧ t.ev ≤ 7 ∧ 1 ≤ t.lo ∧ t.lo ≤ t.ev := fun t ht => f5 t (by rw [hF] at ht; exact List.mem_of_mem_take ht)
  have g2 : newR F = 0 := by
    unfold newR
    rw [if_neg (by omega), if_pos (by rw [List.all_eq_true]; exact g1)]
  have HF := Lib.hid hF
  have HRD := Lib.hid hrd
  have HG1 := Lib.hid g1
  have HG2 := Lib.hid g2
  have HG5 := Lib.hid g5
  have HG4 := Lib.hid (newS_ok (by omega) g1)
  clear f1 f2 f4 f5 h0 ht hown hb1 hrd hF g1 g2 g5
  go_upto_if 20 with fail
  go_cut [3] (fun v wx => ∃ n, n = F.length ∧ v = .slice A n c ∧ w1 = wx ∧ Rd w1 w1.heap.size 3 A n (tasksL F))
  case first =>
    by_cases h5 : 5 < F0.length
    · go_wp2_with fail
      go_meet
      refine ⟨5, by rw [HF.out]; simp; omega, rfl, rfl, ?_⟩
      have := HRD.out.takeT 5 (by omega)
      rwa [← HF.out] at this
    · go_wp2_with fail
      go_meet
      have e : F = F0 := by rw [HF.out]; exact List.take_of_length_le (by omega)
      rw [e]
      exact ⟨_, rfl, rfl, rfl, HRD.out⟩
  case rest =>
    obtain ⟨n, rfl, rfl, rfl, hrd⟩ := hcut
    have HRF := Lib.hid hrd
    clear hrd
    go_wp2_with fail
    refine (new_many HM1.out HG2.out HRF.out (Nat.le_refl _) (by omega)).mono ?_
    rintro e w2 ⟨p, rfl, hM2, hbw2⟩
    have HM2 := Lib.hid (show Many w w2 [(newS F, p)] from hM2)
    have HB2 := Lib.hid hbw2
    clear hM2 hbw2
    obtain ⟨m, q0, q1, q2, q3, q4⟩ := untilS_ticks 420 (ts_new HG1.out) (by omega) (by omega)
    obtain rfl : m = 420 := by omega
    have hlen : (untilS (newS F) 420).2.length ≤ 1000 := by have := q3.len; omega
    have hun := until_many HM2.out (i := 0) rfl 420 HG4.out (by omega)
    have hok := untilS_ok 420 HG4.out
    obtain ⟨s', out, hus⟩ : ∃ s' out, untilS (newS F) 420 = (s', out) := ⟨_, _, rfl⟩
    rw [hus] at q2 q3 q4 hlen hun hok
    have HQ2 := Lib.hid q2
    have HQ3 := Lib.hid q3
    have HQ4 := Lib.hid q4
    have HOK := Lib.hid hok
    clear q1 q2 q3 q4 hok hus
    go_wp2_with fail
    refine hun.mono ?_
    rintro e w3 ⟨v, rfl, hown, hM3, hkp3⟩
    obtain ⟨A3, c3, rfl, hrd3⟩ := Rd.own hown
    have HM3 := Lib.hid hM3
    have HRD3 := Lib.hid hrd3
    clear hown hM3 hrd3 hun
    go_wp2_with fail
    refine (ticks21 (ini F) w3.heap.size A3 _ c3 420 out w3 HRD3.out (Nat.le_refl _) HQ3.out (by omega) (by omega)).mono ?_
    rintro e w4 ⟨rfl, hbk4, hb4⟩
    have HM4 := Lib.hid (HM3.out.below hb4)
    have HR4 := Lib.hid (HRD3.out.below hb4)
    have HBK4 := Lib.hid hbk4
    have HB4 := Lib.hid hb4
    clear hb4 hbk4
    go_wp2_with fail
    go_loop [9] (fun i => ∃ j : Nat, j ≤ out.length ∧ i = .int .i64 j) (fun i => out.length - (intOf i).toNat)
    case atStart => exact ⟨0, by omega, rfl⟩
    case round =>
      obtain ⟨j, hj, rfl⟩ := hrel
      by_cases hjl : j < out.length
      · obtain ⟨b', off', hjl', rfl, hb', x0, x1, x2, x3⟩ := HR4.out.slot hjl
        clear x0 x1 x2
        cases hlate : out[j].late
        · rw [hlate] at x3
          have HL := Lib.hid hlate
          clear hlate
          go_wp2_with fail
          go_round
          case rel => exact ⟨j + 1, by omega, by go_num⟩
          case measure => simp [intOf]; omega
        · rw [hlate] at x3
          have HL := Lib.hid hlate
          clear hlate
          go_wp2_with fail
          refine (wakes9 w4).mono ?_
          rintro e W1 ⟨rfl, hb⟩
          go_wp2_with fail
          go_ret
          exact ⟨rfl, (HM4.out.below hb).base⟩
      · obtain rfl : j = out.length := by omega
        go_wp2_with fail
        refine (load_many HM4.out (i := 0) rfl HOK.out).mono ?_
        rintro e w5 ⟨rfl, hM5, hkp5⟩
        rw [HQ2.out.load]
        have HM5 := Lib.hid hM5
        have HBK5 := Lib.hid (hkp5.2 _ _ _ (by decide) (by decide) (by decide) HBK4.out)
        have hrf5 : Rd w5 w5.heap.size 3 A F.length (tasksL F) := by
          refine row_five (hkp5.row (own_below (hkp3.row (own_below HOWN.out HB2.out) (by decide) (by decide) (by decide)) HB4.out) (by decide) (by decide) (by decide)) HF.out
        have HRF5 := Lib.hid hrf5
        clear hM5 hkp5 hrf5
        obtain ⟨N, D, hND⟩ : ∃ N D, loadS (newS F) = (N, D) := ⟨_, _, rfl⟩
        have hD := load_small' g3 HG5.out
        rw [hND] at hD ⊢
        have HND := Lib.hid hND
        clear hND
        simp only at hD
        by_cases hND : N ≤ D
        · have hU : Util (ini F) := util_of_load HG1.out (by rw [HND.out]; exact hD) (by rw [HND.out]; exact hND)
          have HU := Lib.hid hU
          clear hU
          go_wp2_with fail
          go_loop [12, 13, 14, 15] (fun t _ _ _ => ∃ k : Nat, k ≤ F.length ∧ t = .int .i64 k) (fun t _ _ _ => F.length - (intOf t).toNat)
          case atStart => exact ⟨0, by omega, rfl⟩
          case round =>
            obtain ⟨k, hk, rfl⟩ := hrel
            by_cases hkl : k < F.length
            · obtain ⟨b', off', hkl', rfl, hb', x0, x1, x2⟩ := HRF5.out.task hkl
              obtain ⟨m1, m2, m3, m4⟩ := HG5.out _ (List.getElem_mem hkl')
              obtain ⟨e, he⟩ : ∃ e : Nat, F[k].ev = e := ⟨F[k].ev.toNat, by omega⟩
              rw [he] at x0 m1 m2
              have HE := Lib.hid he
              obtain ⟨C, hC⟩ := dvd420 (e := e) (by omega) (by omega)
              have HC := Lib.hid hC
              clear x2 he hC m3 m4
              go_wp2_with fail
              go_loop [13, 14, 15] (fun f _ _ => ∃ c f' : Nat, Hid (f' = c * e) ∧ f' ≤ 420 ∧ f = .int .i64 f') (fun f _ _ => 420 - (intOf f).toNat)
              case atStart => exact ⟨0, 0, Lib.hid (by simp), by omega, rfl⟩
              case round =>
                obtain ⟨q, f, hq, hf, rfl⟩ := hrel
                by_cases hfl : f < 420
                · have hfe : f + e ≤ 420 := by
                    have h1 := hq.out
                    have h2 := HC.out
                    rw [h1, h2] at hfl
                    have := next_mul hfl
                    omega
                  go_wp2_with fail
                  go_loop [14, 15] (fun h i => ∃ d : Nat, d ≤ e ∧ i = .int .i64 (f + d : Nat) ∧ h = .int .i64 (hasT (ini F) k f d : Nat)) (fun _ i => f + e - (intOf i).toNat)
                  case atStart => exact ⟨0, by omega, rfl, rfl⟩
                  case round =>
                    obtain ⟨d, hd, rfl, rfl⟩ := hrel
                    have hle := hasT_le (ini F) k f d
                    by_cases hde : d < e
                    · have x0 := (HBK5.out.cell (f + d)).trans (intsA_at _ (f + d) (by rw [row_len]; omega))
                      have hrow : (rowAt (ini F) 420 420)[f + d]'(by rw [row_len]; omega) = wt (ini F) (f + d) := by
                        simp only [rowAt, List.getElem_map, List.getElem_range]
                        rw [if_pos (by omega)]
                      rw [hrow] at x0
                      clear hrow
                      have e1 := wt_eq (ini F) (f + d) k
                      have hT : hasT (ini F) k f (d + 1) = hasT (ini F) k f d + (if Wat (ini F) (f + d) = some k then 1 else 0) := rfl
                      generalize wt (ini F) (f + d) = y at *
                      by_cases hw : Wat (ini F) (f + d) = some k
                      · rw [if_pos hw] at hT
                        have e2 : (y == (k : Int)) = true := by rw [e1]; exact decide_eq_true hw
                        have HT := Lib.hid hT
                        clear e1 hT hw
                        go_wp2_with fail
                        go_round
                        case rel => exact ⟨d + 1, by omega, by go_num, by rw [HT.out]; go_num⟩
                        case measure => simp [intOf]; omega
                      · rw [if_neg hw] at hT
                        have e2 : (y == (k : Int)) = false := by rw [e1]; exact decide_eq_false hw
                        have HT := Lib.hid hT
                        clear e1 hT hw
                        go_wp2_with fail
                        go_round
                        case rel => exact ⟨d + 1, by omega, by go_num, by rw [HT.out]; go_num⟩
                        case measure => simp [intOf]; omega
                    · obtain rfl : d = e := by omega
                      have hsh := share_ok HG1.out HU.out hkl' (e := d) HE.out hq.out
                      have e2 : ((hasT (ini F) k f d : Int) != F[k].lo) = false := by rw [hsh]; simp
                      clear hsh
                      go_wp2_with fail
                      go_round
                      case rel => exact ⟨q + 1, f + d, Lib.hid (by rw [Nat.add_mul, hq.out]; omega), by omega, by go_num⟩
                      case measure => simp [intOf]; omega
                · go_wp2_with fail
                  go_round
                  case rel => exact ⟨k + 1, by omega, by go_num⟩
                  case measure => simp [intOf]; omega
            · go_wp2_with fail
              refine (wakes9 w5).mono ?_
              rintro e W1 ⟨rfl, hb⟩
              go_wp2_with fail
              go_ret
              exact ⟨rfl, (HM5.out.below hb).base⟩
        · go_wp2_with fail
          refine (wakes9 w5).mono ?_
          rintro e W1 ⟨rfl, hb⟩
          go_wp2_with fail
          go_ret
          exact ⟨rfl, (HM5.out.below hb).base⟩
end Go.Proofs.Ytcffjobefgecdaa
