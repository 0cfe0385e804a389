/- The walk of Load. -/
import Derived.Test.YtcffjobefgecdaaK
namespace Go.Proofs.Ytcffjobefgecdaa
open Go.RowKit

theorem loadStep_ok {n d : Nat} {t : PTask} {n' d' : Nat} (h : loadStep n d t = some (n', d')) (he : 1 ≤ t.ev) (hd : 1 ≤ d) : n' ≤ 4611686018427387904 ∧ 1 ≤ d' ∧ d' ≤ 4611686018427387904 := by
  unfold loadStep at h
  simp only at h
  split at h
  · rename_i hc
    obtain ⟨c1, c2, c3, c4⟩ := hc
    injection h with h
    injection h with h1 h2
    have hev : 1 ≤ t.ev.toNat := by omega
    have hg : 0 < Nat.gcd d t.ev.toNat := Nat.gcd_pos_of_pos_left _ hd
    have hdg : 1 ≤ d / Nat.gcd d t.ev.toNat := Nat.div_pos (Nat.gcd_le_left _ hd) hg
    generalize Nat.gcd d t.ev.toNat = g at *
    generalize d / g = dg at *
    have he1 : 1 ≤ dg * t.ev.toNat := Nat.mul_pos hdg hev
    generalize dg * t.ev.toNat = e at *
    generalize n * (t.ev.toNat / g) + t.lo.toNat * dg = xy at *
    have hg2 : 0 < Nat.gcd e xy := Nat.gcd_pos_of_pos_left _ he1
    have hle : Nat.gcd e xy ≤ e := Nat.gcd_le_left _ he1
    have h3 := Nat.div_le_self xy (Nat.gcd e xy)
    have h4 := Nat.div_le_self e (Nat.gcd e xy)
    have h5 : 0 < e / Nat.gcd e xy := Nat.div_pos hle hg2
    omega
  · cases h
theorem loadTo_ok {K : Nat} {s : PSt} (hok : StOk K s) : ∀ {k n d : Nat}, loadTo s.l k = some (n, d) → n ≤ 4611686018427387904 ∧ 1 ≤ d ∧ d ≤ 4611686018427387904 := by
  intro k
  induction k with
  | zero =>
    intro n d h
    injection h with h
    injection h with h1 h2
    omega
  | succ k ih =>
    intro n d h
    rw [loadTo] at h
    cases hr : loadTo s.l k with
    | none => simp [hr] at h
    | some r =>
      obtain ⟨n0, d0⟩ := r
      cases hx : s.l[k]? with
      | none => simp [hr, hx] at h
      | some x =>
        simp only [hr, hx] at h
        have hm := hok.lines x (List.mem_of_getElem? hx)
        exact loadStep_ok h (may_spec hm.may).1 (ih hr).2.1

theorem tdivN (a b : Nat) : ((a : Int).tdiv (b : Int)) = ((a / b : Nat) : Int) := by rw [Int.tdiv_eq_ediv_of_nonneg (by omega)]; rfl
theorem edivN (a b : Nat) : ((a : Int) / (b : Int)) = ((a / b : Nat) : Int) := rfl
theorem load13_nil (w : World) : Calls Try.prog 13 #[.pointer none] w fun e w' => e = .returned (.tuple #[.int .i64 0, .int .i64 0]) ∧ w' = w := by
  go_enter Try.func13, Try.ntmps13
  go_wp2_with fail
  exact bodyPost_ret (v := .tuple #[.int .i64 0, .int .i64 0]) (by simp [results, Try.results13, go_sem]) rfl ⟨rfl, rfl⟩

set_option maxRecDepth 100000 in
set_option maxHeartbeats 4000000 in
theorem load13 (p bl cap K : Nat) (G : Nat → Value) (s : PSt) (w : World) (h : PlanAt w p bl cap G s) (hok : StOk K s) :
    Calls Try.prog 13 #[.pointer (some ⟨p, 0, none⟩)] w fun e w' => e = .returned (.tuple #[.int .i64 (loadS s).1, .int .i64 (loadS s).2]) ∧ ∃ n, w' = w.drewN n := by
  have hn := hok.n
  obtain ⟨d0, d1⟩ := h.head
  have HOK := Lib.hid hok
  have H := Lib.hid h
  obtain ⟨m, hm⟩ : ∃ m, s.l.length = m := ⟨_, rfl⟩
  rw [hm] at d0 hn
  have HM := Lib.hid hm
  clear h hok hm
  go_enter Try.func13, Try.ntmps13
  go_wp2_with fail
  go_loopg [4, 5, 6, 7, 8, 9, 10, 11, 12, 13, 14, 15, 23] m (fun gq un ud _ _ _ _ _ _ _ _ _ _ i wr => ∃ k n d : Nat, k ≤ m ∧ gq = m - k ∧ i = .int .i64 k ∧ un = .int .u64 n ∧ ud = .int .u64 d ∧ loadTo s.l k = some (n, d) ∧ ∃ q, wr = w.drewN q)
  case atStart => exact ⟨0, 0, 1, by omega, by omega, rfl, rfl, rfl, rfl, 0, rfl⟩
  case round =>
    obtain ⟨k, n, d, hk, rfl, rfl, rfl, rfl, hld, q, rfl⟩ := hrel
    obtain ⟨o1, o2, o3⟩ := loadTo_ok HOK.out hld
    have HLD := Lib.hid hld
    clear hld
    by_cases hlt : k < m
    · have hks : k < s.l.length := by rw [HM.out]; exact hlt
      obtain ⟨c0, c1, c2, c3, c4, c5⟩ := H.out.cells hks
      obtain ⟨a1, a2, a3, a4⟩ := may_spec (HOK.out.lines _ (List.getElem_mem hks)).may
      have hnx : loadTo s.l (k + 1) = loadStep n d s.l[k].t := by rw [loadTo, HLD.out, List.getElem?_eq_getElem hks]
      generalize s.l[k] = x at *
      obtain ⟨E, hE⟩ : ∃ E : Nat, x.t.ev = E := ⟨x.t.ev.toNat, by omega⟩
      obtain ⟨L, hL⟩ : ∃ L : Nat, x.t.lo = L := ⟨x.t.lo.toNat, by omega⟩
      rw [hE] at c0 a1 a2 a4
      rw [hL] at c1 a3 a4
      have hwE : IntKind.u64.wrap (E : Int) = (E : Int) := by rw [IntKind.wrap_u64]; omega
      have hwL : IntKind.u64.wrap (L : Int) = (L : Int) := by rw [IntKind.wrap_u64]; omega
      have HE := Lib.hid hE
      have HL := Lib.hid hL
      have HNX := Lib.hid hnx
      clear hE hL hnx c2 c3 c4 c5
      go_wp2_with fail
      go_quiet (fail)
      go_wp2_with fail
      refine (gcd30 d E (by omega) (by omega) _).mono ?_
      rintro e w1 ⟨rfl, q1, rfl⟩
      have hg0 : 0 < Nat.gcd d E := Nat.gcd_pos_of_pos_left _ o2
      have hgd : Nat.gcd d E ≤ d := Nat.gcd_le_left _ o2
      obtain ⟨g, hg⟩ : ∃ g, Nat.gcd d E = g := ⟨_, rfl⟩
      have HG := Lib.hid hg
      rw [hg] at hg0 hgd ⊢
      clear hg
      have hdg1 : d / g ≤ d := Nat.div_le_self _ _
      have hEg1 : E / g ≤ E := Nat.div_le_self _ _
      have t1 := tdivN d g
      have t2 := tdivN E g
      have t3 := edivN d g
      have t4 := edivN E g
      obtain ⟨dg, hdg⟩ : ∃ x, d / g = x := ⟨_, rfl⟩
      obtain ⟨Eg, hEg⟩ : ∃ x, E / g = x := ⟨_, rfl⟩
      have HDG := Lib.hid hdg
      have HEG := Lib.hid hEg
      rw [hdg] at t1 t3 hdg1
      rw [hEg] at t2 t4 hEg1
      clear hdg hEg
      have w3 : IntKind.u64.wrap (dg : Int) = (dg : Int) := by rw [IntKind.wrap_u64]; omega
      have w4 : IntKind.u64.wrap (Eg : Int) = (Eg : Int) := by rw [IntKind.wrap_u64]; omega
      have gz : ((g : Int) == 0) = false := by simp; omega
      have gz' : (g == 0) = false := by simp; omega
      go_wp2_with fail
      refine (times31 dg E (by omega) (by omega) _).mono ?_
      rintro e w2 ⟨rfl, rfl⟩
      obtain ⟨l1, hl1⟩ : ∃ x, dg * E % 18446744073709551616 = x := ⟨_, rfl⟩
      obtain ⟨b1, hb1⟩ : ∃ x, decide (dg * E ≤ 4611686018427387904) = x := ⟨_, rfl⟩
      have HL1 := Lib.hid hl1
      have HB1 := Lib.hid hb1
      rw [hl1, hb1]
      clear hl1 hb1
      go_wp2_with fail
      refine (times31 n Eg (by omega) (by omega) _).mono ?_
      rintro e w2 ⟨rfl, rfl⟩
      obtain ⟨l2, hl2⟩ : ∃ x, n * Eg % 18446744073709551616 = x := ⟨_, rfl⟩
      obtain ⟨b2, hb2⟩ : ∃ x, decide (n * Eg ≤ 4611686018427387904) = x := ⟨_, rfl⟩
      have HL2 := Lib.hid hl2
      have HB2 := Lib.hid hb2
      rw [hl2, hb2]
      clear hl2 hb2
      go_wp2_with fail
      refine (times31 L dg (by omega) (by omega) _).mono ?_
      rintro e w2 ⟨rfl, rfl⟩
      obtain ⟨l3, hl3⟩ : ∃ x, L * dg % 18446744073709551616 = x := ⟨_, rfl⟩
      obtain ⟨b3, hb3⟩ : ∃ x, decide (L * dg ≤ 4611686018427387904) = x := ⟨_, rfl⟩
      have HL3 := Lib.hid hl3
      have HB3 := Lib.hid hb3
      rw [hl3, hb3]
      clear hl3 hb3
      have hst : loadStep n d x.t = if dg * E ≤ 4611686018427387904 ∧ n * Eg ≤ 4611686018427387904 ∧ L * dg ≤ 4611686018427387904 ∧ n * Eg + L * dg ≤ 4611686018427387904 then some ((n * Eg + L * dg) / Nat.gcd (dg * E) (n * Eg + L * dg), dg * E / Nat.gcd (dg * E) (n * Eg + L * dg)) else none := by
        unfold loadStep
        simp only [HE.out, HL.out, Int.toNat_natCast, HG.out, HDG.out, HEG.out]
      have HST := Lib.hid hst
      clear hst
      clear t1 t2 t3 t4 w3 w4 gz gz'
      have hbad : ¬ (b1 = true ∧ b2 = true ∧ b3 = true ∧ l2 + l3 ≤ 4611686018427387904) → loadS s = (0, 0) := by
        intro hb
        have hnone : loadTo s.l (k + 1) = none := by
          rw [HNX.out, HST.out, if_neg]
          rintro ⟨x1, x2, x3, x4⟩
          refine hb ⟨by rw [← HB1.out]; exact decide_eq_true x1, by rw [← HB2.out]; exact decide_eq_true x2, by rw [← HB3.out]; exact decide_eq_true x3, ?_⟩
          rw [← HL2.out, ← HL3.out]
          omega
        unfold loadS
        rw [HM.out, loadTo_none hnone m (by omega)]
      have HBAD := Lib.hid hbad
      clear hbad
      cases b1
      · go_wp2_with fail
        exact bodyPost_ret (v := .tuple #[.int .i64 0, .int .i64 0]) (by simp [results, Try.results13, go_sem]) rfl ⟨by rw [HBAD.out (by simp)], _, rfl⟩
      cases b2
      · go_wp2_with fail
        exact bodyPost_ret (v := .tuple #[.int .i64 0, .int .i64 0]) (by simp [results, Try.results13, go_sem]) rfl ⟨by rw [HBAD.out (by simp)], _, rfl⟩
      cases b3
      · go_wp2_with fail
        exact bodyPost_ret (v := .tuple #[.int .i64 0, .int .i64 0]) (by simp [results, Try.results13, go_sem]) rfl ⟨by rw [HBAD.out (by simp)], _, rfl⟩
      have y1 := of_decide_eq_true HB1.out
      have y2 := of_decide_eq_true HB2.out
      have y3 := of_decide_eq_true HB3.out
      have z1 : dg * E = l1 := by have := HL1.out; omega
      have z2 : n * Eg = l2 := by have := HL2.out; omega
      have z3 : L * dg = l3 := by have := HL3.out; omega
      rw [z1] at y1
      rw [z2] at y2
      rw [z3] at y3
      have Z1 := Lib.hid z1
      have Z2 := Lib.hid z2
      have Z3 := Lib.hid z3
      clear z1 z2 z3
      have y0 : 1 ≤ l1 := by
        have h1 : 0 < dg := by rw [← HDG.out]; exact Nat.div_pos hgd hg0
        have h2 : 0 < dg * E := Nat.mul_pos h1 (by omega)
        have := Z1.out
        omega
      have s1 : IntKind.u64.wrap ((l2 : Int) + (l3 : Int)) = ((l2 + l3 : Nat) : Int) := by rw [IntKind.wrap_u64]; omega
      have s2 : ((l2 : Int) + (l3 : Int)) = ((l2 + l3 : Nat) : Int) := by omega
      obtain ⟨xy, hxy⟩ : ∃ x, l2 + l3 = x := ⟨_, rfl⟩
      have HXY := Lib.hid hxy
      rw [hxy] at s1 s2
      have hxyb : xy ≤ 9223372036854775808 := by omega
      clear hxy
      by_cases hx : xy ≤ 4611686018427387904
      · have hx' : ¬ (4611686018427387904 : Int) < (xy : Int) := by omega
        go_wp2_with fail
        refine (gcd30 l1 xy (by omega) (by omega) _).mono ?_
        rintro e w5 ⟨rfl, q2, rfl⟩
        have hk0 : 0 < Nat.gcd l1 xy := Nat.gcd_pos_of_pos_left _ y0
        have hkd : Nat.gcd l1 xy ≤ l1 := Nat.gcd_le_left _ y0
        obtain ⟨g2, hg2⟩ : ∃ x, Nat.gcd l1 xy = x := ⟨_, rfl⟩
        have HG2 := Lib.hid hg2
        rw [hg2] at hk0 hkd ⊢
        clear hg2
        have r1 : xy / g2 ≤ xy := Nat.div_le_self _ _
        have r2 : l1 / g2 ≤ l1 := Nat.div_le_self _ _
        have t1 := tdivN xy g2
        have t2 := tdivN l1 g2
        have t3 := edivN xy g2
        have t4 := edivN l1 g2
        obtain ⟨v1, hv1⟩ : ∃ x, xy / g2 = x := ⟨_, rfl⟩
        obtain ⟨v2, hv2⟩ : ∃ x, l1 / g2 = x := ⟨_, rfl⟩
        have HV1 := Lib.hid hv1
        have HV2 := Lib.hid hv2
        rw [hv1] at t1 t3 r1
        rw [hv2] at t2 t4 r2
        clear hv1 hv2
        have w3 : IntKind.u64.wrap (v1 : Int) = (v1 : Int) := by rw [IntKind.wrap_u64]; omega
        have w4 : IntKind.u64.wrap (v2 : Int) = (v2 : Int) := by rw [IntKind.wrap_u64]; omega
        have gz : ((g2 : Int) == 0) = false := by simp; omega
        have gz' : (g2 == 0) = false := by simp; omega
        go_wp2_with fail
        go_quiet (fail)
        clear t1 t2 t3 t4 w3 w4 gz gz' s1 s2
        go_wp2_with fail
        go_roundg (m - (k + 1))
        case measure => omega
        case rel =>
          refine ⟨k + 1, v1, v2, by omega, rfl, by go_num, rfl, rfl, ?_, _, rfl⟩
          rw [HNX.out, HST.out, Z1.out, Z2.out, Z3.out, HXY.out, if_pos ⟨y1, y2, y3, hx⟩, HG2.out, HV1.out, HV2.out]
      · have hx' : (4611686018427387904 : Int) < (xy : Int) := by omega
        go_wp2_with fail
        exact bodyPost_ret (v := .tuple #[.int .i64 0, .int .i64 0]) (by simp [results, Try.results13, go_sem]) rfl ⟨by rw [HBAD.out (by have := HXY.out; rintro ⟨_, _, _, h⟩; omega)], _, rfl⟩
    · obtain rfl : k = m := by omega
      have hs : loadS s = ((n : Int), (d : Int)) := by
        unfold loadS
        rw [HM.out, HLD.out]
      have HS := Lib.hid hs
      have hwn : IntKind.i64.wrap (n : Int) = (n : Int) := by rw [IntKind.wrap_i64]; omega
      have hwd : IntKind.i64.wrap (d : Int) = (d : Int) := by rw [IntKind.wrap_i64]; omega
      clear hs
      go_wp2_with fail
      exact bodyPost_ret (v := .tuple #[.int .i64 n, .int .i64 d]) (by simp [results, Try.results13, go_sem]) rfl ⟨by rw [HS.out], _, rfl⟩
end Go.Proofs.Ytcffjobefgecdaa
