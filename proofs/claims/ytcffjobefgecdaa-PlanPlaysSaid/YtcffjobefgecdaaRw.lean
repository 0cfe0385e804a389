/- The walk of the document's Load. -/
import Derived.Test.YtcffjobefgecdaaRv
namespace Go.Proofs.Ytcffjobefgecdaa.Ref
open Go.RowKit

theorem quietA {P : Program} {f : FuncId} {args : Array Value} {w : World} {a n : Nat} {v : Value}
    (h : Calls P f args (w.drewN (a + n)) fun e w' => e = .returned v ∧ w' = w.drewN (a + n)) :
    Calls P f args (w.drewN (a + n)) fun e w' => e = .returned v ∧ ∃ m, w' = w.drewN (a + m) :=
  h.mono fun _ _ ⟨he, hm⟩ => ⟨he, n, hm⟩
theorem quietB {P : Program} {f : FuncId} {args : Array Value} {w : World} {n : Nat} {v : Value}
    (h : Calls P f args (w.drewN n) fun e w' => e = .returned v ∧ w' = w.drewN n) :
    Calls P f args (w.drewN n) fun e w' => e = .returned v ∧ ∃ m, w' = w.drewN m :=
  h.mono fun _ _ ⟨he, hm⟩ => ⟨he, n, hm⟩
theorem times_of (a b : Nat) (ha : a < 9223372036854775808) (hb : b < 9223372036854775808) : ∃ (l : Nat) (t : Bool), (l = if a * b ≤ 4611686018427387904 then a * b else 0) ∧ t = decide (a * b ≤ 4611686018427387904) ∧ l ≤ 4611686018427387904 ∧
    ∀ w, Calls Try.prog 33 #[.int .i64 a, .int .i64 b] w fun e w' => e = .returned (.tuple #[.int .i64 (l : Nat), .bool t]) ∧ w' = w :=
  ⟨_, _, rfl, rfl, by split <;> omega, fun w => times33 a b ha hb w⟩
theorem bdrew {B : Nat} {w W : World} (h : Below B w W) (n : Nat) : Below B w (W.drewN n) := ⟨h.os, h.tape, h.output, h.size, h.block⟩
theorem load14_nil (w : World) : Calls Try.prog 14 #[.pointer none] w fun e w' => e = .returned (.tuple #[.int .i64 0, .int .i64 0]) ∧ w' = w := by
  go_enter Try.func14, Try.ntmps14
  go_wp2_with fail
  exact bodyPost_ret (v := .tuple #[.int .i64 0, .int .i64 0]) (by simp [results, Try.results14, go_sem]) rfl ⟨rfl, rfl⟩
set_option maxRecDepth 100000 in
set_option maxHeartbeats 4000000 in
theorem load14_e (p : Nat) (now : Int) (w : World) (h : Bk w p 71 #[.slice none 0 0, .int .i64 now]) :
    Calls Try.prog 14 #[.pointer (some ⟨p, 0, none⟩)] w fun e w' => e = .returned (.tuple #[.int .i64 0, .int .i64 1]) ∧ Below w.heap.size w w' := by
  have d0 := h.cell 0
  simp at d0
  clear h
  go_enter Try.func14, Try.ntmps14
  go_wp2_with fail
  go_loopg [4, 5, 6, 7, 8, 9, 10, 11, 12, 13, 14, 15] 0 (fun _ un ud i _ _ _ _ _ _ _ _ _ wr => i = .int .i64 0 ∧ un = .int .i64 0 ∧ ud = .int .i64 1 ∧ wr = w)
  case atStart => exact ⟨rfl, rfl, rfl, rfl⟩
  case round =>
    obtain ⟨rfl, rfl, rfl, rfl⟩ := hrel
    go_wp2_with fail
    exact bodyPost_ret (v := .tuple #[.int .i64 0, .int .i64 1]) (by simp [results, Try.results14, go_sem]) rfl ⟨rfl, Below.refl _ _⟩

set_option maxRecDepth 100000 in
set_option maxHeartbeats 4000000 in
theorem load14 (p bl cap K : Nat) (G : Nat → Value) (s : PSt) (w : World) (h : PlanAt w p bl cap G s) (hok : StOk K s) :
    Calls Try.prog 14 #[.pointer (some ⟨p, 0, none⟩)] w fun e w' => e = .returned (.tuple #[.int .i64 (loadS s).1, .int .i64 (loadS s).2]) ∧ Below w.heap.size w w' := by
  have hn := hok.n
  have HOK := Lib.hid hok
  have H := Lib.hid h
  obtain ⟨m, hm⟩ : ∃ m, s.l.length = m := ⟨_, rfl⟩
  rw [hm] at hn
  have HM := Lib.hid hm
  clear h hok hm
  go_enter Try.func14, Try.ntmps14
  go_wp2_with fail
  go_loopg [4, 5, 6, 7, 8, 9, 10, 11, 12, 13, 14, 15] m (fun gq un ud i _ _ _ _ _ _ _ _ _ wr => ∃ k n d : Nat, k ≤ m ∧ gq = m - k ∧ i = .int .i64 k ∧ un = .int .i64 n ∧ ud = .int .i64 d ∧ loadTo s.l k = some (n, d) ∧ PlanAt wr p bl cap G s ∧ Below w.heap.size w wr)
  case atStart => exact ⟨0, 0, 1, by omega, by omega, rfl, rfl, rfl, rfl, H.out, Below.refl _ _⟩
  case round =>
    obtain ⟨k, n, d, hk, rfl, rfl, rfl, rfl, hld, hp, hb⟩ := hrel
    obtain ⟨o1, o2, o3⟩ := loadTo_ok HOK.out hld
    obtain ⟨d0, d1⟩ := hp.head
    rw [HM.out] at d0
    have HLD := Lib.hid hld
    have HP := Lib.hid hp
    have HB := Lib.hid hb
    have hsz := hb.size
    clear hld hp hb
    by_cases hlt : k < m
    · have hks : k < s.l.length := by rw [HM.out]; exact hlt
      obtain ⟨c0, c1, c2, c3, c4, c5⟩ := HP.out.cells hks
      obtain ⟨a1, a2, a3, a4⟩ := may_spec (HOK.out.lines _ (List.getElem_mem hks)).may
      have hnx : loadTo s.l (k + 1) = loadStep n d s.l[k].t := by rw [loadTo, HLD.out, List.getElem?_eq_getElem hks]
      generalize s.l[k] = x at *
      obtain ⟨E, hE⟩ : ∃ E : Nat, x.t.ev = E := ⟨x.t.ev.toNat, by omega⟩
      obtain ⟨L, hL⟩ : ∃ L : Nat, x.t.lo = L := ⟨x.t.lo.toNat, by omega⟩
      rw [hE] at c0 a1 a2 a4
      rw [hL] at c1 a3 a4
      have HE := Lib.hid hE
      have HL := Lib.hid hL
      have HNX := Lib.hid hnx
      clear hE hL hnx c3 c4 c5
      go_wp2_with fail
      refine calls_gen (fun W => PlanAt W p bl cap G s ∧ Below w.heap.size w W ∧ Bk W wr.heap.size 26 #[.int .i64 E, .int .i64 L, .int .i64 x.t.rk]) ?_ ?_
      · exact ⟨HP.out.alloc _, HB.out.alloc hsz _, Bk.new wr _ _⟩
      rintro W1 ⟨hp1, hb1, ht1⟩
      refine (gcd32 d E (by omega) (by omega) _).mono ?_
      rintro e w1 ⟨rfl, q1, rfl⟩
      have hp2 := hp1.drewN q1
      have hb2 : Below w.heap.size w (W1.drewN q1) := bdrew hb1 q1
      have ht2 := ht1.drewN q1
      generalize W1.drewN q1 = W2 at hp2 hb2 ht2 ⊢
      clear hp1 hb1 ht1
      have e0 := ht2.cell 0
      have e1 := ht2.cell 1
      simp at e0 e1
      have HP2 := Lib.hid hp2
      have HB2 := Lib.hid hb2
      clear hp2 hb2 ht2 c0 c1 c2 d0 d1
      have hg0 : 0 < Nat.gcd d E := Nat.gcd_pos_of_pos_left _ o2
      have hgd : Nat.gcd d E ≤ d := Nat.gcd_le_left _ o2
      obtain ⟨g, hg⟩ : ∃ g, Nat.gcd d E = g := ⟨_, rfl⟩
      have HG := Lib.hid hg
      rw [hg] at hg0 hgd ⊢
      clear hg
      have hdg1 : d / g ≤ d := Nat.div_le_self _ _
      have hEg1 : E / g ≤ E := Nat.div_le_self _ _
      have t1 := tdivN d g
      have t2 := tdivN E g
      have t3 := edivN d g
      have t4 := edivN E g
      obtain ⟨dg, hdg⟩ : ∃ x, d / g = x := ⟨_, rfl⟩
      obtain ⟨Eg, hEg⟩ : ∃ x, E / g = x := ⟨_, rfl⟩
      have HDG := Lib.hid hdg
      have HEG := Lib.hid hEg
      rw [hdg] at t1 t3 hdg1
      rw [hEg] at t2 t4 hEg1
      clear hdg hEg
      have w3 : IntKind.i64.wrap (dg : Int) = (dg : Int) := by rw [IntKind.wrap_i64]; omega
      have w4 : IntKind.i64.wrap (Eg : Int) = (Eg : Int) := by rw [IntKind.wrap_i64]; omega
      have gz : ((g : Int) == 0) = false := by simp; omega
      have gz' : (g == 0) = false := by simp; omega
      obtain ⟨l1, b1, hl1, hb1, hm1, T1⟩ := times_of dg E (by omega) (by omega)
      obtain ⟨l2, b2, hl2, hb2, hm2, T2⟩ := times_of n Eg (by omega) (by omega)
      obtain ⟨l3, b3, hl3, hb3, hm3, T3⟩ := times_of L dg (by omega) (by omega)
      have HL1 := Lib.hid hl1
      have HL2 := Lib.hid hl2
      have HL3 := Lib.hid hl3
      have HB1 := Lib.hid hb1
      have HB2' := Lib.hid hb2
      have HB3 := Lib.hid hb3
      have HT1 := Lib.hid T1
      have HT2 := Lib.hid T2
      have HT3 := Lib.hid T3
      clear hl1 hl2 hl3 hb1 hb2 hb3 T1 T2 T3
      go_wp2_with fail
      go_quiet ((go_at_call 33; exact quietB (HT1.out _)))
      go_wp2_with fail
      refine (HT2.out _).mono ?_
      rintro e w2 ⟨rfl, rfl⟩
      go_wp2_with fail
      go_quiet ((go_at_call 33; exact quietA (HT3.out _)))
      have hst : loadStep n d x.t = if dg * E ≤ 4611686018427387904 ∧ n * Eg ≤ 4611686018427387904 ∧ L * dg ≤ 4611686018427387904 ∧ n * Eg + L * dg ≤ 4611686018427387904 then some ((n * Eg + L * dg) / Nat.gcd (dg * E) (n * Eg + L * dg), dg * E / Nat.gcd (dg * E) (n * Eg + L * dg)) else none := by
        unfold loadStep
        simp only [HE.out, HL.out, Int.toNat_natCast, HG.out, HDG.out, HEG.out]
      have HST := Lib.hid hst
      clear hst
      clear t1 t2 t3 t4 w3 w4 gz gz'
      have hbad : ¬ (b1 = true ∧ b2 = true ∧ b3 = true ∧ l2 + l3 ≤ 4611686018427387904) → loadS s = (0, 0) := by
        intro hb
        have hnone : loadTo s.l (k + 1) = none := by
          rw [HNX.out, HST.out, if_neg]
          rintro ⟨x1, x2, x3, x4⟩
          refine hb ⟨by rw [HB1.out]; exact decide_eq_true x1, by rw [HB2'.out]; exact decide_eq_true x2, by rw [HB3.out]; exact decide_eq_true x3, ?_⟩
          rw [HL2.out, HL3.out, if_pos x2, if_pos x3]
          exact x4
        unfold loadS
        rw [HM.out, loadTo_none hnone m (by omega)]
      have HBAD := Lib.hid hbad
      clear hbad
      have hend : ∀ a : Nat, Below w.heap.size w (W2.drewN a) := fun a => bdrew HB2.out a
      have HEND := Lib.hid hend
      clear hend
      cases b1
      · go_wp2_with fail
        exact bodyPost_ret (v := .tuple #[.int .i64 0, .int .i64 0]) (by simp [results, Try.results14, go_sem]) rfl ⟨by rw [HBAD.out (by simp)], HEND.out _⟩
      cases b2
      · go_wp2_with fail
        exact bodyPost_ret (v := .tuple #[.int .i64 0, .int .i64 0]) (by simp [results, Try.results14, go_sem]) rfl ⟨by rw [HBAD.out (by simp)], HEND.out _⟩
      cases b3
      · go_wp2_with fail
        exact bodyPost_ret (v := .tuple #[.int .i64 0, .int .i64 0]) (by simp [results, Try.results14, go_sem]) rfl ⟨by rw [HBAD.out (by simp)], HEND.out _⟩
      have y1 := of_decide_eq_true HB1.out.symm
      have y2 := of_decide_eq_true HB2'.out.symm
      have y3 := of_decide_eq_true HB3.out.symm
      have z1 : dg * E = l1 := by have := HL1.out; rw [if_pos y1] at this; exact this.symm
      have z2 : n * Eg = l2 := by have := HL2.out; rw [if_pos y2] at this; exact this.symm
      have z3 : L * dg = l3 := by have := HL3.out; rw [if_pos y3] at this; exact this.symm
      rw [z1] at y1
      rw [z2] at y2
      rw [z3] at y3
      have Z1 := Lib.hid z1
      have Z2 := Lib.hid z2
      have Z3 := Lib.hid z3
      clear z1 z2 z3
      have y0 : 1 ≤ l1 := by
        have h1 : 0 < dg := by rw [← HDG.out]; exact Nat.div_pos hgd hg0
        have h2 : 0 < dg * E := Nat.mul_pos h1 (by omega)
        have := Z1.out
        omega
      have s0 : IntKind.i64.wrap (4611686018427387904 - (l3 : Int)) = 4611686018427387904 - (l3 : Int) := by rw [IntKind.wrap_i64]; omega
      have s2 : ((l2 : Int) + (l3 : Int)) = ((l2 + l3 : Nat) : Int) := by omega
      obtain ⟨xy, hxy⟩ : ∃ x, l2 + l3 = x := ⟨_, rfl⟩
      have HXY := Lib.hid hxy
      rw [hxy] at s2
      have hxyb : xy ≤ 9223372036854775808 := by omega
      by_cases hx : xy ≤ 4611686018427387904
      · have hx' : ¬ (4611686018427387904 : Int) - (l3 : Int) < (l2 : Int) := by omega
        have s1 : IntKind.i64.wrap ((l2 : Int) + (l3 : Int)) = (xy : Int) := by rw [IntKind.wrap_i64]; omega
        clear hxy
        go_wp2_with fail
        refine (gcd32 l1 xy (by omega) (by omega) _).mono ?_
        rintro e w5 ⟨rfl, q2, rfl⟩
        have hk0 : 0 < Nat.gcd l1 xy := Nat.gcd_pos_of_pos_left _ y0
        have hkd : Nat.gcd l1 xy ≤ l1 := Nat.gcd_le_left _ y0
        obtain ⟨g2, hg2⟩ : ∃ x, Nat.gcd l1 xy = x := ⟨_, rfl⟩
        have HG2 := Lib.hid hg2
        rw [hg2] at hk0 hkd ⊢
        clear hg2
        have r1 : xy / g2 ≤ xy := Nat.div_le_self _ _
        have r2 : l1 / g2 ≤ l1 := Nat.div_le_self _ _
        have t1 := tdivN xy g2
        have t2 := tdivN l1 g2
        have t3 := edivN xy g2
        have t4 := edivN l1 g2
        obtain ⟨v1, hv1⟩ : ∃ x, xy / g2 = x := ⟨_, rfl⟩
        obtain ⟨v2, hv2⟩ : ∃ x, l1 / g2 = x := ⟨_, rfl⟩
        have HV1 := Lib.hid hv1
        have HV2 := Lib.hid hv2
        rw [hv1] at t1 t3 r1
        rw [hv2] at t2 t4 r2
        clear hv1 hv2
        have w3 : IntKind.i64.wrap (v1 : Int) = (v1 : Int) := by rw [IntKind.wrap_i64]; omega
        have w4 : IntKind.i64.wrap (v2 : Int) = (v2 : Int) := by rw [IntKind.wrap_i64]; omega
        have gz : ((g2 : Int) == 0) = false := by simp; omega
        have gz' : (g2 == 0) = false := by simp; omega
        go_wp2_with fail
        clear t1 t2 t3 t4 w3 w4 gz gz' s1 s2
        go_roundg (m - (k + 1))
        case measure => omega
        case rel =>
          refine ⟨k + 1, v1, v2, by omega, rfl, by go_num, rfl, rfl, ?_, HP2.out.drewN _, bdrew HB2.out _⟩
          rw [HNX.out, HST.out, Z1.out, Z2.out, Z3.out, HXY.out, if_pos ⟨y1, y2, y3, hx⟩, HG2.out, HV1.out, HV2.out]
      · have hx' : (4611686018427387904 : Int) - (l3 : Int) < (l2 : Int) := by omega
        clear hxy
        go_wp2_with fail
        exact bodyPost_ret (v := .tuple #[.int .i64 0, .int .i64 0]) (by simp [results, Try.results14, go_sem]) rfl ⟨by rw [HBAD.out (by have := HXY.out; rintro ⟨_, _, _, h⟩; omega)], HEND.out _⟩
    · obtain rfl : k = m := by omega
      have hs : loadS s = ((n : Int), (d : Int)) := by
        unfold loadS
        rw [HM.out, HLD.out]
      have HS := Lib.hid hs
      clear hs
      go_wp2_with fail
      exact bodyPost_ret (v := .tuple #[.int .i64 n, .int .i64 d]) (by simp [results, Try.results14, go_sem]) rfl ⟨by rw [HS.out], HB.out⟩
end Go.Proofs.Ytcffjobefgecdaa.Ref
