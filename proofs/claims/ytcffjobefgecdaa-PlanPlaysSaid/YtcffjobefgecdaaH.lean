/- The walk of done: a stretch runs. -/
import Derived.Test.YtcffjobefgecdaaF
namespace Go.Proofs.Ytcffjobefgecdaa
open Go.RowKit

theorem RelI.of {w0 W : World} {p bl cap : Nat} {G0 G : Nat → Value} {s : PSt} {n : Nat} (hn : s.l.length = n) (hp : PlanAt W p bl cap G s) (ho : ∀ x, own p bl G n x → own p bl G0 n x ∨ w0.heap.size ≤ x) (hf : Fr (own p bl G0 n) w0 W) : RelI w0 p bl cap G0 s W := by
  subst hn
  exact ⟨⟨G, hp, ho⟩, hf⟩

theorem WaitAt.tail {w : World} {g off c : Nat} {r : PRun} {rs : List PRun} (h : WaitAt w (.slice (some ⟨g, off, none⟩) (rs.length + 1) c) (r :: rs)) (hne : rs ≠ []) : WaitAt w (.slice (some ⟨g, off + 5, none⟩) rs.length rs.length) rs := by
  rcases h with ⟨h0, _⟩ | ⟨g', off', c', ds, hv, _, hb, hc, hm, hs, ho, hr⟩
  · cases h0
  · injection hv with h1 h2 h3
    injection h1 with h1
    injection h1 with h1 h4
    subst h1 h3 h4
    simp only [List.length_cons] at hc
    refine .inr ⟨g, off + 5, rs.length, ds, rfl, hne, hb, Nat.le_refl _, by omega, by omega, .inr rfl, fun j hj => ?_⟩
    have := hr (j + 1) (by simpa using hj)
    rw [show off + 5 + j * 5 = off + (j + 1) * 5 by omega]
    simpa using this
theorem own_if {p bl n i : Nat} {G : Nat → Value} {v' : Value} (hv : ∀ b, blkOf v' = some b → blkOf (G i) = some b) : ∀ x, own p bl (fun j => if j = i then v' else G j) n x → own p bl G n x := by
  rintro x (h | h | ⟨j, hj, h⟩)
  · exact .inl h
  · exact .inr (.inl h)
  · refine .inr (.inr ⟨j, hj, ?_⟩)
    by_cases e : j = i
    · subst e
      simp only [if_true] at h
      exact hv x h
    · simpa only [if_neg e] using h
theorem PlanAt.frozenP {w : World} {p bl cap : Nat} {G : Nat → Value} {s : PSt} (h : PlanAt w p bl cap G s) (o : Nat) : w.frozen? ⟨p, o, none⟩ = false := h.hp.frozen o
theorem PlanAt.p_ne {w : World} {p bl cap : Nat} {G : Nat → Value} {s : PSt} (h : PlanAt w p bl cap G s) : ¬ p = bl := by
  rintro rfl
  obtain ⟨cs, hb, _⟩ := h.hb
  have h1 := h.hp
  unfold Bk at h1 hb
  rw [h1] at hb
  injection hb with hb
  injection hb with _ hb
  cases hb

set_option maxRecDepth 100000 in
set_option maxHeartbeats 4000000 in
theorem done35 (p bl cap : Nat) (G : Nat → Value) (s : PSt) (i : Nat) (frm te : Int) (late : Bool) (w : World) (h : PlanAt w p bl cap G s) (hi : i < s.l.length)
    (hr : ∀ r ∈ s.l[i].wait, RunOk s.l[i].next r) (hnx : s.l[i].next ≤ 2305843009213693952) (hwne : s.l[i].wait ≠ []) (hlen : s.l[i].wait.length ≤ 1000000000) (hl0 : 1 ≤ s.l[i].left) (hl1 : s.l[i].left ≤ 1099511627776)
    (hd0 : 0 ≤ frm) (hd1 : frm ≤ te) (hd2 : te - frm ≤ s.l[i].left) (hd3 : te ≤ 2305843009213693952) :
    Calls Try.prog 35 #[.pointer (some ⟨p, 0, none⟩), .agg #[.int .i64 i, .int .i64 frm, .int .i64 te, .bool late]] w fun e w' => e = .returned (.tuple #[]) ∧ RelI w p bl cap G (done s ⟨i, frm, te, late⟩) w' := by
  obtain ⟨r, rs, hwr⟩ : ∃ r rs, s.l[i].wait = r :: rs := List.exists_cons_of_ne_nil hwne
  have hdone : done s ⟨i, frm, te, late⟩ = { l := s.l.set i (doneLine (te - frm) s.l[i]), now := te } := by
    unfold done
    simp [List.getD_eq_getElem?_getD, List.getElem?_eq_getElem hi]
  generalize hx : s.l[i] = x at *
  have HX := Lib.hid hx
  have HDONE := Lib.hid hdone
  have HWR := Lib.hid hwr
  have H := Lib.hid h
  have hhp := h.lt p (.inl rfl)
  have hin : (i : Int) < (s.l.length : Int) := by omega
  obtain ⟨n, hn⟩ : ∃ n, s.l.length = n := ⟨_, rfl⟩
  have HN := Lib.hid hn
  have hrr := hr r (by rw [hwr]; exact .head _)
  have HRR := Lib.hid hrr
  have HR := Lib.hid hr
  clear hx hdone hwr hwne h hn hr hrr
  go_enter Try.func35, Try.ntmps35
  go_wp2_with fail
  refine wp_gen (fun W => PlanAt W p bl cap G s ∧ Fr (own p bl G s.l.length) w W ∧ Bk W w.heap.size 42 (slotCells ⟨i, frm, te, late⟩)) ?_ ?_
  · exact ⟨H.out.alloc _, (Fr.refl _ _).alloc _, Bk.new w _ _⟩
  rintro W1 ⟨hp1, hf1, hb1⟩
  obtain ⟨c0, c1, c2, c3, c4, c5⟩ := hp1.cells hi
  rw [HX.out] at c0 c1 c2 c3 c5
  obtain ⟨e0, e1⟩ := hp1.head
  have b0 := hb1.cell 0
  have b1 := hb1.cell 1
  have b2 := hb1.cell 2
  have b3 := hb1.cell 3
  simp at b0 b1 b2 b3
  have fp := hp1.frozenP 1
  have fl := hp1.frozen (i * 6 + 5)
  have ne := hp1.not_own hb1 (by decide) (by decide) (by decide)
  have ne1 : ¬ p = w.heap.size := fun e => ne (.inl e.symm)
  have ne2 : ¬ bl = w.heap.size := fun e => ne (.inr (.inl e.symm))
  have ne3 : ¬ w.heap.size = p := fun e => ne (.inl e)
  have ne4 : ¬ w.heap.size = bl := fun e => ne (.inr (.inl e))
  have hpb : ¬ p = bl := hp1.p_ne
  have hpb' : ¬ bl = p := fun e => hpb e.symm
  have HP1 := Lib.hid hp1
  have HF1 := Lib.hid hf1
  have g1 : IntKind.i64.wrap (te - frm) = te - frm := by rw [IntKind.wrap_i64]; omega
  have g2 : IntKind.i64.wrap (x.left - (te - frm)) = x.left - (te - frm) := by rw [IntKind.wrap_i64]; omega
  clear hp1 hf1 hb1 ne
  go_region
  go_wp2_with fail
  go_region
  go_upto_region 4 with fail
  refine wp_gen (fun W => ∃ s2 : PSt, s2 = { l := s.l.set i { x with left := x.left - (te - frm) }, now := te } ∧ PlanAt W p bl cap G s2 ∧ Fr (own p bl G s.l.length) w W) ?_ ?_
  · refine ⟨_, rfl, ?_, ?_⟩
    · have := (HP1.out.setNow te).setLeft (k := i) hi (x.left - (te - frm))
      simp only [HX.out] at this
      exact this.like rfl
    · exact ((HF1.out.setCell (p := ⟨p, 1, none⟩) (.inl (.inl rfl)) _).setCell (p := ⟨bl, i * 6 + 5, none⟩) (.inl (.inr (.inl rfl))) _).like rfl rfl rfl rfl
  rintro W2 ⟨s2, hs2, hp2, hf2⟩
  have hi2 : i < s2.l.length := by rw [hs2]; simpa using hi
  have hx2 : s2.l[i] = { x with left := x.left - (te - frm) } := by simp only [hs2, List.getElem_set_self]
  obtain ⟨c0, c1, c2, c3, c4, c5⟩ := hp2.cells hi2
  have hwk := hp2.hw i hi2
  have hxw : s2.l[i].wait = r :: rs := by rw [hx2]; exact HWR.out
  obtain ⟨g, off, c, hv, hcap, hbg, hfz, hcell⟩ := hwk.cells (by rw [hxw]; simp)
  have hl2 : s2.l[i].wait.length = rs.length + 1 := by rw [hxw]; rfl
  obtain ⟨w0, w1, w2, w3, w4⟩ := hcell 0 (by omega)
  simp only [hx2] at c0 c1 c2 c3 c5
  simp only [hxw, List.getElem_cons_zero, Nat.zero_mul, Nat.add_zero] at w0 w1 w2 w3 w4
  rw [hv, hl2] at c4
  have z3 := hfz (off + 3)
  have z4 := hfz (off + 4)
  have HS2 := Lib.hid hs2
  have HP2 := Lib.hid hp2
  have HF2 := Lib.hid hf2
  have HX2 := Lib.hid hx2
  have HV := Lib.hid hv
  have HL2 := Lib.hid hl2
  have HXW := Lib.hid hxw
  have hrsl : rs.length ≤ 1000000000 := by have := hlen; rw [HWR.out] at this; simp at this; omega
  clear hs2 hp2 hf2 hx2 hv hl2 hxw hwk hcell hfz g1 g2
  by_cases hA : 0 < x.left - (te - frm)
  · have HA := Lib.hid hA
    go_wp2_with fail
    refine bodyPost_ret (results_none rfl _ _ _) rfl ⟨rfl, ?_⟩
    have e : done s ⟨i, frm, te, late⟩ = s2 := by
      rw [HDONE.out, HS2.out, doneLine, if_pos HA.out]
    rw [e]
    exact RelI.of (by rw [HS2.out]; simp) HP2.out (fun x hx => .inl hx) HF2.out
  · obtain ⟨q1, q2, q3, q4, q5, q6, q7⟩ := HRR.out
    have hfe := HRR.out.first
    have HA := Lib.hid hA
    have g1 : IntKind.i64.wrap (r.first + r.t.ev) = r.first + r.t.ev := by rw [IntKind.wrap_i64]; omega
    go_wp2_with fail
    go_region
    have qc : r.count * 1 ≤ r.count * r.t.ev := Int.mul_le_mul_of_nonneg_left q1 (by omega)
    have g2 : IntKind.i64.wrap (r.count - 1) = r.count - 1 := by rw [IntKind.wrap_i64]; omega
    go_upto_region 8 with fail
    refine wp_gen (fun W => ∃ s3 : PSt, s3 = { l := s.l.set i { x with left := x.left - (te - frm), wait := { r with first := r.first + r.t.ev, count := r.count - 1 } :: rs }, now := te } ∧ PlanAt W p bl cap G s3 ∧ Fr (own p bl G s.l.length) w W) ?_ ?_
    · refine ⟨_, rfl, ?_, ?_⟩
      · have a1 := HP2.out.setFirst hi2 HV.out (j := 0) (by rw [HL2.out]; omega) (r.first + r.t.ev)
        have a2 := a1.setCount (k := i) (by simpa using hi2) (g := g) (off := off) (c := c) (by simp only [List.getElem_set_self, List.length_set]; exact HV.out) (j := 0) (by simp only [List.getElem_set_self, List.length_set]; rw [HL2.out]; omega) (r.count - 1)
        simp only [List.getElem_set_self, List.set_set, HWR.out, List.getElem_cons_zero, List.set_cons_zero, HS2.out, Nat.zero_mul, Nat.add_zero] at a2
        exact a2.like rfl
      · exact ((HF2.out.setCell (p := ⟨g, off + 3, none⟩) (.inl (.inr (.inr ⟨i, hi, hbg⟩))) _).setCell (p := ⟨g, off + 4, none⟩) (.inl (.inr (.inr ⟨i, hi, hbg⟩))) _).like rfl rfl rfl rfl
    rintro W3 ⟨s3, hs3, hp3, hf3⟩
    clear c0 c1 c2 c3 c4 c5 w0 w1 w2 w3 w4
    have hi3 : i < s3.l.length := by rw [hs3]; simpa using hi
    have hx3 : s3.l[i] = { x with left := x.left - (te - frm), wait := { r with first := r.first + r.t.ev, count := r.count - 1 } :: rs } := by simp only [hs3, List.getElem_set_self]
    obtain ⟨c0, c1, c2, c3, c4, c5⟩ := hp3.cells hi3
    have hwk := hp3.hw i hi3
    have hxw : s3.l[i].wait = { r with first := r.first + r.t.ev, count := r.count - 1 } :: rs := by rw [hx3]
    have hl3 : s3.l[i].wait.length = rs.length + 1 := by rw [hxw]; rfl
    have hcl := hwk.cells (by rw [hxw]; simp)
    obtain ⟨g', off', c', hv', hcap', hbg', hfz, hcell⟩ := hcl
    have hGG := HV.out
    rw [hv'] at hGG
    injection hGG with hg1 hg2 hg3
    injection hg1 with hg1
    injection hg1 with hg1 hg4
    subst hg1 hg3 hg4
    obtain ⟨w0, w1, w2, w3, w4⟩ := hcell 0 (by omega)
    simp only [hx3] at c0 c1 c2 c3 c5
    simp only [hxw, List.getElem_cons_zero, Nat.zero_mul, Nat.add_zero] at w0 w1 w2 w3 w4
    rw [hv', hl3] at c4
    have fw := hp3.frozen (i * 6 + 4)
    have fl := hp3.frozen (i * 6 + 5)
    have HS3 := Lib.hid hs3
    have HP3 := Lib.hid hp3
    have HF3 := Lib.hid hf3
    have HX3 := Lib.hid hx3
    have HL3 := Lib.hid hl3
    have HXW3 := Lib.hid hxw
    have HV3 := Lib.hid hv'
    have HWK3 := Lib.hid hwk
    clear hs3 hp3 hf3 hx3 hl3 hxw hwk hv' g1 g2 hfz z3 z4
    by_cases hB : r.count - 1 = 0
    · have HB := Lib.hid hB
      rw [hB] at w4
      clear hB
      have hcap3 : (rs.length : Int) + 1 ≤ (c' : Int) := by rw [HL3.out] at hcap'; omega
      by_cases hrs : rs = []
      · subst hrs
        have hcap4 : (1 : Int) ≤ (c' : Int) := by simpa using hcap3
        have i5 : (0 : Int) ≤ 1 := by omega
        go_wp2_with fail
        go_region
        go_wp2_with fail
        go_end0
        refine ⟨rfl, ?_⟩
        have pw := HP3.out.setWait hi3 (w1 := W3) (v' := .slice (some ⟨g', off', none⟩) 0 0) (rs := []) (.inl ⟨rfl, _, rfl⟩) (fun _ _ _ => rfl) (fun b hb => by simp [blkOf] at hb)
        have e : done s ⟨i, frm, te, late⟩ = { s3 with l := s3.l.set i { s3.l[i] with wait := [] } } := by
          rw [HDONE.out, doneLine, if_neg (by have := HA.out; omega), HWR.out]
          simp only [if_pos HB.out, HS3.out, List.set_set, List.getElem_set_self]
        rw [e]
        exact RelI.of (by simp [HS3.out]) (pw.like rfl) (fun x hx => .inl (own_if (fun b hb => by simp [blkOf] at hb) x hx)) ((HF3.out.setCell (p := ⟨bl, i * 6 + 4, none⟩) (.inl (.inr (.inl rfl))) _).like rfl rfl rfl rfl)
      · have i1 : (1 : Int) ≤ (rs.length : Int) + 1 := by omega
        have i2 : (0 : Int) ≤ (rs.length : Int) + 1 := by omega
        have hpos : 0 < rs.length := List.length_pos_iff.2 hrs
        have i4 : (0 : Int) < (rs.length : Int) := by omega
        go_wp2_with fail
        go_region
        go_upto_region 10 with fail
        have hwt : WaitAt W3 (.slice (some ⟨g', off' + 5, none⟩) rs.length rs.length) rs := by
          have := HWK3.out
          rw [HV3.out, HL3.out, HXW3.out] at this
          exact this.tail hrs
        have hbv : blkOf (.slice (some ⟨g', off' + 5, none⟩) rs.length rs.length) = some g' := blkOf_len hpos
        refine wp_gen (fun W => ∃ G4, ∃ s4 : PSt, s4 = { l := s.l.set i { x with left := x.left - (te - frm), wait := rs }, now := te } ∧ PlanAt W p bl cap G4 s4 ∧ Fr (own p bl G s.l.length) w W ∧ (∀ x, own p bl G4 s.l.length x → own p bl G s.l.length x) ∧ G4 i = .slice (some ⟨g', off' + 5, none⟩) rs.length rs.length) ?_ ?_
        · have pw := HP3.out.setWait hi3 (w1 := W3) (v' := .slice (some ⟨g', off' + 5, none⟩) rs.length rs.length) (rs := rs) hwt (fun _ _ _ => rfl) (fun b hb => .inl (by rw [hbg', ← hb, hbv]))
          refine ⟨_, _, rfl, ?_, (HF3.out.setCell (p := ⟨bl, i * 6 + 4, none⟩) (.inl (.inr (.inl rfl))) _).like rfl rfl rfl rfl, own_if (fun b hb => by rw [hbg', ← hb, hbv]), by simp⟩
          simp only [HS3.out, List.set_set, List.getElem_set_self] at pw
          exact pw.like rfl
        rintro W4 ⟨G4, s4, hs4, hp4, hf4, ho4, hG4⟩
        clear c0 c1 c2 c3 c4 c5 w0 w1 w2 w3 w4
        have hi4 : i < s4.l.length := by rw [hs4]; simpa using hi
        have hx4 : s4.l[i] = { x with left := x.left - (te - frm), wait := rs } := by simp only [hs4, List.getElem_set_self]
        obtain ⟨c0, c1, c2, c3, c4, c5⟩ := hp4.cells hi4
        have hwk := hp4.hw i hi4
        have hxw : s4.l[i].wait = rs := by rw [hx4]
        obtain ⟨q, qs, hqs⟩ : ∃ q qs, rs = q :: qs := List.exists_cons_of_ne_nil hrs
        rw [hxw, hG4] at hwk
        obtain ⟨g5, off5, c5', hv5, _, _, _, hcell⟩ := hwk.cells hrs
        injection hv5 with hg1 hg2 hg3
        injection hg1 with hg1
        injection hg1 with hg1 hg4
        subst hg1 hg4
        obtain ⟨w0, w1, w2, w3, w4⟩ := hcell 0 hpos
        have hq0 : rs[0] = q := by simp [hqs]
        rw [hG4] at c4
        simp only [hx4] at c0 c1 c2 c3 c5
        simp only [hq0, Nat.zero_mul, Nat.add_zero] at w0 w1 w2 w3 w4
        have fl := hp4.frozen (i * 6 + 5)
        have HS4 := Lib.hid hs4
        have HP4 := Lib.hid hp4
        have HF4 := Lib.hid hf4
        have HO4 := Lib.hid ho4
        have HX4 := Lib.hid hx4
        have HQS := Lib.hid hqs
        have HRS := Lib.hid hrs
        clear hs4 hp4 hf4 ho4 hx4 hG4 hwk hxw hcell hq0 hqs hwt hbv hrs
        go_wp2_with fail
        go_end0
        refine ⟨rfl, ?_⟩
        have e : done s ⟨i, frm, te, late⟩ = { s4 with l := s4.l.set i { s4.l[i] with left := q.t.lo } } := by
          rw [HDONE.out, doneLine, if_neg (by have := HA.out; omega), HWR.out]
          simp only [if_pos HB.out, HS4.out, List.set_set, List.getElem_set_self, HQS.out]
        rw [e]
        exact RelI.of (by simp [HS4.out]) (HP4.out.setLeft hi4 q.t.lo) (fun x hx => .inl (HO4.out x hx)) (HF4.out.setCell (p := ⟨bl, i * 6 + 5, none⟩) (.inl (.inr (.inl rfl))) _)
    · have hBb : (r.count - 1 == 0) = false := by simp [hB]
      have HB := Lib.hid hB
      have i1 : (0 : Int) < (rs.length : Int) + 1 := by omega
      clear hB
      go_wp2_with fail
      go_end0
      refine ⟨rfl, ?_⟩
      have e : done s ⟨i, frm, te, late⟩ = { s3 with l := s3.l.set i { s3.l[i] with left := r.t.lo } } := by
        rw [HDONE.out, doneLine, if_neg (by have := HA.out; omega), HWR.out]
        simp only [if_neg HB.out, HS3.out, List.set_set, List.getElem_set_self]
      rw [e]
      exact RelI.of (by simp [HS3.out]) (HP3.out.setLeft hi3 r.t.lo) (fun x hx => .inl hx) (HF3.out.setCell (p := ⟨bl, i * 6 + 5, none⟩) (.inl (.inr (.inl rfl))) _)
end Go.Proofs.Ytcffjobefgecdaa
