/- The walk of the document's Next. -/
import Derived.Test.YtcffjobefgecdaaRu
import Derived.Test.YtcffjobefgecdaaRs
namespace Go.Proofs.Ytcffjobefgecdaa.Ref
open Go.RowKit

def RelX (w : World) (p bl : Nat) (G : Nat → Value) (s : PSt) (w' : World) : Prop :=
  ∃ bl' cap' G', PlanAt w' p bl' cap' G' s ∧ (∀ x, own p bl' G' s.l.length x → own p bl G s.l.length x ∨ w.heap.size ≤ x) ∧ Fr (own p bl G s.l.length) w w'
theorem RelX.of_below {w W : World} {p bl cap : Nat} {G : Nat → Value} {s : PSt} (hp : PlanAt w p bl cap G s) (hb : Below w.heap.size w W) : RelX w p bl G s W :=
  ⟨bl, cap, G, hp.below hb, fun _ hx => .inl hx, Fr.of_below hb _⟩
theorem RelX.put {w W : World} {p bl : Nat} {G : Nat → Value} {s : PSt} {b : Nat} {cs : Array Value} (h : RelX w p bl G s W) (hk : Bk W b 42 cs) (hb : w.heap.size ≤ b) (o : Nat) (u : Value) : RelX w p bl G s (W.setCell ⟨b, o, none⟩ u) := by
  obtain ⟨bl', cap', G', h1, h2, h3⟩ := h
  exact ⟨bl', cap', G', h1.far (a := ⟨b, o, none⟩) (h1.not_own hk (by decide) (by decide) (by decide)) u, h2, h3.setCell (p := ⟨b, o, none⟩) (.inr hb) u⟩
theorem RelX.slot {w W : World} {p bl : Nat} {G : Nat → Value} {s : PSt} {b : Nat} {cs : Array Value} (h : RelX w p bl G s W) (hk : Bk W b 42 cs) (hs : cs.size = 4) (hb : w.heap.size ≤ b) (y : PSlot) :
    RelX w p bl G s ((((W.setCell ⟨b, 0, none⟩ (.int .i64 y.task)).setCell ⟨b, 1, none⟩ (.int .i64 y.frm)).setCell ⟨b, 2, none⟩ (.int .i64 y.to)).setCell ⟨b, 3, none⟩ (.bool y.late)) ∧
    Bk ((((W.setCell ⟨b, 0, none⟩ (.int .i64 y.task)).setCell ⟨b, 1, none⟩ (.int .i64 y.frm)).setCell ⟨b, 2, none⟩ (.int .i64 y.to)).setCell ⟨b, 3, none⟩ (.bool y.late)) b 42 (slotCells y) := by
  have k1 := hk.put 0 (.int .i64 y.task)
  have k2 := k1.put 1 (.int .i64 y.frm)
  have k3 := k2.put 2 (.int .i64 y.to)
  have k4 := k3.put 3 (.bool y.late)
  refine ⟨(((h.put hk hb 0 _).put k1 hb 1 _).put k2 hb 2 _).put k3 hb 3 _, ?_⟩
  obtain ⟨l⟩ := cs
  match l, hs with
  | [a, b, c, d], _ => simpa using k4

set_option maxRecDepth 100000 in
set_option maxHeartbeats 4000000 in
theorem next27 (p bl cap K : Nat) (G : Nat → Value) (s : PSt) (w : World) (h : PlanAt w p bl cap G s) (hok : StOk K s) (hK : K ≤ 1000000000) (hne : 0 < s.l.length) :
    Calls Try.prog 27 #[.pointer (some ⟨p, 0, none⟩)] w fun e w' => e = .returned (.tuple #[slotV (nextS s).2.1, .int .i64 (nextS s).2.2]) ∧ RelX w p bl G (nextS s).1 w' := by
  have hn := hok.n
  obtain ⟨d0, d1⟩ := h.head
  have hlp := h.lt p (.inl rfl)
  have H := Lib.hid h
  have HOK := Lib.hid hok
  have hwl : ∀ x ∈ s.l, x.wait.length ≤ 1000000000 := fun x hx => by have := (hok.lines x hx).wt; unfold weight at this; omega
  have HWL := Lib.hid hwl
  obtain ⟨n, hnl⟩ : ∃ n, s.l.length = n := ⟨_, rfl⟩
  rw [hnl] at d0 hn hne
  have HN := Lib.hid hnl
  have hz1 : ((n : Int) == 0) = false := by simp; omega
  have hz2 : (n == 0) = false := by simp; omega
  have hsn : s.l ≠ [] := fun e => by have := HN.out; rw [e] at this; simp at this; omega
  have HSN := Lib.hid hsn
  clear h hok hwl hnl hsn
  go_enter Try.func27, Try.ntmps27
  go_wp2_with fail
  refine calls_gen (fun W => Below w.heap.size w W ∧ Bk W w.heap.size 42 (slotCells ⟨0, 0, 0, false⟩)) ?_ ?_
  · exact ⟨(Below.refl _ _).alloc (Nat.le_refl _) _, Bk.new w _ _⟩
  rintro W1 ⟨hb1, hk1⟩
  refine (twin37 p bl cap G s W1 (H.out.below hb1) (by rw [HN.out]; exact hn) (by rw [HN.out]; exact hne) HWL.out).mono ?_
  rintro e W2 ⟨q, bl2, cap2, G2, rfl, hp2, ho2, hb2⟩
  have hsz1 := hb1.size
  have hb3 := below_to hb1 hb2 hsz1
  have hk2 := hk1.below hb2 hk1.lt
  have HO2 : Hid (∀ x, own q bl2 G2 n x → w.heap.size ≤ x) := Lib.hid (fun x hx => Nat.le_trans hsz1 (ho2 x (by rw [HN.out]; exact hx)))
  have HP2 := Lib.hid hp2
  have HB2 := Lib.hid hb3
  have HK2 := Lib.hid hk2
  clear hb1 hk1 hp2 ho2 hb2 hb3 hk2 d0 d1
  go_wp2_with fail
  refine (stretch38 q bl2 cap2 K G2 s 1152921504606846976 W2 HP2.out HOK.out hK (by omega) (by rw [HN.out]; exact hne)).mono ?_
  rintro e W3 ⟨rfl, hr3⟩
  obtain ⟨q1, q2, q3, q4⟩ := stretch_ok (lim := 1152921504606846976) HOK.out (by omega)
  have hlate := stretch_late (lim := 1152921504606846976) HOK.out (by omega)
  unfold strJ
  have hnx : nextS s = match stretch s 1152921504606846976 with
    | (s', some (sl, _)) => if endT < sl.to then (s, ⟨0, 0, 0, false⟩, 3) else (done s' sl, sl, 0)
    | (_, none) => (s, ⟨0, 0, 0, false⟩, 3) := by
    rw [nextS, if_neg HSN.out]
    rfl
  generalize hst : stretch s 1152921504606846976 = st at *
  obtain ⟨s1, o1⟩ := st
  have q2' : s1.l.length = n := by rw [← HN.out]; exact q2
  obtain ⟨⟨G3, hp3, ho3⟩, hf3⟩ := hr3
  rw [q2'] at ho3 hf3
  have hsz2 := HB2.out.size
  have hf3b : Below w.heap.size W2 W3 := hf3.below HO2.out hsz2
  have hb3 := HB2.out.trans hf3b
  have hk3 := hf3.bk HK2.out (by have := HP2.out.not_own HK2.out (by decide) (by decide) (by decide); rwa [HN.out] at this)
  have HO3 : Hid (∀ x, own q bl2 G3 n x → w.heap.size ≤ x) := Lib.hid (fun x hx => by
    rcases ho3 x hx with h | h
    · exact HO2.out x h
    · omega)
  have HP3 := Lib.hid hp3
  have HB3 := Lib.hid hb3
  have HK3 := Lib.hid hk3
  have HQ1 := Lib.hid q1
  have HNX := Lib.hid hnx
  clear hst q1 q2 q3 ho3 hf3 hf3b hb3 hk3 hp3 hnx
  have fin : ∀ W, Below w.heap.size w W → RelX w p bl G s W := fun W hb => RelX.of_below H.out hb
  have FIN := Lib.hid fin
  clear fin
  cases o1 with
  | none =>
    simp only [Option.map_none, strV]
    have hnx : nextS s = (s, ⟨0, 0, 0, false⟩, 3) := by rw [HNX.out]
    have HNN := Lib.hid hnx
    clear q4 hlate hnx
    go_upto_region 7 with fail
    refine wp_gen (fun W => Below w.heap.size w W ∧ Bk W w.heap.size 42 (slotCells ⟨0, 0, 0, false⟩)) ?_ ?_
    · exact ⟨(HB3.out.alloc HB3.out.size _).alloc (by have := HB3.out.size; simp; omega) _, (HK3.out.alloc _).alloc _⟩
    rintro W4 ⟨hb4, hk4⟩
    have e0 := hk4.cell 0
    have e1 := hk4.cell 1
    have e2 := hk4.cell 2
    have e3 := hk4.cell 3
    have f0 := hk4.frozen 0
    have f1 := hk4.frozen 1
    have f2 := hk4.frozen 2
    have f3 := hk4.frozen 3
    simp at e0 e1 e2 e3
    obtain ⟨r1, r2⟩ := (FIN.out W4 hb4).slot hk4 rfl (Nat.le_refl _) ⟨0, 0, 0, false⟩
    have R1 := Lib.hid r1
    have R2 := Lib.hid r2
    clear hb4 hk4 r1 r2
    go_wp2_with fail
    have q0 := R2.out.cell 0
    have q1 := R2.out.cell 1
    have q2 := R2.out.cell 2
    have q3 := R2.out.cell 3
    simp at q0 q1 q2 q3
    rw [HNN.out]
    refine bodyPost_ret (v := .tuple #[slotV ⟨0, 0, 0, false⟩, .int .i64 3]) ?_ rfl ⟨rfl, R1.out⟩
    simp [results, Try.results27, go_sem, q0, q1, q2, q3]
  | some xd =>
    obtain ⟨x, d⟩ := xd
    obtain ⟨⟨i, hsl⟩, q5, q6⟩ := q4 x d rfl
    obtain ⟨hdue, hlt⟩ := hlate x d rfl
    simp only [Option.map_some, strV]
    simp only at hdue
    generalize firstJ s1.l = j at hdue ⊢
    have HSL := Lib.hid hsl
    have HLT : Hid (x.late = decide (j.due < x.to)) := Lib.hid (by rw [hlt, hdue])
    clear q4 q5 q6 hsl hlate hdue hlt
    go_upto_region 7 with fail
    refine wp_gen (fun W => Below W3.heap.size W3 W ∧ Bk W W3.heap.size 42 (slotCells ({ x with late := false } : PSlot)) ∧ Bk W (W3.heap.size + 1) 88 (jobCells j)) ?_ ?_
    · refine ⟨((Below.refl _ _).alloc (Nat.le_refl _) _).alloc (by simp) _, (Bk.new W3 _ _).alloc _, ?_⟩
      have := Bk.new (W3.alloc (.cells (slotCells ({ x with late := false } : PSlot)) 42)) 88 (jobCells j)
      simpa using this
    rintro W4 ⟨hb4, hs4, hj4⟩
    have x0 := hs4.cell 0
    have x1 := hs4.cell 1
    have x2 := hs4.cell 2
    have x3 := hs4.cell 3
    have y0 := hj4.cell 0
    have g3 := hs4.frozen 3
    simp at x0 x1 x2 x3 y0
    have hk4 := HK3.out.below hb4 HK3.out.lt
    have hsz3 := HB3.out.size
    have hbw4 := below_to HB3.out hb4 hsz3
    have HB4 := Lib.hid hb4
    have HS4 := Lib.hid hs4
    have HK4 := Lib.hid hk4
    have HBW4 := Lib.hid hbw4
    by_cases hto : 1152921504606846976 < x.to
    · have hnx : nextS s = (s, ⟨0, 0, 0, false⟩, 3) := by rw [HNX.out]; exact if_pos hto
      have HNN := Lib.hid hnx
      have e0 := hk4.cell 0
      have e1 := hk4.cell 1
      have e2 := hk4.cell 2
      have e3 := hk4.cell 3
      have f0 := hk4.frozen 0
      have f1 := hk4.frozen 1
      have f2 := hk4.frozen 2
      have f3 := hk4.frozen 3
      simp at e0 e1 e2 e3
      obtain ⟨r1, r2⟩ := (FIN.out W4 hbw4).slot hk4 rfl (Nat.le_refl _) ⟨0, 0, 0, false⟩
      have R1 := Lib.hid r1
      have R2 := Lib.hid r2
      clear hb4 hs4 hj4 hk4 hbw4 r1 r2 hnx
      go_wp2_with fail
      have q0 := R2.out.cell 0
      have q1 := R2.out.cell 1
      have q2 := R2.out.cell 2
      have q3 := R2.out.cell 3
      simp at q0 q1 q2 q3
      rw [HNN.out]
      refine bodyPost_ret (v := .tuple #[slotV ⟨0, 0, 0, false⟩, .int .i64 3]) ?_ rfl ⟨rfl, R1.out⟩
      simp [results, Try.results27, go_sem, q0, q1, q2, q3]
    · have hnx : nextS s = (done s1 x, x, 0) := by rw [HNX.out]; exact if_neg hto
      have HNN := Lib.hid hnx
      have HTO := Lib.hid hto
      clear hb4 hs4 hj4 hk4 hbw4 hnx
      go_upto_region 10 with fail
      refine wp_gen (fun W => Below W3.heap.size W3 W ∧ Bk W W3.heap.size 42 (slotCells x)) ?_ ?_
      · refine ⟨HB4.out.setCell (p := ⟨W3.heap.size, 3, none⟩) (Nat.le_refl _) _, ?_⟩
        have := HS4.out.put 3 (.bool (decide (j.due < x.to)))
        rw [← HLT.out] at this ⊢
        simpa using this
      rintro W5 ⟨hb5, hs5⟩
      have x0 := hs5.cell 0
      have x1 := hs5.cell 1
      have x2 := hs5.cell 2
      have x3 := hs5.cell 3
      have hy1 : x.task = i := HSL.out.task
      simp [hy1] at x0 x1 x2 x3
      have hp5 := HP3.out.below hb5
      have hk5 := HK3.out.below hb5 HK3.out.lt
      have hbw5 := below_to HB3.out hb5 hsz3
      have hi1 : i < s1.l.length := HSL.out.hi
      have lo := HQ1.out.lines (s1.l[i]'hi1) (List.getElem_mem hi1)
      obtain ⟨lf0, lf1⟩ := lo.left HSL.out.wait
      have lwt : (s1.l[i]'hi1).wait.length ≤ 1000000000 := by have := lo.wt; unfold weight at this; omega
      have lnx := lo.n1
      have hylt := HSL.out.lt
      have hyf := HSL.out.f0
      have HP5 := Lib.hid hp5
      have HK5 := Lib.hid hk5
      have HBW5 := Lib.hid hbw5
      have HS5 := Lib.hid hs5
      clear hb5 hs5 hp5 hk5 hbw5
      go_wp2_with fail
      refine (run39 q bl2 cap2 G3 s1 i x.frm x.to x.late W5 HP5.out hi1 lo.runs (by omega) HSL.out.wait lwt lf0 lf1 hyf (by omega) HSL.out.len (by omega)).mono ?_
      rintro e W6 ⟨rfl, hr6⟩
      have hde : done s1 ⟨i, x.frm, x.to, x.late⟩ = done s1 x := by simp only [← hy1]
      rw [hde] at hr6
      have hdl : (done s1 x).l.length = n := by simp [done, q2']
      obtain ⟨⟨G6, hp6, ho6⟩, hf6⟩ := hr6
      rw [hdl] at ho6 hf6
      have hsz5 := HBW5.out.size
      have hf6b : Below w.heap.size W5 W6 := hf6.below HO3.out hsz5
      have hb6 := HBW5.out.trans hf6b
      have no := fun {b : Nat} {cs : Array Value} (hk : Bk W5 b 42 cs) => (by have := HP5.out.not_own hk (by decide) (by decide) (by decide); rwa [q2'] at this : ¬ own q bl2 G3 n b)
      have hk6 := hf6.bk HK5.out (no HK5.out)
      have hs6 := hf6.bk HS5.out (no HS5.out)
      have ho6' : ∀ x, own q bl2 G6 n x → w.heap.size ≤ x := fun x hx => by
        rcases ho6 x hx with h | h
        · exact HO3.out x h
        · omega
      have hpp := H.out.hp.below hb6 hlp
      obtain ⟨v0, v1⟩ := hp6.head
      rw [hdl] at v0
      have w0 := hpp.cell 0
      have w1 := hpp.cell 1
      have z0 := hpp.frozen 0
      have z1 := hpp.frozen 1
      simp [HN.out] at w0 w1
      have hqw := ho6' q (.inl rfl)
      have hblw := ho6' bl2 (.inr (.inl rfl))
      have hpq : ¬ p = q := by omega
      have hqp : ¬ q = p := by omega
      have hx : RelX w p bl G (done s1 x) ((W6.setCell ⟨p, 0, none⟩ (.slice (some ⟨bl2, 0, none⟩) n cap2)).setCell ⟨p, 1, none⟩ (.int .i64 (done s1 x).now)) := by
        refine ⟨bl2, cap2, G6, ⟨?_, ?_, ?_, hp6.ha⟩, ?_, ?_⟩
        · have := (hpp.put 0 (.slice (some ⟨bl2, 0, none⟩) n cap2)).put 1 (.int .i64 (done s1 x).now)
          rw [hdl]
          simpa using this
        · obtain ⟨cs, hb, hs, hl⟩ := hp6.hb
          exact ⟨cs, (hb.far (p := ⟨p, 0, none⟩) (by show bl2 ≠ p; omega) _).far (p := ⟨p, 1, none⟩) (by show bl2 ≠ p; omega) _, hs, hl⟩
        · intro k hk
          refine (hp6.hw k hk).keep fun g hg => ?_
          have := ho6' g (.inr (.inr ⟨k, by rw [← hdl]; exact hk, hg⟩))
          rw [Below.heap_setCell _ _ _ _ (by show g ≠ p; omega), Below.heap_setCell _ _ _ _ (by show g ≠ p; omega)]
        · rw [hdl]
          rintro y (rfl | hy)
          · exact .inl (.inl rfl)
          · exact .inr (ho6' y (.inr hy))
        · exact ((Fr.of_below hb6 _).setCell (p := ⟨p, 0, none⟩) (.inl (.inl rfl)) _).setCell (p := ⟨p, 1, none⟩) (.inl (.inl rfl)) _
      have hkp : ¬ w.heap.size = p := by omega
      have hW3 : W3.heap.size ≠ p := by omega
      have hk7 := (hk6.far (p := ⟨p, 0, none⟩) hkp (.slice (some ⟨bl2, 0, none⟩) n cap2)).far (p := ⟨p, 1, none⟩) hkp (.int .i64 (done s1 x).now)
      have hs7 := (hs6.far (p := ⟨p, 0, none⟩) hW3 (.slice (some ⟨bl2, 0, none⟩) n cap2)).far (p := ⟨p, 1, none⟩) hW3 (.int .i64 (done s1 x).now)
      have HX := Lib.hid hx
      have HK7 := Lib.hid hk7
      have HS7 := Lib.hid hs7
      clear hx hk7 hs7 hk6 hs6 ho6 ho6' hf6 hf6b hb6 hp6 hpp hde lo
      go_upto_region 12 with fail
      refine wp_gen (fun W => RelX w p bl G (done s1 x) W ∧ Bk W w.heap.size 42 (slotCells ⟨0, 0, 0, false⟩) ∧ Bk W W3.heap.size 42 (slotCells x)) ?_ ?_
      · exact ⟨HX.out, HK7.out, HS7.out⟩
      rintro W8 ⟨hx8, hk8, hs8⟩
      have e0 := hk8.cell 0
      have e1 := hk8.cell 1
      have e2 := hk8.cell 2
      have e3 := hk8.cell 3
      have f0 := hk8.frozen 0
      have f1 := hk8.frozen 1
      have f2 := hk8.frozen 2
      have f3 := hk8.frozen 3
      have y0 := hs8.cell 0
      have y1 := hs8.cell 1
      have y2 := hs8.cell 2
      have y3 := hs8.cell 3
      simp at e0 e1 e2 e3 y0 y1 y2 y3
      obtain ⟨r1, r2⟩ := hx8.slot hk8 rfl (Nat.le_refl _) x
      have R1 := Lib.hid r1
      have R2 := Lib.hid r2
      clear hx8 hk8 hs8 r1 r2
      clear hy1
      go_wp2_with fail
      have q0 := R2.out.cell 0
      have q1 := R2.out.cell 1
      have q2 := R2.out.cell 2
      have q3 := R2.out.cell 3
      simp at q0 q1 q2 q3
      rw [HNN.out]
      refine bodyPost_ret (v := .tuple #[slotV x, .int .i64 0]) ?_ rfl ⟨rfl, R1.out⟩
      simp [results, Try.results27, go_sem, q0, q1, q2, q3]
end Go.Proofs.Ytcffjobefgecdaa.Ref
