/- The walk of stretch: the next one, if it begins below a limit. -/
import Derived.Test.YtcffjobefgecdaaD
import Derived.Test.YtcffjobefgecdaaC
namespace Go.Proofs.Ytcffjobefgecdaa
open Go.RowKit

abbrev slotCells (x : PSlot) : Array Value := #[.int .i64 x.task, .int .i64 x.frm, .int .i64 x.to, .bool x.late]
def strV : Option (PSlot × Int) → Value
  | none => .tuple #[slotV ⟨0, 0, 0, false⟩, .int .i64 0, .bool false]
  | some (x, d) => .tuple #[slotV x, .int .i64 d, .bool true]

/-- What stands while a stretch is told. -/
structure StrI (w0 : World) (p bl cap : Nat) (G0 : Nat → Value) (n sb fb : Nat) (frm : Int) (s : PSt) (G : Nat → Value) (W : World) : Prop where
  pl : PlanAt W p bl cap G s
  ow : ∀ x, own p bl G n x → own p bl G0 n x ∨ w0.heap.size ≤ x
  len : s.l.length = n
  fr : Fr (own p bl G0 n) w0 W
  sk : Bk W sb 42 (slotCells ⟨0, 0, 0, false⟩)
  fk : Bk W fb 2 #[.int .i64 frm]
  sg : w0.heap.size ≤ sb
  fg : w0.heap.size ≤ fb
theorem StrI.below {w0 : World} {p bl cap : Nat} {G0 : Nat → Value} {n sb fb : Nat} {frm : Int} {s : PSt} {G : Nat → Value} {W W' : World} (h : StrI w0 p bl cap G0 n sb fb frm s G W) (hb : Below W.heap.size W W') :
    StrI w0 p bl cap G0 n sb fb frm s G W' :=
  ⟨h.pl.below hb, h.ow, h.len, h.fr.trans (Fr.of_below hb (fun _ => False)) (fun _ h => h.elim), h.sk.below hb h.sk.lt, h.fk.below hb h.fk.lt, h.sg, h.fg⟩
theorem StrI.rel {w0 : World} {p bl cap : Nat} {G0 : Nat → Value} {n sb fb : Nat} {frm : Int} {s s' : PSt} {G : Nat → Value} {W W' : World} (h : StrI w0 p bl cap G0 n sb fb frm s G W)
    (hl : s'.l.length = s.l.length) (hr : RelI W p bl cap G s' W') : ∃ G', StrI w0 p bl cap G0 n sb fb frm s' G' W' := by
  obtain ⟨⟨G', hp, ho⟩, hf⟩ := hr
  rw [hl, h.len] at ho hf
  have n1 := h.pl.not_own h.sk (by decide) (by decide) (by decide)
  have n2 := h.pl.not_own h.fk (by decide) (by decide) (by decide)
  rw [h.len] at n1 n2
  have hs := h.fr.size
  refine ⟨G', hp, fun x hx => ?_, hl.trans h.len, h.fr.trans hf h.ow, hf.bk h.sk n1, hf.bk h.fk n2, h.sg, h.fg⟩
  rcases ho x hx with h1 | h1
  · exact h.ow x h1
  · exact .inr (Nat.le_trans hs h1)
theorem calls_gen {P : Program} {f : FuncId} {args : Array Value} {Q : Ending → World → Prop} {W : World} (F : World → Prop) (hF : F W) (h : ∀ W, F W → Calls P f args W Q) : Calls P f args W Q := h W hF
theorem RelI.drewN {w0 : World} {p bl cap : Nat} {G0 : Nat → Value} {s : PSt} {W : World} (h : RelI w0 p bl cap G0 s W) (k : Nat) : RelI w0 p bl cap G0 s (W.drewN k) := by
  obtain ⟨⟨G, h1, h2⟩, h3⟩ := h
  exact ⟨⟨G, h1.drewN k, h2⟩, h3.drewN k⟩
theorem StrI.num {w0 : World} {p bl cap : Nat} {G0 : Nat → Value} {n sb fb : Nat} {frm frm' : Int} {s : PSt} {G : Nat → Value} {W W' : World} (h : StrI w0 p bl cap G0 n sb fb frm s G W) (hn : NumI W p bl cap G s fb frm' W') (hne : sb ≠ fb) :
    StrI w0 p bl cap G0 n sb fb frm' s G W' :=
  ⟨hn.pl, h.ow, h.len, h.fr.trans hn.fr (fun x hx => .inr (by subst hx; exact h.fg)), hn.fr.bk h.sk hne, hn.hb, h.sg, h.fg⟩
theorem StrI.far {w0 : World} {p bl cap : Nat} {G0 : Nat → Value} {n sb fb : Nat} {frm : Int} {s : PSt} {G : Nat → Value} {W : World} (h : StrI w0 p bl cap G0 n sb fb frm s G W) {a : Addr} (hno : ¬ own p bl G n a.block)
    (h1 : sb ≠ a.block) (h2 : fb ≠ a.block) (h3 : w0.heap.size ≤ a.block) (u : Value) : StrI w0 p bl cap G0 n sb fb frm s G (W.setCell a u) :=
  ⟨h.pl.far (by rw [h.len]; exact hno) u, h.ow, h.len, h.fr.setCell (.inr h3) u, h.sk.far h1 u, h.fk.far h2 u, h.sg, h.fg⟩
theorem StrI.side {w0 : World} {p bl cap : Nat} {G0 : Nat → Value} {n sb fb : Nat} {frm : Int} {s : PSt} {G : Nat → Value} {W W' : World} {k : Nat} (h : StrI w0 p bl cap G0 n sb fb frm s G W) (hf : Fr (· = k) W W') (hp : PlanAt W' p bl cap G s)
    (h1 : sb ≠ k) (h2 : fb ≠ k) (h3 : w0.heap.size ≤ k) : StrI w0 p bl cap G0 n sb fb frm s G W' :=
  ⟨hp, h.ow, h.len, h.fr.trans hf (fun x hx => .inr (by subst hx; exact h3)), hf.bk h.sk h1, hf.bk h.fk h2, h.sg, h.fg⟩
theorem StrI.drewN {w0 : World} {p bl cap : Nat} {G0 : Nat → Value} {n sb fb : Nat} {frm : Int} {s : PSt} {G : Nat → Value} {W : World} (h : StrI w0 p bl cap G0 n sb fb frm s G W) (k : Nat) : StrI w0 p bl cap G0 n sb fb frm s G (W.drewN k) :=
  ⟨h.pl.drewN k, h.ow, h.len, h.fr.drewN k, h.sk.drewN k, h.fk.drewN k, h.sg, h.fg⟩
theorem StrI.put {w0 : World} {p bl cap : Nat} {G0 : Nat → Value} {n sb fb : Nat} {frm : Int} {s : PSt} {G : Nat → Value} {W : World} (h : StrI w0 p bl cap G0 n sb fb frm s G W) (x : PSlot) :
    RelI w0 p bl cap G0 s ((((W.setCell ⟨sb, 0, none⟩ (.int .i64 x.task)).setCell ⟨sb, 1, none⟩ (.int .i64 x.frm)).setCell ⟨sb, 2, none⟩ (.int .i64 x.to)).setCell ⟨sb, 3, none⟩ (.bool x.late)) ∧
    Bk ((((W.setCell ⟨sb, 0, none⟩ (.int .i64 x.task)).setCell ⟨sb, 1, none⟩ (.int .i64 x.frm)).setCell ⟨sb, 2, none⟩ (.int .i64 x.to)).setCell ⟨sb, 3, none⟩ (.bool x.late)) sb 42 (slotCells x) := by
  have hno := h.pl.not_own h.sk (by decide) (by decide) (by decide)
  refine ⟨⟨⟨G, (((h.pl.far (a := ⟨sb, 0, none⟩) hno _).far (a := ⟨sb, 1, none⟩) hno _).far (a := ⟨sb, 2, none⟩) hno _).far (a := ⟨sb, 3, none⟩) hno _, ?_⟩, ?_⟩, ?_⟩
  · rw [h.len]; exact h.ow
  · rw [h.len]
    exact (((h.fr.setCell (p := ⟨sb, 0, none⟩) (.inr h.sg) _).setCell (p := ⟨sb, 1, none⟩) (.inr h.sg) _).setCell (p := ⟨sb, 2, none⟩) (.inr h.sg) _).setCell (p := ⟨sb, 3, none⟩) (.inr h.sg) _
  · have := (((h.sk.put 0 (.int .i64 x.task)).put 1 (.int .i64 x.frm)).put 2 (.int .i64 x.to)).put 3 (.bool x.late)
    simpa using this

set_option maxRecDepth 100000 in
set_option maxHeartbeats 4000000 in
theorem stretch34 (p bl cap K : Nat) (G : Nat → Value) (s : PSt) (limit : Int) (w : World) (h : PlanAt w p bl cap G s) (hok : StOk K s) (hK : K ≤ 1000000000) (hl1 : limit ≤ 1152921504606846976) :
    Calls Try.prog 34 #[.pointer (some ⟨p, 0, none⟩), .int .i64 limit] w fun e w' => e = .returned (strV (stretch s limit).2) ∧ RelI w p bl cap G (stretch s limit).1 w' := by
  have hn := hok.n
  have hn0 := hok.now0
  have hn1 := hok.now1
  have HOK := Lib.hid hok
  have H := Lib.hid h
  have hd := h.head
  obtain ⟨d0, d1⟩ := hd
  have hpl := h.lt p (.inl rfl)
  clear h hok
  go_enter Try.func34, Try.ntmps34
  go_wp2_with fail
  refine calls_gen (fun W => StrI w p bl cap G s.l.length w.heap.size (w.heap.size + 1) s.now s G W) ?_ ?_
  · refine ⟨(H.out.alloc _).alloc _, fun x hx => .inl hx, rfl, ((Fr.refl _ _).alloc _).alloc _, (Bk.new w _ _).alloc _, ?_, Nat.le_refl _, Nat.le_succ _⟩
    have := Bk.new (w.alloc (Obj.cells #[Value.int IntKind.i64 0, Value.int IntKind.i64 0, Value.int IntKind.i64 0, Value.bool false] 42)) 2 #[Value.int IntKind.i64 s.now]
    simpa using this
  rintro W0 hS0
  refine (release36 p bl cap K G s s.now W0 hS0.pl HOK.out hK hn0 hn1).mono ?_
  rintro e W1 ⟨rfl, hr1⟩
  obtain ⟨G1, hS1⟩ := hS0.rel (release_len _ _) hr1
  clear hS0 hr1
  have hOK1 := release_ok HOK.out hn1
  have hN1 := release_next HOK.out hn1
  generalize hs1 : release s.now s = s1 at *
  have hlen1 := hS1.len
  have HS1 := Lib.hid hs1
  have HOK1 := Lib.hid hOK1
  have HN1 := Lib.hid hN1
  have HI1 := Lib.hid hS1
  have HL1 := Lib.hid hlen1
  clear hs1 hOK1 hN1 hS1 hlen1 d0 d1
  go_wp2_with fail
  refine (first42 p bl cap G1 s1 W1 HI1.out.pl (by rw [HL1.out]; exact hn) (first_ok HOK1.out)).mono ?_
  rintro e W2 ⟨rfl, hb2⟩
  have hI2 := HI1.out.below hb2
  have HI2 := Lib.hid hI2
  have e3 := hI2.fk.cell 0
  have e4 := hI2.fk.frozen 0
  have e5 := hI2.fk.lt
  simp at e3
  clear hb2 hI2
  generalize hj : firstJ s1.l = j at *
  have HJ := Lib.hid hj
  clear hj
  go_upto_if 21 with fail
  go_cut [] (fun wx => ∃ G' frm s' j', StrI w p bl cap G s.l.length w.heap.size (w.heap.size + 1) frm s' G' wx ∧ Bk wx W2.heap.size 94 (jobCells j') ∧ StOk K s' ∧ (∀ x ∈ s'.l, frm < x.next) ∧ firstJ s'.l = j' ∧ 0 ≤ j'.task ∧ 0 ≤ frm ∧ frm ≤ 1152921504606846976 ∧ stretch s limit = (s', some (stretchAt s' frm j')))
  case first =>
    by_cases hj0 : j.task < 0
    · have HT := Lib.hid hj0
      go_wp2_with fail
      refine calls_gen (fun W => StrI w p bl cap G s.l.length w.heap.size (w.heap.size + 1) limit s1 G1 W ∧ Bk W W2.heap.size 94 (jobCells j)) ?_ ?_
      · have hx : StrI w p bl cap G s.l.length w.heap.size (w.heap.size + 1) limit s1 G1 (W2.setCell { block := w.heap.size + 1, off := 0 } (Value.int IntKind.i64 limit)) :=
          HI2.out.num (NumI.store ⟨HI2.out.pl, HI2.out.fk, Fr.refl _ _⟩ limit) (by omega)
        refine ⟨hx.below ((Below.refl _ _).alloc (Nat.le_refl _) _), ?_⟩
        have := Bk.new (W2.setCell { block := w.heap.size + 1, off := 0 } (Value.int IntKind.i64 limit)) 94 (jobCells j)
        simpa using this
      rintro W3 ⟨hI3, hb3⟩
      refine (each43_44 (.pointer (some ⟨w.heap.size + 1, 0, none⟩)) p bl cap s1.l.length (fun i W' => NumI W3 p bl cap G1 s1 (w.heap.size + 1) (minTo s1.l limit i) W') W3 ⟨hI3.pl, hI3.fk, Fr.refl _ _⟩ (fun i W' h => h.pl.head.1) (by rw [HL1.out]; exact hn) ?_).mono ?_
      · intro i W' hi hI
        refine (min44 W3 p bl cap G1 s1 (w.heap.size + 1) (minTo s1.l limit i) W' hI i hi).mono ?_
        rintro e w2 ⟨he, h2⟩
        refine ⟨he, ?_⟩
        show NumI W3 p bl cap G1 s1 (w.heap.size + 1) (minTo s1.l limit (i + 1)) w2
        rw [minTo, List.getElem?_eq_getElem hi]
        exact h2
      · rintro e W4 ⟨rfl, h4⟩
        have hI4 := hI3.num h4 (by omega)
        have hj4 := h4.fr.bk hb3 (by omega)
        have z0 := hI4.fk.cell 0
        have z1 := hI4.fk.frozen 0
        have s0 := hI4.sk.cell 0
        have s1' := hI4.sk.cell 1
        have s2 := hI4.sk.cell 2
        have s3 := hI4.sk.cell 3
        have f0 := hI4.sk.frozen 0
        have f1 := hI4.sk.frozen 1
        have f2 := hI4.sk.frozen 2
        have f3 := hI4.sk.frozen 3
        simp at z0 s0 s1' s2 s3
        have HI4 := Lib.hid hI4
        have HJ4 := Lib.hid hj4
        clear hI3 hb3 h4 hI4 hj4 e3 e4
        generalize hm : minTo s1.l limit s1.l.length = m at *
        have HM := Lib.hid hm
        clear hm
        have HST : Hid (stretch s limit = if m = limit then (s1, none) else (release m s1, some (stretchAt (release m s1) m (firstJ (release m s1).l)))) := by
          refine Lib.hid ?_
          unfold stretch
          simp only [HS1.out, HJ.out, HM.out]
          rw [if_neg (by have := HT.out; omega)]
        by_cases hml : m = limit
        · have HML := Lib.hid hml
          go_wp2_with fail
          obtain ⟨hrl, hbk⟩ := HI4.out.put ⟨0, 0, 0, false⟩
          refine bodyPost_ret (v := strV none) ?_ rfl ⟨by rw [HST.out, if_pos HML.out], ?_⟩
          · have q0 := hbk.cell 0
            have q1 := hbk.cell 1
            have q2 := hbk.cell 2
            have q3 := hbk.cell 3
            simp at q0 q1 q2 q3
            simp [results, Try.results34, go_sem, q0, q1, q2, q3, strV]
          · rw [HST.out, if_pos HML.out]
            exact hrl
        · have hmb : (m == limit) = false := by simp [hml]
          have HML := Lib.hid hml
          clear hml
          obtain ⟨m0, m1, m2⟩ := wakes_one HOK1.out hl1 (by rw [HM.out]; exact HML.out)
          rw [HM.out] at m0 m1 m2
          have HM2 := Lib.hid m2
          clear m2
          go_wp2_with fail
          refine (release36 p bl cap K G1 s1 m W4 HI4.out.pl HOK1.out hK m0 (by omega)).mono ?_
          rintro e W5 ⟨rfl, hr5⟩
          obtain ⟨G5, hI5⟩ := HI4.out.rel (release_len _ _) hr5
          have hj5 := hr5.fr.bk HJ4.out (by rw [release_len]; exact HI4.out.pl.not_own HJ4.out (by decide) (by decide) (by decide))
          have HOK5 := Lib.hid (release_ok HOK1.out (show m ≤ 1152921504606846976 by omega))
          have HN5 := Lib.hid (release_next HOK1.out (show m ≤ 1152921504606846976 by omega))
          clear hr5 z0 z1 s0 s1' s2 s3 f0 f1 f2 f3
          generalize hs5 : release m s1 = s5 at *
          have HS5 := Lib.hid hs5
          have HI5 := Lib.hid hI5
          have HJ5 := Lib.hid hj5
          clear hs5 hI5 hj5
          go_wp2_with fail
          refine (first42 p bl cap G5 s5 W5 HI5.out.pl (by rw [HI5.out.len]; exact hn) (first_ok HOK5.out)).mono ?_
          rintro e W6 ⟨rfl, hb6⟩
          have hI6 := HI5.out.below hb6
          have hj6 := HJ5.out.below hb6 HJ5.out.lt
          generalize hj' : firstJ s5.l = j5 at *
          have y0 := hj6.cell 0
          have y1 := hj6.cell 1
          have y2 := hj6.cell 2
          simp at y0 y1 y2
          have g0 := hj6.frozen 0
          have g1 := hj6.frozen 1
          have g2 := hj6.frozen 2
          have HI6 := Lib.hid hI6
          have HJ6 := Lib.hid hj6
          have HJ' := Lib.hid hj'
          clear hI6 hj6 hb6 hj'
          go_wp2_with fail
          go_meet
          refine ⟨G5, m, s5, j5, ?_, ?_, HOK5.out, HN5.out, HJ'.out, HM2.out, m0, by omega, ?_⟩
          · have n6 := HI6.out.pl.not_own HJ6.out (by decide) (by decide) (by decide)
            rw [HI6.out.len] at n6
            exact ((HI6.out.far (a := ⟨W2.heap.size, 0, none⟩) n6 (by show w.heap.size ≠ W2.heap.size; omega) (by show w.heap.size + 1 ≠ W2.heap.size; omega) (by show w.heap.size ≤ W2.heap.size; omega) _).far (a := ⟨W2.heap.size, 1, none⟩) n6 (by show w.heap.size ≠ W2.heap.size; omega) (by show w.heap.size + 1 ≠ W2.heap.size; omega) (by show w.heap.size ≤ W2.heap.size; omega) _).far (a := ⟨W2.heap.size, 2, none⟩) n6 (by show w.heap.size ≠ W2.heap.size; omega) (by show w.heap.size + 1 ≠ W2.heap.size; omega) (by show w.heap.size ≤ W2.heap.size; omega) _
          · have := ((HJ6.out.put 0 (.int .i64 j5.due)).put 1 (.int .i64 j5.rank)).put 2 (.int .i64 j5.task)
            simpa using this
          · rw [HST.out, if_neg HML.out]
    · have HT := Lib.hid (show 0 ≤ j.task by omega)
      go_wp2_with fail
      go_meet
      refine ⟨G1, s.now, s1, j, HI2.out.below ((Below.refl _ _).alloc (Nat.le_refl _) _), Bk.new _ _ _, HOK1.out, HN1.out, HJ.out, HT.out, hn0, hn1, ?_⟩
      unfold stretch
      simp only [HS1.out, HJ.out]
      rw [if_pos HT.out]
  case rest =>
    obtain ⟨G', frm, s', j', hI, hjb, hok', hnx, hfj, hj0, hf0, hf1, hst⟩ := hcut
    clear HS1 HOK1 HN1 HI1 HL1 HI2 HJ e3 e4
    obtain ⟨i, hi, hfi, hw, hti⟩ := first_some (l := s'.l) (by rw [hfj]; exact hj0)
    rw [hfj] at hti
    obtain ⟨c0, c1, c2, c3, c4, c5⟩ := hI.pl.cells hi
    obtain ⟨p0, p1⟩ := hI.pl.head
    have k0 := hI.fk.cell 0
    have b0 := hjb.cell 0
    have b1 := hjb.cell 1
    have b2 := hjb.cell 2
    have hlp := hI.pl.lt p (.inl rfl)
    have hlb := hI.pl.lt bl (.inr (.inl rfl))
    have hlf := hI.fk.lt
    have hlj := hjb.lt
    simp at k0 b0 b1 b2
    rw [hti] at b2
    obtain ⟨lf0, lf1⟩ := (hok'.lines _ (List.getElem_mem hi)).left hw
    have hilen : i < s.l.length := by rw [← hI.len]; exact hi
    have hin : (i : Int) < (s'.l.length : Int) := by omega
    have hgD : s'.l.getD j'.task.toNat ⟨⟨0, 0, 0⟩, 0, [], 0⟩ = s'.l[i] := by
      rw [hti]
      simp [List.getD_eq_getElem?_getD, List.getElem?_eq_getElem hi]
    have hse : stretchAt s' frm j' = (⟨i, frm, endTo s'.l j' (frm + s'.l[i].left) s'.l.length, decide (j'.due < endTo s'.l j' (frm + s'.l[i].left) s'.l.length)⟩, j'.due) := by
      unfold stretchAt
      rw [hgD]
      simp only [hti]
    have HSE := Lib.hid hse
    have HST := Lib.hid hst
    have HI := Lib.hid hI
    have HJB := Lib.hid hjb
    have HOK' := Lib.hid hok'
    have HTI := Lib.hid hti
    clear hse hst hI hjb hok' hti hnx hfj hj0 hfi hw hgD c0 c1 c2 c3 c4
    generalize hlv : s'.l[i].left = lf at *
    have HLF := Lib.hid hlv
    clear hlv
    have hsum : IntKind.i64.wrap (frm + lf) = frm + lf := by rw [IntKind.wrap_i64]; omega
    go_upto_region 11 with fail
    go_region
    go_wp2_with fail
    refine calls_gen (fun W => StrI w p bl cap G s.l.length w.heap.size (w.heap.size + 1) frm s' G' W ∧ Bk W W2.heap.size 94 (jobCells j') ∧ Bk W wc.heap.size 2 #[.int .i64 (frm + lf)]) ?_ ?_
    · exact ⟨(HI.out.below ((Below.refl _ _).alloc (Nat.le_refl _) _)).drewN 1, (HJB.out.alloc _).drew, (Bk.new wc _ _).drew⟩
    rintro W3 ⟨hI3, hj3, ht3⟩
    have hlen := HI.out.len
    refine (each43_45 (.pointer (some ⟨W2.heap.size, 0, none⟩)) (.pointer (some ⟨wc.heap.size, 0, none⟩)) p bl cap s'.l.length (fun i W' => NumI W3 p bl cap G' s' wc.heap.size (endTo s'.l j' (frm + lf) i) W' ∧ Bk W' W2.heap.size 94 (jobCells j')) W3 ⟨⟨hI3.pl, ht3, Fr.refl _ _⟩, hj3⟩ (fun i W' h => h.1.pl.head.1) (by rw [hlen]; exact hn) ?_).mono ?_
    · intro i W' hi hI
      have hx := HOK'.out.lines _ (List.getElem_mem hi)
      have hm := may_spec hx.may
      have hx1 := hx.n1
      refine (end45 W3 p bl cap G' s' wc.heap.size W2.heap.size j' (endTo s'.l j' (frm + lf) i) W' hI.1 hI.2 i hi ⟨hx.n0, by omega, hm.1, hm.2.1⟩).mono ?_
      rintro e w2 ⟨he, h2, h3⟩
      refine ⟨he, ?_, h3⟩
      show NumI W3 p bl cap G' s' wc.heap.size (endTo s'.l j' (frm + lf) (i + 1)) w2
      rw [endTo, List.getElem?_eq_getElem hi]
      exact h2
    · rintro e W4 ⟨rfl, h4, hj4⟩
      have hI4 := hI3.side h4.fr h4.pl (by omega) (by omega) (by omega)
      have t0 := h4.hb.cell 0
      have z0 := hI4.fk.cell 0
      have s0 := hI4.sk.cell 0
      have s1' := hI4.sk.cell 1
      have s2 := hI4.sk.cell 2
      have s3 := hI4.sk.cell 3
      have f0 := hI4.sk.frozen 0
      have f1 := hI4.sk.frozen 1
      have f2 := hI4.sk.frozen 2
      have f3 := hI4.sk.frozen 3
      have b0 := hj4.cell 0
      have b1 := hj4.cell 1
      have b2 := hj4.cell 2
      simp at t0 z0 s0 s1' s2 s3 b0 b1 b2
      rw [HTI.out] at b2
      have HI4 := Lib.hid hI4
      clear hI3 hj3 ht3 h4 hj4 hI4
      generalize hto : endTo s'.l j' (frm + lf) s'.l.length = te at *
      have HTO := Lib.hid hto
      clear hto
      have ne1 : ¬ w.heap.size = wc.heap.size := by omega
      have ne2 : ¬ w.heap.size = W2.heap.size := by omega
      have ne3 : ¬ w.heap.size = w.heap.size + 1 := by omega
      have ne4 : ¬ wc.heap.size = w.heap.size := by omega
      have ne5 : ¬ W2.heap.size = w.heap.size := by omega
      go_upto_region 13 with fail
      go_region_held3 (fun w' => w'.cell? ⟨W2.heap.size, 0, none⟩ = some (.int .i64 j'.due) ∧ w'.cell? ⟨W2.heap.size, 2, none⟩ = some (.int .i64 i) ∧ w'.cell? ⟨wc.heap.size, 0, none⟩ = some (.int .i64 te) ∧ w'.cell? ⟨w.heap.size + 1, 0, none⟩ = some (.int .i64 frm))
        (first | go_keep)
        (first | fail)
      go_wp2_with fail
      obtain ⟨hrl, hbk⟩ := HI4.out.put ⟨i, frm, te, decide (j'.due < te)⟩
      refine bodyPost_ret (v := strV (some (⟨i, frm, te, decide (j'.due < te)⟩, j'.due))) ?_ rfl ⟨by rw [HST.out]; rw [HSE.out], ?_⟩
      · have q0 := hbk.cell 0
        have q1 := hbk.cell 1
        have q2 := hbk.cell 2
        have q3 := hbk.cell 3
        simp at q0 q1 q2 q3
        simp [results, Try.results34, go_sem, q0, q1, q2, q3, strV]
      · rw [HST.out]
        exact hrl.drewN 1
end Go.Proofs.Ytcffjobefgecdaa
