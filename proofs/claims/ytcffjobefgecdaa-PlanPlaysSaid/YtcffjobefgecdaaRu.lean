/- The walk of the document's Until. -/
import Derived.Test.YtcffjobefgecdaaRl
import Derived.Test.YtcffjobefgecdaaRk
import Derived.Test.YtcffjobefgecdaaW
import Derived.Deep.CutBlock
namespace Go.Proofs.Ytcffjobefgecdaa.Ref
open Go.RowKit

theorem stretch_late {K : Nat} {s : PSt} {lim : Int} (hok : StOk K s) (hl : lim ≤ 1152921504606846976) : ∀ x d, (stretch s lim).2 = some (x, d) → d = (firstJ (stretch s lim).1.l).due ∧ x.late = decide (d < x.to) := by
  rcases stretch_cases hok hl with ⟨h, e⟩ | ⟨h, hm, e⟩ | ⟨m, h, hm, m0, m1, m2, m3, e⟩
  · rw [e]
    intro x d hx
    injection hx with hx
    unfold stretchAt at hx
    injection hx with h1 h2
    subst h1 h2
    exact ⟨rfl, rfl⟩
  · rw [e]
    intro x d hx
    cases hx
  · rw [e]
    intro x d hx
    injection hx with hx
    unfold stretchAt at hx
    injection hx with h1 h2
    subst h1 h2
    exact ⟨rfl, rfl⟩
def untilPost (w : World) (p bl cap : Nat) (G : Nat → Value) (r : PSt × List PSlot) (e : Ending) (w' : World) : Prop :=
  ∃ v, e = .returned v ∧ w'.ownsRow w.heap.size 42 4 v r.2.length (slotsL r.2) ∧ RelI w p bl cap G r.1 w'
set_option maxRecDepth 100000 in
set_option maxHeartbeats 4000000 in
theorem until29 (p bl cap K : Nat) (G : Nat → Value) (s : PSt) (tick : Int) (w : World) (h : PlanAt w p bl cap G s) (hok : StOk K s) (hK : K ≤ 1000000000) (hne : 0 < s.l.length) :
    Calls Try.prog 29 #[.pointer (some ⟨p, 0, none⟩), .int .i64 tick] w (untilPost w p bl cap G (untilS s tick)) := by
  have H := Lib.hid h
  have HOK := Lib.hid hok
  clear h hok
  obtain ⟨i42, hi42, hz42, hsz42, hby42⟩ := info_parts info42
  have HI42 := Lib.hid hi42
  have HZ42 := Lib.hid hz42
  have HS42 := Lib.hid hsz42
  have HB42 := Lib.hid hby42
  clear hi42 hz42 hsz42 hby42
  go_enter Try.func29, Try.ntmps29
  go_upto_region 4 with fail
  obtain ⟨t, ht⟩ : ∃ t : Int, (if (1152921504606846976 : Int) < tick then 1152921504606846976 else tick) = t := ⟨_, rfl⟩
  rw [ht]
  have HT : Hid ((if endT < tick then endT else tick) = t) := Lib.hid ht
  have ht1 : t ≤ 1152921504606846976 := by rw [← ht]; split <;> omega
  clear ht
  go_upto_block 0 with fail
  go_cut [6] (fun v wx => ∃ acc sE, wx.ownsRow w.heap.size 42 4 v acc.length (slotsL acc) ∧ acc.length ≤ 65536 ∧ RelI w p bl cap G sE wx ∧ StOk K sE ∧ untilGo t 65536 s = (sE, acc))
  case first =>
    go_wp2_with fail
    go_loopg [6, 7, 8, 9] 65536 (fun gq v _ _ _ wr => ∃ acc sk, gq = 65536 - acc.length ∧ acc.length ≤ 65536 ∧ wr.ownsRow w.heap.size 42 4 v acc.length (slotsL acc) ∧ RelI w p bl cap G sk wr ∧ StOk K sk ∧ 0 < sk.l.length ∧
      untilGo t 65536 s = ((untilGo t (65536 - acc.length) sk).1, acc ++ (untilGo t (65536 - acc.length) sk).2))
    case atStart => exact ⟨[], s, rfl, by simp, World.ownsRow_nil _ _ _ _, ⟨⟨G, H.out, fun x hx => .inl hx⟩, Fr.refl _ _⟩, HOK.out, hne, rfl⟩
    case round =>
      obtain ⟨acc, sk, rfl, hacc, hown, hrel', hok', hne', hgo⟩ := hrel
      obtain ⟨Gk, hpk, hstep⟩ := hrel'.step
      obtain ⟨d0, d1⟩ := hpk.head
      obtain ⟨A, c, rfl, _⟩ := Rd.own hown
      have hnI : (0 : Int) < (sk.l.length : Int) := by omega
      have HOWN := Lib.hid hown
      have HREL := Lib.hid hrel'
      have HOK' := Lib.hid hok'
      have HGO := Lib.hid hgo
      have HPK := Lib.hid hpk
      have HSTEP := Lib.hid hstep
      have hlp := hpk.lt p (.inl rfl)
      clear hown hrel' hok' hgo hpk hstep
      by_cases hnow : sk.now < t
      · by_cases hmost : acc.length = 65536
        · have hml : ¬ (acc.length : Int) < 65536 := by omega
          have HM := Lib.hid hmost
          go_wp2_with fail
          go_meet
          refine ⟨acc, sk, by simpa only [HM.out] using HOWN.out, hacc, HREL.out, HOK'.out, ?_⟩
          rw [HGO.out, HM.out]
          simp [untilGo]
        · have hml : (acc.length : Int) < 65536 := by omega
          have HM := Lib.hid hmost
          have HNOW := Lib.hid hnow
          clear hmost
          go_wp2_with fail
          refine (stretch38 p bl cap K Gk sk t wr HPK.out HOK'.out hK ht1 hne').mono ?_
          rintro e w1 ⟨rfl, hr1⟩
          obtain ⟨q1, q2, q3, q4⟩ := stretch_ok HOK'.out ht1
          have hlate := stretch_late HOK'.out ht1
          obtain ⟨m, hm⟩ : ∃ m, 65536 - acc.length = m + 1 := ⟨65536 - acc.length - 1, by have := HM.out; omega⟩
          have HMM := Lib.hid hm
          unfold strJ
          generalize hst : stretch sk t = st at *
          obtain ⟨s1, o1⟩ := st
          have HST := Lib.hid hst
          have hrel1 := HSTEP.out s1 w1 q2 hr1
          have hown1 := RelI.row HPK.out q2 hr1 HOWN.out
          have HREL1 := Lib.hid hrel1
          have HOWN1 := Lib.hid hown1
          have hbig1 : w.heap.size ≤ w1.heap.size := hrel1.base
          clear hst hm hr1 hrel1 hown1
          cases o1 with
          | none =>
            simp only [Option.map_none, strV]
            go_wp2_with fail
            go_meet
            refine ⟨acc, s1, own_below HOWN1.out ?_, hacc, HREL1.out.same ?_, q1, ?_⟩
            · exact ((Below.refl _ _).alloc (Nat.le_refl _) _).alloc (by simp) _
            · exact ((Below.refl _ _).alloc (Nat.le_refl _) _).alloc (by simp) _
            · rw [HGO.out, HMM.out, untilGo_none HNOW.out HST.out]
              simp
          | some xd =>
            obtain ⟨x, d⟩ := xd
            obtain ⟨⟨i, hsl⟩, q5, q6⟩ := q4 x d rfl
            obtain ⟨hdue, hlt⟩ := hlate x d rfl
            have hfrt := q6 HNOW.out
            simp only [Option.map_some, strV]
            simp only at hdue
            generalize firstJ s1.l = j at hdue ⊢
            have HSL := Lib.hid hsl
            have HQ1 := Lib.hid q1
            have HDUE := Lib.hid hdue
            have HLT := Lib.hid hlt
            clear q4 q5 q6 hsl q1 hlate hdue hlt
            go_upto_region 8 with fail
            refine wp_gen (fun W => Below w1.heap.size w1 W ∧ Bk W w1.heap.size 42 (slotCells ({ x with late := false } : PSlot)) ∧ Bk W (w1.heap.size + 1) 88 (jobCells j)) ?_ ?_
            · refine ⟨((Below.refl _ _).alloc (Nat.le_refl _) _).alloc (by simp) _, (Bk.new w1 _ _).alloc _, ?_⟩
              have := Bk.new (w1.alloc (.cells (slotCells ({ x with late := false } : PSlot)) 42)) 88 (jobCells j)
              simpa using this
            rintro W2 ⟨hb2, hs2, hj2⟩
            have x0 := hs2.cell 0
            have x1 := hs2.cell 1
            have x2 := hs2.cell 2
            have x3 := hs2.cell 3
            have y0 := hj2.cell 0
            have f2 := hs2.frozen 2
            have f3 := hs2.frozen 3
            simp at x0 x1 x2 x3 y0
            obtain ⟨to', hto⟩ : ∃ to' : Int, (if t < x.to then t else x.to) = to' := ⟨_, rfl⟩
            have hyc : cutAt t (x, d) = (⟨x.task, x.frm, to', decide (j.due < to')⟩ : PSlot) := by
              unfold cutAt
              rw [← hto, ← HDUE.out]
              simp only
              split
              · rfl
              · rw [← HLT.out]
            have HYC := Lib.hid hyc
            have HB2 := Lib.hid hb2
            have HS2 := Lib.hid hs2
            clear hyc hb2 hs2 hj2
            go_upto_region 9 with fail
            clear hto
            go_upto_region 10 with fail
            have hys : SlotOk s1 (cutAt t (x, d)) i := cut_ok HSL.out hfrt
            have hyt : (cutAt t (x, d)).to ≤ t := cut_to
            have hy1 : (cutAt t (x, d)).task = i := hys.task
            generalize hcy : cutAt t (x, d) = y at *
            have HCY := Lib.hid hcy
            have HYS := Lib.hid hys
            refine wp_gen (fun W => Below w1.heap.size w1 W ∧ Bk W w1.heap.size 42 (slotCells y)) ?_ ?_
            · refine ⟨(HB2.out.setCell (p := ⟨w1.heap.size, 2, none⟩) (Nat.le_refl _) _).setCell (p := ⟨w1.heap.size, 3, none⟩) (Nat.le_refl _) _, ?_⟩
              rw [HYC.out]
              have := (HS2.out.put 2 (.int .i64 to')).put 3 (.bool (decide (j.due < to')))
              simpa using this
            rintro W3 ⟨hb3, hs3⟩
            have x0 := hs3.cell 0
            have x1 := hs3.cell 1
            have x2 := hs3.cell 2
            have x3 := hs3.cell 3
            simp at x0 x1 x2 x3
            rw [hy1] at x0
            have hr3 := HREL1.out.same hb3
            have ho3 := own_below HOWN1.out hb3
            obtain ⟨G2, hp2, hst2⟩ := hr3.step
            have hi1 : i < s1.l.length := HSL.out.hi
            have lo := HQ1.out.lines (s1.l[i]'hi1) (List.getElem_mem hi1)
            obtain ⟨lf0, lf1⟩ := lo.left hys.wait
            have lwt : (s1.l[i]'hi1).wait.length ≤ 1000000000 := by have := lo.wt; unfold weight at this; omega
            have lnx := lo.n1
            have hylt := hys.lt
            have hyf := hys.f0
            have HB3 := Lib.hid hb3
            have HS3 := Lib.hid hs3
            have HO3 := Lib.hid ho3
            clear hb3 hr3 ho3 d0 d1 hcy
            go_wp2_with fail
            refine (run39 p bl cap G2 s1 i y.frm y.to y.late W3 hp2 hi1 lo.runs (by omega) hys.wait lwt lf0 lf1 hyf (by omega) hys.len (by omega)).mono ?_
            rintro e W4 ⟨rfl, hr4⟩
            have hde : done s1 ⟨i, y.frm, y.to, y.late⟩ = done s1 y := by
              simp only [← hy1]
            rw [hde] at hr4
            have hdl : (done s1 y).l.length = s1.l.length := by simp [done]
            have hr4' := hst2 _ W4 hdl hr4
            have ho4 := RelI.row hp2 hdl hr4 HO3.out
            have hb4 := hr4.fr.bk hs3 (by rw [hdl]; exact hp2.not_own hs3 (by decide) (by decide) (by decide))
            have hok4 : StOk K (done s1 y) := done_ok HQ1.out hys (by omega)
            have hbig4 := hr4'.base
            have b0 := hb4.cell 0
            have b1 := hb4.cell 1
            have b2 := hb4.cell 2
            have b3 := hb4.cell 3
            simp [hy1] at b0 b1 b2 b3
            have HR4 := Lib.hid hr4'
            have HO4 := Lib.hid ho4
            have HOK4 := Lib.hid hok4
            clear hs3 hys hp2 hst2 lo hr4 hr4' ho4 hb4 hok4 hde x0 x1 x2 x3
            generalize hs4 : done s1 y = s4 at *
            have hne4 : 0 < s4.l.length := by omega
            have HS4 := Lib.hid hs4
            clear hs4 hdl
            go_wp2_with (at_builtin; refine wpList_append_own _ rfl _ _ 45 rfl w.heap.size 42 i42 _ 4 32 Try.underlying45 HI42.out HZ42.out HS42.out HB42.out rfl (by decide) _ _ _ rfl (own_below HO4.out ((Below.refl _ _).alloc (Nat.le_refl _) _)) ⟨W4.heap.size, 0, none⟩ 1 1 [.int .i64 (i : Int), .int .i64 y.frm, .int .i64 y.to, .bool y.late] rfl rfl (cell_newL _ _ _) (by simp [Value.oneCell']) (by simp only [maxLen]; omega) (by omega) (by simp; omega) ?_)
            intro v' w5 hown5 hgr _
            have R2 := HR4.out.grown HO4.out (Nat.le_refl _) _ hgr
            have HR5 := Lib.hid R2
            have HO5 := Lib.hid hown5
            clear hown5 hgr R2
            go_wp2_with fail
            go_roundg (65536 - (acc.length + 1))
            case measure => have := HM.out; omega
            case rel =>
              refine ⟨acc ++ [y], s4, by simp, by have := HM.out; simp; omega, ?_, HR5.out, HOK4.out, hne4, ?_⟩
              · rw [slotsL_snoc, List.length_append]
                have := HO5.out
                simp only [slotL, hy1]
                exact this
              · have hm1 : 65536 - (acc ++ [y]).length = m := by have := HMM.out; simp; omega
                rw [hm1, HGO.out, HMM.out, untilGo_some HNOW.out HST.out, HCY.out, HS4.out]
                simp
      · go_wp2_with fail
        go_meet
        refine ⟨acc, sk, HOWN.out, hacc, HREL.out, HOK'.out, ?_⟩
        rw [HGO.out, untilGo_stop (by omega)]
        simp
  case rest =>
    obtain ⟨acc, sE, hown, hacc, hrel, hokE, hU⟩ := hcut
    have hUS := untilS_of HT.out hU
    obtain ⟨GE, hpE, hstep⟩ := hrel.step
    obtain ⟨d0, d1⟩ := hpE.head
    have fp := hpE.frozenP 1
    obtain ⟨A, c, rfl, _⟩ := Rd.own hown
    have HOWN := Lib.hid hown
    have HREL := Lib.hid hrel
    have HPE := Lib.hid hpE
    have HSTEP := Lib.hid hstep
    have HUS := Lib.hid hUS
    clear hown hrel hpE hstep hU hUS
    by_cases hlt : acc.length < 65536
    · have hlt' : (acc.length : Int) < 65536 := by omega
      have HLT := Lib.hid hlt
      clear hlt
      by_cases hmx : sE.now < t
      · go_wp2_with fail
        go_ret
        have hr : RelI wc p bl cap GE { sE with now := t } (wc.setCell ⟨p, 1, none⟩ (.int .i64 t)) := ⟨⟨GE, HPE.out.setNow t, fun x hx => .inl hx⟩, (Fr.refl _ _).setCell (.inl (.inl rfl)) _⟩
        refine ⟨.slice A acc.length c, rfl, ?_⟩
        rw [HUS.out, if_pos HLT.out]
        simp only [if_pos hmx]
        exact ⟨RelI.row HPE.out (by simp) hr HOWN.out, HSTEP.out _ _ (by simp) hr⟩
      · have hmx' : t ≤ sE.now := by omega
        go_wp2_with fail
        go_ret
        have hr : RelI wc p bl cap GE { sE with now := sE.now } (wc.setCell ⟨p, 1, none⟩ (.int .i64 sE.now)) := ⟨⟨GE, HPE.out.setNow sE.now, fun x hx => .inl hx⟩, (Fr.refl _ _).setCell (.inl (.inl rfl)) _⟩
        refine ⟨.slice A acc.length c, rfl, ?_⟩
        rw [HUS.out, if_pos HLT.out]
        simp only [if_neg (show ¬ sE.now < t by omega)]
        exact ⟨RelI.row HPE.out (by simp) hr HOWN.out, HSTEP.out _ _ (by simp) hr⟩
    · have hlt' : ¬ (acc.length : Int) < 65536 := by omega
      go_wp2_with fail
      go_ret
      refine ⟨.slice A acc.length c, rfl, ?_⟩
      rw [HUS.out, if_neg hlt]
      exact ⟨HOWN.out, HREL.out⟩
end Go.Proofs.Ytcffjobefgecdaa.Ref
