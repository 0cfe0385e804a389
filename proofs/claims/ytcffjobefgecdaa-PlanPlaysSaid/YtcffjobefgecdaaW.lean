/- The walk of Until. -/
import Derived.Test.YtcffjobefgecdaaI
import Derived.Test.YtcffjobefgecdaaQ
import Derived.Deep.CutBlock
namespace Go.Proofs.Ytcffjobefgecdaa
open Go.RowKit

theorem info42 : (Try.prog.info? 42).map (fun i => (i.zero, i.size, i.bytes)) = some (some (.agg #[.int .i64 0, .int .i64 0, .int .i64 0, .bool false]), 4, 32) := by kernel_rfl
abbrev slotL (x : PSlot) : List Value := [.int .i64 x.task, .int .i64 x.frm, .int .i64 x.to, .bool x.late]
def slotsL (l : List PSlot) : List Value := l.flatMap slotL
theorem slotsL_len (l : List PSlot) : (slotsL l).length = l.length * 4 := by
  unfold slotsL
  induction l with
  | nil => rfl
  | cons a t ih => simp only [List.flatMap_cons, List.length_append, ih, List.length_cons, List.length_nil]; omega
theorem slotsL_at (l : List PSlot) (j : Nat) (hj : j < l.length) (k : Nat) (hk : k < 4) : (slotsL l)[j * 4 + k]? = (slotL l[j])[k]? := by
  unfold slotsL
  induction l generalizing j with
  | nil => simp at hj
  | cons a t ih =>
    simp only [List.flatMap_cons]
    cases j with
    | zero =>
      rw [List.getElem?_append_left (by simp; omega)]
      simp
    | succ j =>
      rw [List.getElem?_append_right (by simp; omega), show (j + 1) * 4 + k - (slotL a).length = j * 4 + k by simp; omega]
      simpa using ih j (by simpa using hj)
theorem slotsL_snoc (l : List PSlot) (x : PSlot) : slotsL (l ++ [x]) = slotsL l ++ slotL x := by simp [slotsL]
/-- A row that is owned, and none of whose block turned. -/
theorem own_fr {w w' : World} {S : Nat → Prop} {base sz n : Nat} {e : TypeId} {v : Value} {xs : List Value} (h : w.ownsRow base e sz v n xs) (hf : Fr S w w') (hS : ∀ g cs, Bk w g e cs → ¬ S g) : w'.ownsRow base e sz v n xs := by
  refine ⟨h.1, ?_⟩
  rcases h.2 with h2 | ⟨g, cap, cur, rfl, hg, hh, rest⟩
  · exact .inl h2
  · exact .inr ⟨g, cap, cur, rfl, hg, (hf.block g (Array.getElem?_eq_some_iff.1 hh).1 (hS g cur hh)).trans hh, rest⟩

theorem RelI.step {w0 w1 : World} {p bl cap : Nat} {G0 : Nat → Value} {s1 : PSt} (h : RelI w0 p bl cap G0 s1 w1) : ∃ G1, PlanAt w1 p bl cap G1 s1 ∧ ∀ s2 w2, s2.l.length = s1.l.length → RelI w1 p bl cap G1 s2 w2 → RelI w0 p bl cap G0 s2 w2 := by
  obtain ⟨⟨G1, hp, ho⟩, hf⟩ := h
  refine ⟨G1, hp, fun s2 w2 hl h2 => ?_⟩
  obtain ⟨⟨G2, hp2, ho2⟩, hf2⟩ := h2
  rw [hl] at ho2 hf2
  refine RelI.of hl hp2 (fun x hx => ?_) (hf.trans hf2 ho)
  rcases ho2 x hx with h | h
  · exact ho x h
  · exact .inr (Nat.le_trans hf.size h)
theorem RelI.row {w1 w2 : World} {p bl cap : Nat} {G1 : Nat → Value} {s1 s2 : PSt} (hp : PlanAt w1 p bl cap G1 s1) (hl : s2.l.length = s1.l.length) (hr : RelI w1 p bl cap G1 s2 w2) {base sz n : Nat} {v : Value} {xs : List Value} (ho : w1.ownsRow base 42 sz v n xs) : w2.ownsRow base 42 sz v n xs := by
  refine own_fr ho hr.fr fun g cs hg => ?_
  rw [hl]
  exact hp.not_own hg (by decide) (by decide) (by decide)
theorem RelI.same {w0 w1 w2 : World} {p bl cap : Nat} {G0 : Nat → Value} {s : PSt} (h : RelI w0 p bl cap G0 s w1) (hb : Below w1.heap.size w1 w2) : RelI w0 p bl cap G0 s w2 := by
  obtain ⟨⟨G1, hp, ho⟩, hf⟩ := h
  exact ⟨⟨G1, hp.below hb, ho⟩, hf.trans (Fr.of_below hb (fun _ => False)) (fun _ h => h.elim)⟩
theorem RelI.base {w0 w1 : World} {p bl cap : Nat} {G0 : Nat → Value} {s : PSt} (h : RelI w0 p bl cap G0 s w1) : w0.heap.size ≤ w1.heap.size := h.fr.size

theorem untilS_of {s sE : PSt} {acc : List PSlot} {t tick : Int} (ht : (if endT < tick then endT else tick) = t) (h : untilGo t 65536 s = (sE, acc)) :
    untilS s tick = if acc.length < 65536 then ({ sE with now := if sE.now < t then t else sE.now }, acc) else (sE, acc) := by
  unfold untilS
  simp only [ht, mostN, h]
theorem untilGo_none {t : Int} {m : Nat} {s s1 : PSt} (hn : s.now < t) (h : stretch s t = (s1, none)) : untilGo t (m + 1) s = (s1, []) := by
  rw [untilGo, if_pos hn, h]
theorem untilGo_some {t : Int} {m : Nat} {s s1 : PSt} {x : PSlot} {d : Int} (hn : s.now < t) (h : stretch s t = (s1, some (x, d))) :
    untilGo t (m + 1) s = ((untilGo t m (done s1 (cutAt t (x, d)))).1, cutAt t (x, d) :: (untilGo t m (done s1 (cutAt t (x, d)))).2) := by
  rw [untilGo, if_pos hn, h]
theorem untilGo_stop {t : Int} {m : Nat} {s : PSt} (hn : ¬ s.now < t) : untilGo t m s = (s, []) := by
  cases m with
  | zero => rfl
  | succ m => rw [untilGo, if_neg hn]

theorem RelI.grown {w0 w1 w2 : World} {p bl cap : Nat} {G0 : Nat → Value} {s : PSt} (h : RelI w0 p bl cap G0 s w1) {base sz n : Nat} {v : Value} {xs : List Value} (ho : w1.ownsRow base 42 sz v n xs) (hb : w0.heap.size ≤ base) (o : Obj) (hg : (w1.alloc o).grownBy w2 v.ownBlock) :
    RelI w0 p bl cap G0 s w2 := by
  obtain ⟨⟨G1, hp, hown⟩, hf⟩ := h
  have hsz : (w1.alloc o).heap.size = w1.heap.size + 1 := by simp
  have keep : ∀ b, b < w1.heap.size → v.ownBlock ≠ some b → w2.heap[b]? = w1.heap[b]? := fun b hlt hne => (hg.block b (by omega) (Ne.symm hne)).trans (Below.heap_alloc w1 o b hlt)
  have hv : ∀ b, v.ownBlock = some b → base ≤ b ∧ ∃ cs, Bk w1 b 42 cs := by
    intro b hb
    rcases ho.2 with ⟨rfl, _⟩ | ⟨g, cp, cur, rfl, hbase, hh, _⟩
    · simp [Value.ownBlock] at hb
    · simp [Value.ownBlock] at hb
      subst hb
      exact ⟨hbase, cur, hh⟩
  refine ⟨⟨G1, hp.keep fun b hbo => keep b (hp.lt b hbo) fun e => ?_, hown⟩, ?_⟩
  · obtain ⟨_, cs, hk⟩ := hv b e
    exact hp.not_own hk (by decide) (by decide) (by decide) hbo
  · refine ⟨hg.os.trans hf.os, hg.tape.trans hf.tape, hg.output.trans hf.output, ?_, fun b hlt hn => ?_⟩
    · have := hg.size
      have := hf.size
      omega
    · have := hf.size
      rw [keep b (by omega) fun e => ?_]
      · exact hf.block b hlt hn
      · have := (hv b e).1
        omega
theorem cell_newL (w : World) (cs : List Value) (t : TypeId) : ∀ j v, cs[j]? = some v → (w.alloc (.cells cs.toArray t)).cell? ((⟨w.heap.size, 0, none⟩ : Addr).add j) = some v := by
  intro j v hv
  rw [Addr.add_lit, Nat.zero_add, (Bk.new w t cs.toArray).cell]
  simpa using hv

def untilPost (w : World) (p bl cap : Nat) (G : Nat → Value) (r : PSt × List PSlot) (e : Ending) (w' : World) : Prop :=
  ∃ v, e = .returned v ∧ w'.ownsRow w.heap.size 42 4 v r.2.length (slotsL r.2) ∧ RelI w p bl cap G r.1 w'

set_option maxHeartbeats 4000000 in
theorem until18_nil (tick : Int) (w : World) : Calls Try.prog 18 #[.pointer none, .int .i64 tick] w fun e w' => e = .returned (.slice none 0 0) ∧ w' = w := by
  go_enter Try.func18, Try.ntmps18
  go_wp2_with fail
  go_ret
  exact ⟨rfl, rfl⟩

set_option maxRecDepth 100000 in
set_option maxHeartbeats 4000000 in
theorem until18 (p bl cap K : Nat) (G : Nat → Value) (s : PSt) (tick : Int) (w : World) (h : PlanAt w p bl cap G s) (hok : StOk K s) (hK : K ≤ 1000000000) :
    Calls Try.prog 18 #[.pointer (some ⟨p, 0, none⟩), .int .i64 tick] w (untilPost w p bl cap G (untilS s tick)) := by
  have H := Lib.hid h
  have HOK := Lib.hid hok
  clear h hok
  go_enter Try.func18, Try.ntmps18
  obtain ⟨i42, hi42, hz42, hsz42, hby42⟩ := info_parts info42
  have HI42 := Lib.hid hi42
  have HZ42 := Lib.hid hz42
  have HS42 := Lib.hid hsz42
  have HB42 := Lib.hid hby42
  clear hi42 hz42 hsz42 hby42
  obtain ⟨t, ht⟩ : ∃ t, (if endT < tick then endT else tick) = t := ⟨_, rfl⟩
  have HT := Lib.hid ht
  clear ht
  have ht1 : t ≤ 1152921504606846976 := by rw [← HT.out]; unfold endT; split <;> omega
  go_upto_region 3 with fail
  go_cut [1] (fun v1 wx => v1 = .int .i64 t ∧ w = wx)
  case first =>
    go_wp2_with fail
    all_goals
      go_meet
      refine ⟨?_, rfl⟩
      rw [← HT.out]
      unfold endT
      congr 1
      split <;> omega
  case rest =>
    obtain ⟨rfl, rfl⟩ := hcut
    go_upto_block 0 with fail
    go_cut [5] (fun v wx => ∃ acc sE, wx.ownsRow w.heap.size 42 4 v acc.length (slotsL acc) ∧ acc.length ≤ 65536 ∧ RelI w p bl cap G sE wx ∧ StOk K sE ∧ untilGo t 65536 s = (sE, acc))
    case first =>
      go_wp2_with fail
      go_loopg [5, 6, 7, 8] 65536 (fun gq v _ _ _ wr => ∃ acc sk, gq = 65536 - acc.length ∧ acc.length ≤ 65536 ∧ wr.ownsRow w.heap.size 42 4 v acc.length (slotsL acc) ∧ RelI w p bl cap G sk wr ∧ StOk K sk ∧
        untilGo t 65536 s = ((untilGo t (65536 - acc.length) sk).1, acc ++ (untilGo t (65536 - acc.length) sk).2))
      case atStart => exact ⟨[], s, rfl, by simp, World.ownsRow_nil _ _ _ _, ⟨⟨G, H.out, fun x hx => .inl hx⟩, Fr.refl _ _⟩, HOK.out, rfl⟩
      case round =>
        obtain ⟨acc, sk, rfl, hacc, hown, hrel', hok', hgo⟩ := hrel
        obtain ⟨Gk, hpk, hstep⟩ := hrel'.step
        obtain ⟨d0, d1⟩ := hpk.head
        have hown2 := hown
        obtain ⟨A, c, rfl, _⟩ := Rd.own hown2
        have HOWN := Lib.hid hown
        have HREL := Lib.hid hrel'
        have HOK' := Lib.hid hok'
        have HGO := Lib.hid hgo
        have HPK := Lib.hid hpk
        have HSTEP := Lib.hid hstep
        have hlp := hpk.lt p (.inl rfl)
        clear hown hown2 hrel' hok' hgo hpk hstep
        by_cases hnow : sk.now < t
        · by_cases hmost : acc.length = 65536
          · have hml : ((acc.length : Int) == 65536) = true := by simp; omega
            have HM := Lib.hid hmost
            go_wp2_with fail
            go_ret
            have hU : untilGo t 65536 s = (sk, acc) := by
              rw [HGO.out, HM.out]
              simp [untilGo]
            refine ⟨.slice A acc.length c, by rw [HM.out]; rfl, ?_⟩
            rw [untilS_of HT.out hU, if_neg (by rw [HM.out]; omega)]
            exact ⟨HOWN.out, HREL.out⟩
          · have hml : ((acc.length : Int) == 65536) = false := by simp; omega
            have hml' : (acc.length == 65536) = false := by simp; omega
            have HM := Lib.hid hmost
            have HNOW := Lib.hid hnow
            clear hmost
            go_wp2_with fail
            refine (stretch34 p bl cap K Gk sk t wr HPK.out HOK'.out hK ht1).mono ?_
            rintro e w1 ⟨rfl, hr1⟩
            obtain ⟨q1, q2, q3, q4⟩ := stretch_ok HOK'.out ht1
            obtain ⟨m, hm⟩ : ∃ m, 65536 - acc.length = m + 1 := ⟨65536 - acc.length - 1, by have := HM.out; omega⟩
            have HMM := Lib.hid hm
            generalize hst : stretch sk t = st at *
            obtain ⟨s1, o1⟩ := st
            have HST := Lib.hid hst
            have hrel1 := HSTEP.out s1 w1 q2 hr1
            have hown1 := RelI.row HPK.out q2 hr1 HOWN.out
            have HREL1 := Lib.hid hrel1
            have HOWN1 := Lib.hid hown1
            have hbig1 : w.heap.size ≤ w1.heap.size := hrel1.base
            clear hst hm hr1 hrel1 hown1
            cases o1 with
            | none =>
              simp only [strV]
              go_wp2_with fail
              go_meet
              refine ⟨acc, s1, own_below HOWN1.out ?_, hacc, HREL1.out.same ?_, q1, ?_⟩
              · exact (Below.refl _ _).alloc (Nat.le_refl _) _
              · exact (Below.refl _ _).alloc (Nat.le_refl _) _
              · rw [HGO.out, HMM.out, untilGo_none HNOW.out HST.out]
                simp
            | some xd =>
              obtain ⟨x, d⟩ := xd
              obtain ⟨⟨i, hsl⟩, q5, q6⟩ := q4 x d rfl
              have hfrt := q6 HNOW.out
              have HSL := Lib.hid hsl
              have HQ1 := Lib.hid q1
              clear q4 q5 q6 hsl q1
              simp only [strV]
              by_cases hcut : t < x.to
              · have HC := Lib.hid hcut
                go_wp2_with fail
                refine calls_gen (fun W => RelI w p bl cap G s1 W ∧ W.ownsRow w.heap.size 42 4 (.slice A acc.length c) acc.length (slotsL acc) ∧ Bk W w1.heap.size 42 (slotCells (⟨x.task, x.frm, t, decide (d < t)⟩ : PSlot))) ?_ ?_
                · exact ⟨HREL1.out.same ((Below.refl _ _).alloc (Nat.le_refl _) _), own_below HOWN1.out ((Below.refl _ _).alloc (Nat.le_refl _) _), Bk.new w1 _ _⟩
                rintro W2 ⟨hr2, ho2, hb2⟩
                have hyc : cutAt t (x, d) = (⟨x.task, x.frm, t, decide (d < t)⟩ : PSlot) := by
                  unfold cutAt
                  rw [if_pos HC.out]
                have hys : SlotOk s1 (⟨x.task, x.frm, t, decide (d < t)⟩ : PSlot) i := by rw [← hyc]; exact cut_ok HSL.out hfrt
                have hyt : (⟨x.task, x.frm, t, decide (d < t)⟩ : PSlot).to ≤ t := by rw [← hyc]; exact cut_to
                obtain ⟨G2, hp2, hst2⟩ := hr2.step
                have hi1 : i < s1.l.length := HSL.out.hi
                have lo := HQ1.out.lines (s1.l[i]'hi1) (List.getElem_mem hi1)
                obtain ⟨lf0, lf1⟩ := lo.left hys.wait
                have lwt : (s1.l[i]'hi1).wait.length ≤ 1000000000 := by have := lo.wt; unfold weight at this; omega
                have lnx := lo.n1
                have hylt := hys.lt
                have hyf := hys.f0
                rw [HSL.out.task]
                refine (done35 p bl cap G2 s1 i (⟨x.task, x.frm, t, decide (d < t)⟩ : PSlot).frm (⟨x.task, x.frm, t, decide (d < t)⟩ : PSlot).to (⟨x.task, x.frm, t, decide (d < t)⟩ : PSlot).late W2 hp2 hi1 lo.runs (by omega) hys.wait lwt lf0 lf1 hyf (by omega) hys.len (by omega)).mono ?_
                rintro e W3 ⟨rfl, hr3⟩
                have hde : done s1 ⟨i, (⟨x.task, x.frm, t, decide (d < t)⟩ : PSlot).frm, (⟨x.task, x.frm, t, decide (d < t)⟩ : PSlot).to, (⟨x.task, x.frm, t, decide (d < t)⟩ : PSlot).late⟩ = done s1 (⟨x.task, x.frm, t, decide (d < t)⟩ : PSlot) := by
                  have := HSL.out.task
                  simp only [← this]
                rw [hde] at hr3
                have hdl : (done s1 (⟨x.task, x.frm, t, decide (d < t)⟩ : PSlot)).l.length = s1.l.length := by simp [done]
                have hr3' := hst2 _ W3 hdl hr3
                have ho3 := RelI.row hp2 hdl hr3 ho2
                have hb3 := hr3.fr.bk hb2 (by rw [hdl]; exact hp2.not_own hb2 (by decide) (by decide) (by decide))
                have hok3 : StOk K (done s1 (⟨x.task, x.frm, t, decide (d < t)⟩ : PSlot)) := done_ok HQ1.out hys (by omega)
                have hbig3 := hr3'.base
                have b0 := hb3.cell 0
                have b1 := hb3.cell 1
                have b2 := hb3.cell 2
                have b3 := hb3.cell 3
                simp [HSL.out.task] at b0 b1 b2 b3
                have HR3 := Lib.hid hr3'
                have HO3 := Lib.hid ho3
                have HOK3 := Lib.hid hok3
                have HYC := Lib.hid hyc
                clear hr2 ho2 hb2 hyc hys hp2 hst2 lo hr3 hr3' ho3 hb3 hok3 hde hdl d0 d1
                generalize hs3 : done s1 (⟨x.task, x.frm, t, decide (d < t)⟩ : PSlot) = s3 at *
                have HS3 := Lib.hid hs3
                clear hs3
                go_wp2_with (at_builtin; refine wpList_append_own _ rfl _ _ 45 rfl w.heap.size 42 i42 _ 4 32 Try.underlying45 HI42.out HZ42.out HS42.out HB42.out rfl (by decide) _ _ _ rfl (own_below HO3.out ((Below.refl _ _).alloc (Nat.le_refl _) _)) ⟨W3.heap.size, 0, none⟩ 1 1 [.int .i64 (i : Int), .int .i64 (⟨x.task, x.frm, t, decide (d < t)⟩ : PSlot).frm, .int .i64 (⟨x.task, x.frm, t, decide (d < t)⟩ : PSlot).to, .bool (⟨x.task, x.frm, t, decide (d < t)⟩ : PSlot).late] rfl rfl (cell_newL _ _ _) (by simp [Value.oneCell']) (by simp only [maxLen]; omega) (by omega) (by simp; omega) ?_)
                intro v' w5 hown5 hgr _
                have R2 := HR3.out.grown HO3.out (Nat.le_refl _) _ hgr
                have HR5 := Lib.hid R2
                have HO5 := Lib.hid hown5
                clear hown5 hgr R2
                go_wp2_with fail
                go_roundg (65536 - (acc.length + 1))
                case measure => have := HM.out; omega
                case rel =>
                  refine ⟨acc ++ [(⟨x.task, x.frm, t, decide (d < t)⟩ : PSlot)], s3, by simp, by have := HM.out; simp; omega, ?_, HR5.out, HOK3.out, ?_⟩
                  · rw [slotsL_snoc, List.length_append]
                    have := HO5.out
                    simp only [slotL, HSL.out.task]
                    exact this
                  · have hm1 : 65536 - (acc ++ [(⟨x.task, x.frm, t, decide (d < t)⟩ : PSlot)]).length = m := by have := HMM.out; simp; omega
                    rw [hm1, HGO.out, HMM.out, untilGo_some HNOW.out HST.out, HYC.out, HS3.out]
                    simp
              · have HC := Lib.hid (show ¬ t < x.to by omega)
                go_wp2_with fail
                refine calls_gen (fun W => RelI w p bl cap G s1 W ∧ W.ownsRow w.heap.size 42 4 (.slice A acc.length c) acc.length (slotsL acc) ∧ Bk W w1.heap.size 42 (slotCells x)) ?_ ?_
                · exact ⟨HREL1.out.same ((Below.refl _ _).alloc (Nat.le_refl _) _), own_below HOWN1.out ((Below.refl _ _).alloc (Nat.le_refl _) _), Bk.new w1 _ _⟩
                rintro W2 ⟨hr2, ho2, hb2⟩
                have hyc : cutAt t (x, d) = x := by
                  unfold cutAt
                  rw [if_neg (by have := HC.out; show ¬ t < x.to; omega)]
                have hys : SlotOk s1 x i := by rw [← hyc]; exact cut_ok HSL.out hfrt
                have hyt : x.to ≤ t := by rw [← hyc]; exact cut_to
                obtain ⟨G2, hp2, hst2⟩ := hr2.step
                have hi1 : i < s1.l.length := HSL.out.hi
                have lo := HQ1.out.lines (s1.l[i]'hi1) (List.getElem_mem hi1)
                obtain ⟨lf0, lf1⟩ := lo.left hys.wait
                have lwt : (s1.l[i]'hi1).wait.length ≤ 1000000000 := by have := lo.wt; unfold weight at this; omega
                have lnx := lo.n1
                have hylt := hys.lt
                have hyf := hys.f0
                rw [HSL.out.task]
                refine (done35 p bl cap G2 s1 i x.frm x.to x.late W2 hp2 hi1 lo.runs (by omega) hys.wait lwt lf0 lf1 hyf (by omega) hys.len (by omega)).mono ?_
                rintro e W3 ⟨rfl, hr3⟩
                have hde : done s1 ⟨i, x.frm, x.to, x.late⟩ = done s1 x := by
                  have := HSL.out.task
                  simp only [← this]
                rw [hde] at hr3
                have hdl : (done s1 x).l.length = s1.l.length := by simp [done]
                have hr3' := hst2 _ W3 hdl hr3
                have ho3 := RelI.row hp2 hdl hr3 ho2
                have hb3 := hr3.fr.bk hb2 (by rw [hdl]; exact hp2.not_own hb2 (by decide) (by decide) (by decide))
                have hok3 : StOk K (done s1 x) := done_ok HQ1.out hys (by omega)
                have hbig3 := hr3'.base
                have b0 := hb3.cell 0
                have b1 := hb3.cell 1
                have b2 := hb3.cell 2
                have b3 := hb3.cell 3
                simp [HSL.out.task] at b0 b1 b2 b3
                have HR3 := Lib.hid hr3'
                have HO3 := Lib.hid ho3
                have HOK3 := Lib.hid hok3
                have HYC := Lib.hid hyc
                clear hr2 ho2 hb2 hyc hys hp2 hst2 lo hr3 hr3' ho3 hb3 hok3 hde hdl d0 d1
                generalize hs3 : done s1 x = s3 at *
                have HS3 := Lib.hid hs3
                clear hs3
                go_wp2_with (at_builtin; refine wpList_append_own _ rfl _ _ 45 rfl w.heap.size 42 i42 _ 4 32 Try.underlying45 HI42.out HZ42.out HS42.out HB42.out rfl (by decide) _ _ _ rfl (own_below HO3.out ((Below.refl _ _).alloc (Nat.le_refl _) _)) ⟨W3.heap.size, 0, none⟩ 1 1 [.int .i64 (i : Int), .int .i64 x.frm, .int .i64 x.to, .bool x.late] rfl rfl (cell_newL _ _ _) (by simp [Value.oneCell']) (by simp only [maxLen]; omega) (by omega) (by simp; omega) ?_)
                intro v' w5 hown5 hgr _
                have R2 := HR3.out.grown HO3.out (Nat.le_refl _) _ hgr
                have HR5 := Lib.hid R2
                have HO5 := Lib.hid hown5
                clear hown5 hgr R2
                go_wp2_with fail
                go_roundg (65536 - (acc.length + 1))
                case measure => have := HM.out; omega
                case rel =>
                  refine ⟨acc ++ [x], s3, by simp, by have := HM.out; simp; omega, ?_, HR5.out, HOK3.out, ?_⟩
                  · rw [slotsL_snoc, List.length_append]
                    have := HO5.out
                    simp only [slotL, HSL.out.task]
                    exact this
                  · have hm1 : 65536 - (acc ++ [x]).length = m := by have := HMM.out; simp; omega
                    rw [hm1, HGO.out, HMM.out, untilGo_some HNOW.out HST.out, HYC.out, HS3.out]
                    simp
        · go_wp2_with fail
          go_meet
          refine ⟨acc, sk, HOWN.out, hacc, HREL.out, HOK'.out, ?_⟩
          rw [HGO.out, untilGo_stop (by omega)]
          simp
    case rest =>
      obtain ⟨acc, sE, hown, hacc, hrel, hokE, hU⟩ := hcut
      have hUS := untilS_of HT.out hU
      obtain ⟨GE, hpE, hstep⟩ := hrel.step
      obtain ⟨d0, d1⟩ := hpE.head
      have fp := hpE.frozenP 1
      have hown2 := hown
      obtain ⟨A, c, rfl, _⟩ := Rd.own hown2
      have HOWN := Lib.hid hown
      have HREL := Lib.hid hrel
      have HPE := Lib.hid hpE
      have HSTEP := Lib.hid hstep
      have HUS := Lib.hid hUS
      clear hown hown2 hrel hpE hstep hU hUS
      by_cases hlt : acc.length < 65536
      · have hlt' : (acc.length : Int) < 65536 := by omega
        have HLT := Lib.hid hlt
        clear hlt
        by_cases hmx : sE.now < t
        · go_wp2_with fail
          go_ret
          have hr : RelI wc p bl cap GE { sE with now := t } (wc.setCell ⟨p, 1, none⟩ (.int .i64 t)) := ⟨⟨GE, HPE.out.setNow t, fun x hx => .inl hx⟩, (Fr.refl _ _).setCell (.inl (.inl rfl)) _⟩
          refine ⟨.slice A acc.length c, rfl, ?_⟩
          rw [HUS.out, if_pos HLT.out]
          simp only [if_pos hmx]
          exact ⟨RelI.row HPE.out (by simp) hr HOWN.out, HSTEP.out _ _ (by simp) hr⟩
        · have hmx' : t ≤ sE.now := by omega
          go_wp2_with fail
          go_ret
          have hr : RelI wc p bl cap GE { sE with now := sE.now } (wc.setCell ⟨p, 1, none⟩ (.int .i64 sE.now)) := ⟨⟨GE, HPE.out.setNow sE.now, fun x hx => .inl hx⟩, (Fr.refl _ _).setCell (.inl (.inl rfl)) _⟩
          refine ⟨.slice A acc.length c, rfl, ?_⟩
          rw [HUS.out, if_pos HLT.out]
          simp only [if_neg (show ¬ sE.now < t by omega)]
          exact ⟨RelI.row HPE.out (by simp) hr HOWN.out, HSTEP.out _ _ (by simp) hr⟩
      · have hlt' : ¬ (acc.length : Int) < 65536 := by omega
        go_wp2_with fail
        go_ret
        refine ⟨.slice A acc.length c, rfl, ?_⟩
        rw [HUS.out, if_neg hlt]
        exact ⟨HOWN.out, HREL.out⟩
end Go.Proofs.Ytcffjobefgecdaa
