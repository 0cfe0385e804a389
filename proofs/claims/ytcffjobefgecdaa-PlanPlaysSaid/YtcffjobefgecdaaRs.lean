/- The walk of the document's twin. -/
import Derived.Test.YtcffjobefgecdaaRq
namespace Go.Proofs.Ytcffjobefgecdaa.Ref
open Go.RowKit

/-- The twin so far. -/
structure TwAt (w : World) (q k : Nat) (v : Value) (G : Nat → Value) (s : PSt) : Prop where
  hq : Bk w q 71 #[v, .int .i64 s.now]
  ho : w.ownsRow (q + 1) 74 6 v k (rowsL s.l G k)
  hw : ∀ i (hi : i < s.l.length), i < k → WaitAt w (G i) s.l[i].wait
  hg : ∀ i, i < k → ∀ b, blkOf (G i) = some b → q + 1 ≤ b
  ha : ∀ i j, i < k → j < k → i ≠ j → blkOf (G i) ≠ none → blkOf (G i) ≠ blkOf (G j)
theorem row_ne {w : World} {base n : Nat} {v : Value} {xs : List Value} (h : w.ownsRow base 74 6 v n xs) {b : Nat} {ds : Array Value} (hb : Bk w b 108 ds) : v.ownBlock ≠ some b := by
  intro e
  rcases h.2 with ⟨rfl, _⟩ | ⟨g, cap, cur, rfl, _, hh, _⟩
  · simp [Value.ownBlock] at e
  · simp [Value.ownBlock] at e
    subst e
    unfold Bk at hb
    rw [hb] at hh
    injection hh with hh
    injection hh with _ hh
    cases hh
theorem row_neq {w : World} {base n q : Nat} {v : Value} {xs : List Value} (h : w.ownsRow base 74 6 v n xs) (hq : q < base) : v.ownBlock ≠ some q := fun e => by
  have := (h.lt _ e).1
  omega
theorem TwAt.below {w w' : World} {q k : Nat} {v : Value} {G : Nat → Value} {s : PSt} (h : TwAt w q k v G s) (hb : Below w.heap.size w w') : TwAt w' q k v G s :=
  ⟨h.hq.below hb h.hq.lt, own_below h.ho hb, fun i hi hik => (h.hw i hi hik).keep fun g hgg => hb.block g ((h.hw i hi hik).lt g hgg).1, h.hg, h.ha⟩
theorem TwAt.step {w w1 w2 : World} {q k : Nat} {v v' g : Value} {G : Nat → Value} {s : PSt} (h : TwAt w q k v G s) (hk : k < s.l.length) (hb : Below w.heap.size w w1) (hw : WaitAt w1 g s.l[k].wait) (hv : ∀ b, blkOf g = some b → w.heap.size ≤ b)
    (ho2 : w2.ownsRow (q + 1) 74 6 v' (k + 1) (rowsL s.l G k ++ lineL s.l[k] g)) (hgr : w1.grownBy w2 v.ownBlock) : TwAt (w2.setCell ⟨q, 0, none⟩ v') q (k + 1) v' (fun i => if i = k then g else G i) s := by
  have h1 := h.below hb
  have hqv : v.ownBlock ≠ some q := row_neq h.ho (by omega)
  have hqv' : v'.ownBlock ≠ some q := row_neq ho2 (by omega)
  have hq0 := h.hq.lt
  refine ⟨?_, ?_, fun i hi hik => ?_, fun i hik b hbk => ?_, fun i j hi hj hij hne => ?_⟩
  · have : Bk w2 q 71 #[v, .int .i64 s.now] := (hgr.block q h1.hq.lt (Ne.symm hqv)).trans h1.hq
    simpa using this.put 0 v'
  · rw [rowsL_succ hk, if_pos rfl, rowsL_congr (G' := G) (fun i hi => if_neg (by omega))]
    refine ho2.kept (grown_set (World.grownBy.refl _ _) 0 v') ?_
    cases e : v'.ownBlock with
    | none => exact .inl rfl
    | some x => exact .inr fun e2 => hqv' (e.trans e2)
  · have fin : ∀ {u : Value}, WaitAt w1 u s.l[i].wait → (∀ b, blkOf u = some b → b ≠ q) → WaitAt (w2.setCell ⟨q, 0, none⟩ v') u s.l[i].wait := by
      intro u hu hne
      refine hu.keep fun b hbb => ?_
      obtain ⟨hlt, ds, hd⟩ := hu.lt b hbb
      rw [Below.heap_setCell _ _ _ _ (hne b hbb)]
      exact hgr.block b hlt fun e => row_ne h1.ho hd e.symm
    by_cases e : i = k
    · subst e
      rw [if_pos rfl]
      exact fin hw fun b hbb => by have := hv b hbb; omega
    · rw [if_neg e]
      exact fin (h1.hw i hi (by omega)) fun b hbb => by have := h.hg i (by omega) b hbb; omega
  · by_cases e : i = k
    · rw [if_pos e] at hbk
      have := hv b hbk
      omega
    · rw [if_neg e] at hbk
      exact h.hg i (by omega) b hbk
  · have old : ∀ i, i < k → ∀ b, blkOf (G i) = some b → b < w.heap.size := fun i hi b hbb => ((h.hw i (by omega) hi).lt b hbb).1
    by_cases e : i = k
    · rw [if_pos e] at hne ⊢
      rw [if_neg (show ¬ j = k by omega)]
      intro heq
      obtain ⟨b, hb'⟩ := Option.ne_none_iff_exists'.1 hne
      rw [hb'] at heq
      have := hv b hb'
      have := old j (by omega) b heq.symm
      omega
    · rw [if_neg e] at hne ⊢
      by_cases e2 : j = k
      · rw [if_pos e2]
        intro heq
        obtain ⟨b, hb'⟩ := Option.ne_none_iff_exists'.1 hne
        rw [hb'] at heq
        have := hv b heq.symm
        have := old i (by omega) b hb'
        omega
      · rw [if_neg e2]
        exact h.ha i j (by omega) (by omega) hij hne

def twinPost (w : World) (s : PSt) (e : Ending) (w' : World) : Prop := ∃ q bl cap G, e = .returned (.pointer (some ⟨q, 0, none⟩)) ∧ PlanAt w' q bl cap G s ∧ (∀ x, own q bl G s.l.length x → w.heap.size ≤ x) ∧ Below w.heap.size w w'
set_option maxRecDepth 100000 in
set_option maxHeartbeats 4000000 in
theorem twin37 (p bl cap : Nat) (G : Nat → Value) (s : PSt) (w : World) (h : PlanAt w p bl cap G s) (hn : s.l.length ≤ 256) (h0 : 0 < s.l.length) (hwl : ∀ x ∈ s.l, x.wait.length ≤ 1000000000) :
    Calls Try.prog 37 #[.pointer (some ⟨p, 0, none⟩)] w (twinPost w s) := by
  obtain ⟨d0, d1⟩ := h.head
  have H := Lib.hid h
  obtain ⟨n, hnl⟩ : ∃ n, s.l.length = n := ⟨_, rfl⟩
  rw [hnl] at d0 hn h0
  have HN := Lib.hid hnl
  have HWL := Lib.hid hwl
  have hlp := h.lt p (.inl rfl)
  clear h hnl hwl
  go_enter Try.func37, Try.ntmps37
  go_wp2_with fail
  go_loopw [4, 5] (fun i _ wr => ∃ (k : Nat) (v : Value) (G2 : Nat → Value), k ≤ n ∧ i = .int .i64 k ∧ TwAt wr w.heap.size k v G2 s ∧ Below w.heap.size w wr) (fun i _ _ => n - (intOf i).toNat)
  case atStart => exact ⟨0, .slice none 0 0, nilG, by omega, rfl, ⟨Bk.new w _ _, World.ownsRow_nil _ _ _ _, fun i hi h => by omega, fun i h => by omega, fun i j h => by omega⟩, (Below.refl _ _).alloc (Nat.le_refl _) _⟩
  case round =>
    obtain ⟨k, v, G2, hk, rfl, htw, hb⟩ := hrel
    have HTW := Lib.hid htw
    have HB := Lib.hid hb
    have hsz := hb.size
    have hp := H.out.below hb
    obtain ⟨d0, d1⟩ := hp.head
    rw [HN.out] at d0
    have hlq := htw.hq.lt
    have HP := Lib.hid hp
    clear htw hb hp
    by_cases hlt : k < n
    · have hks : k < s.l.length := by rw [HN.out]; exact hlt
      obtain ⟨c0, c1, c2, c3, c4, c5⟩ := HP.out.cells hks
      have hwk := HP.out.hw k hks
      obtain ⟨A, cw, hG⟩ := hwk.len
      rw [hG] at c4
      rw [hG] at hwk
      have hwlk : s.l[k].wait.length ≤ 1000000000 := HWL.out _ (List.getElem_mem hks)
      obtain ⟨x, hx⟩ : ∃ x, s.l[k] = x := ⟨_, rfl⟩
      rw [hx] at c0 c1 c2 c3 c4 c5 hwlk hwk
      have HX := Lib.hid hx
      have HWK := Lib.hid hwk
      clear hwk hG hx
      go_upto_region 6 with fail
      refine wp_gen (fun W => Below wr.heap.size wr W ∧ Bk W wr.heap.size 74 (lineL x (.slice A x.wait.length cw)).toArray) ?_ ?_
      · exact ⟨(Below.refl _ _).alloc (Nat.le_refl _) _, Bk.new wr _ _⟩
      rintro W1 ⟨hb1, hl1⟩
      have e4 := hl1.cell 4
      have hlc := hl1.lt
      simp at e4
      have HB1 := Lib.hid hb1
      have HL1 := Lib.hid hl1
      clear hb1 hl1 c0 c1 c2 c3 c4 c5 d0 d1
      go_wp2_with (at_builtin; refine wpList_fresh _ rfl _ _ rfl rfl (.slice A x.wait.length cw) x.wait W1.heap.size rfl rfl (Bk.new W1 _ _) ?_ hwlk ?_)
      · exact ((HWK.out.keep fun g hg => HB1.out.block g (HWK.out.lt g hg).1).alloc _).src
      intro g w3 hw3 hgr3 hv3
      obtain ⟨A3, c3, rfl⟩ := hw3.len
      have hb3 : Below wr.heap.size wr w3 := (HB1.out.alloc HB1.out.size _).grown hgr3 (by have := HB1.out.size; simp; omega) (fun q hq => by injection hq with hq; have := HB1.out.size; omega)
      have hl3 : Bk w3 wr.heap.size 74 (lineL x (.slice A x.wait.length cw)).toArray := (HL1.out.alloc _).grown hgr3 (fun e => by injection e with e; omega)
      have hv4 : ∀ b, blkOf (Value.slice A3 x.wait.length c3) = some b → wr.heap.size < b := fun b hb => by have := hv3 b hb; have := HB1.out.size; simp at *; omega
      have e4 := hl3.cell 4
      have z4 := hl3.frozen 4
      simp at e4
      have HB3 := Lib.hid hb3
      have HL3 := Lib.hid hl3
      have HV4 := Lib.hid hv4
      have HW3 := Lib.hid hw3
      clear hw3 hgr3 hv3 hb3 hl3 hv4
      go_upto_region 7 with fail
      refine wp_gen (fun W => Below wr.heap.size wr W ∧ Bk W wr.heap.size 74 (lineL x (.slice A3 x.wait.length c3)).toArray ∧ WaitAt W (.slice A3 x.wait.length c3) x.wait) ?_ ?_
      · refine ⟨HB3.out.setCell (p := ⟨wr.heap.size, 4, none⟩) (Nat.le_refl _) _, by simpa using HL3.out.put 4 (.slice A3 x.wait.length c3), HW3.out.keep fun g hg => Below.heap_setCell _ _ _ _ ?_⟩
        have := HV4.out g hg
        show g ≠ wr.heap.size
        omega
      rintro W2 ⟨hb2, hl2, hw2⟩
      have htw2 := HTW.out.below hb2
      have hq := htw2.hq
      have d0 := hq.cell 0
      have z0 := hq.frozen 0
      have hlq2 := hq.lt
      have e0 := hl2.cell 0
      have e1 := hl2.cell 1
      have e2 := hl2.cell 2
      have e3 := hl2.cell 3
      have e4 := hl2.cell 4
      have e5 := hl2.cell 5
      simp at d0 e0 e1 e2 e3 e4 e5
      have hvb : v.ownBlock ≠ some w.heap.size := row_neq htw2.ho (by omega)
      have d0' := fun o => (World.cell?_alloc_lt W2 o ⟨w.heap.size, 0, none⟩ hlq2).trans d0
      have z0' := fun o => (World.frozen?_of_block (a := ⟨w.heap.size, 0, none⟩) (Below.heap_alloc W2 o w.heap.size hlq2)).trans z0
      have HB2 := Lib.hid hb2
      have HW2 := Lib.hid hw2
      have HO2 := Lib.hid htw2.ho
      clear hb2 hl2 hw2 htw2 hq
      go_wp2_with fail
      go_region_law (refine step_line_append rfl _ _ rfl rfl (w.heap.size + 1) k v (rowsL s.l G2 k) rfl (own_drewN (HO2.out.alloc _) 1) (by simp; omega) W2.heap.size x (.slice A3 x.wait.length c3) rfl (Bk.new W2 74 (lineL x (.slice A3 x.wait.length c3)).toArray).drew rfl (by omega) ?_; intro v' w4 hw4 hgr hbv; obtain ⟨A2, c2, rfl, _⟩ := Rd.own hw4; have q4 := (hgr.cell_far ⟨w.heap.size, 0, none⟩ (by simp; omega) (Ne.symm hvb)).trans (d0' _); have q5 := (hgr.frozen_far ⟨w.heap.size, 0, none⟩ (by simp; omega) (Ne.symm hvb)).trans (z0' _))
      all_goals
        obtain ⟨v', hv'⟩ : ∃ v' : Value, Value.slice A2 (k + 1) c2 = v' := ⟨_, rfl⟩
        have HVV := Lib.hid hv'
        have hbx := (HB2.out.alloc HB2.out.size (.cells (lineL x (.slice A3 x.wait.length c3)).toArray 74)).drew
        have st := HTW.out.step hks hbx (g := .slice A3 x.wait.length c3) (by rw [HX.out]; exact (HW2.out.alloc _).drew1) (fun b hb => Nat.le_of_lt (HV4.out b hb)) (by rw [HX.out]; exact hw4) hgr
        have hbw := ((below_to HB.out hbx HB.out.size).grown hgr (by have := HB2.out.size; simp; omega) (fun q hq => by have := (HO2.out.lt q hq).1; omega)).setCell (p := ⟨w.heap.size, 0, none⟩) (Nat.le_refl _) (.slice A2 (k + 1) c2)
        have ST := Lib.hid st
        have HBW := Lib.hid hbw
        clear hw4 hgr hbv hv' hbx st hbw
        go_wp2_with fail
        go_roundw
        case rel => exact ⟨k + 1, _, _, by omega, by go_num, ST.out, HBW.out⟩
        case measure => simp [intOf]; omega
    · obtain rfl : k = n := by omega
      obtain ⟨bl', cap', hbl, hp⟩ := plan_of_row (s := s) HN.out (by omega) HTW.out.hq HTW.out.ho (fun i hi => HTW.out.hw i hi (by rw [← HN.out]; exact hi)) (fun i j hi hj => HTW.out.ha i j (by rw [← HN.out]; exact hi) (by rw [← HN.out]; exact hj))
      have hown : ∀ x, own w.heap.size bl' G2 s.l.length x → w.heap.size ≤ x := by
        rintro x (rfl | rfl | ⟨i, hi, hx⟩)
        · exact Nat.le_refl _
        · omega
        · have := HTW.out.hg i (by rw [← HN.out]; exact hi) x hx
          omega
      have HPP := Lib.hid hp
      have HOO := Lib.hid hown
      clear hp hown
      go_wp2_with fail
      go_ret
      exact ⟨w.heap.size, bl', cap', G2, rfl, HPP.out, HOO.out, HB.out⟩
end Go.Proofs.Ytcffjobefgecdaa.Ref
