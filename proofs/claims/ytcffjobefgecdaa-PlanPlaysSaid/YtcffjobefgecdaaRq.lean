/- The walk of the document's New. -/
import Derived.Test.YtcffjobefgecdaaRn
namespace Go.Proofs.Ytcffjobefgecdaa.Ref
open Go.RowKit

/-- The document's plan in memory, all of it from a block on. -/
def RefAt (base : Nat) (w : World) (p : Nat) (s : PSt) : Prop := base ≤ p ∧
  ((s.l = [] ∧ Bk w p 71 #[.slice none 0 0, .int .i64 s.now]) ∨ (0 < s.l.length ∧ ∃ bl cap G, PlanAt w p bl cap G s ∧ ∀ x, own p bl G s.l.length x → base ≤ x))
def newPostR (w : World) (l : List PTask) (e : Ending) (w' : World) : Prop := Below w.heap.size w w' ∧
  ((newR l ≠ 0 ∧ e = .returned (.tuple #[.pointer none, .int .i64 (newR l)])) ∨ (newR l = 0 ∧ ∃ p, e = .returned (.tuple #[.pointer (some ⟨p, 0, none⟩), .int .i64 0]) ∧ RefAt w.heap.size w' p (newS l)))
theorem own_drewN {w : World} {base sz n : Nat} {e : TypeId} {v : Value} {xs : List Value} (h : w.ownsRow base e sz v n xs) (k : Nat) : (w.drewN k).ownsRow base e sz v n xs := h
theorem grown_set {a b : World} {g : Nat} (h : a.grownBy b (some g)) (o : Nat) (u : Value) : a.grownBy (b.setCell ⟨g, o, none⟩ u) (some g) :=
  ⟨h.os, h.tape, h.output, by simpa [World.setCell] using h.size, fun k hk hn => (Below.heap_setCell b ⟨g, o, none⟩ u k (by rintro rfl; exact hn rfl)).trans (h.block k hk hn)⟩
abbrev nilG : Nat → Value := fun _ => .slice none 0 0
theorem newS_at (l : List PTask) (k : Nat) (hk : k < l.length) (h : k < (newS l).l.length) : (newS l).l[k] = ln l[k] := by simp [newS, ln]

set_option maxRecDepth 100000 in
set_option maxHeartbeats 4000000 in
theorem new11 (B : Nat) (A : Option Addr) (c : Nat) (l : List PTask) (w : World) (h : Rd w B 3 A l.length (tasksL l)) (hB : B ≤ w.heap.size) (hlen : l.length ≤ 9223372036854775807) :
    Calls Try.prog 11 #[.slice A l.length c] w (newPostR w l) := by
  by_cases hbig : 256 < l.length
  · have hR : newR l = 3 := by simp [newR, hbig]
    have HR := Lib.hid hR
    have hb' : (256 : Int) < (l.length : Int) := by omega
    clear hR h
    go_enter Try.func11, Try.ntmps11
    go_wp2_with fail
    exact bodyPost_ret (v := .tuple #[.pointer none, .int .i64 3]) (by simp [results, Try.results11, go_sem]) rfl ⟨Below.refl _ _, .inl ⟨by rw [HR.out]; decide, by rw [HR.out]⟩⟩
  · have hb' : ¬ (256 : Int) < (l.length : Int) := by omega
    have H := Lib.hid h
    obtain ⟨n, hnl⟩ : ∃ n, l.length = n := ⟨_, rfl⟩
    have hn : n ≤ 256 := by omega
    rw [hnl] at hb' hbig
    have HN := Lib.hid hnl
    rw [hnl]
    clear hnl h
    go_enter Try.func11, Try.ntmps11
    go_wp2_with fail
    go_loopw [5] (fun i wr => ∃ (k : Nat) (v : Value), k ≤ n ∧ i = .int .i64 k ∧ Bk wr w.heap.size 71 #[v, .int .i64 0] ∧ wr.ownsRow (w.heap.size + 1) 74 6 v k (rowsL (newS l).l nilG k) ∧ Below w.heap.size w wr ∧ (∀ j, j < k → ∀ hj : j < l.length, mayB l[j] = true) ∧ (k = 0 → v = .slice none 0 0)) (fun i _ => n - (intOf i).toNat)
    case atStart => exact ⟨0, .slice none 0 0, by omega, rfl, Bk.new w _ _, World.ownsRow_nil _ _ _ _, (Below.refl _ _).alloc (Nat.le_refl _) _, fun j hj => by omega, fun _ => rfl⟩
    case round =>
      obtain ⟨k, v, hk, rfl, hq, hown, hbel, hmay, hv0⟩ := hrel
      have HV0 := Lib.hid hv0
      clear hv0
      have HQ := Lib.hid hq
      have HO := Lib.hid hown
      have HBL := Lib.hid hbel
      have HMAY := Lib.hid hmay
      have hlq := hq.lt
      clear hq hown hmay
      by_cases hlt : k < n
      · have hkl : k < l.length := by rw [HN.out]; exact hlt
        obtain ⟨b, off, hl', rfl, hb, t0, t1, t2⟩ := H.out.task hkl
        have hbw : b < w.heap.size := by omega
        have u0 := (hbel.cell (p := ⟨b, off + k * 3, none⟩) hbw).trans t0
        have u1 := (hbel.cell (p := ⟨b, off + k * 3 + 1, none⟩) hbw).trans t1
        have u2 := (hbel.cell (p := ⟨b, off + k * 3 + 2, none⟩) hbw).trans t2
        obtain ⟨t, ht⟩ : ∃ t, l[k] = t := ⟨_, rfl⟩
        rw [ht] at u0 u1 u2
        have HT := Lib.hid ht
        clear hbel t0 t1 t2 ht
        go_wp2_with fail
        refine (may26 t wr).mono ?_
        rintro e W1 ⟨rfl, hbb⟩
        have hq1 := HQ.out.below hbb hlq
        have HQ1 := Lib.hid hq1
        have HO1 := Lib.hid (own_below HO.out hbb)
        have HB1 := Lib.hid (below_to HBL.out hbb HBL.out.size)
        have hbwr : b < wr.heap.size := by have := HBL.out.size; omega
        have v0 := (hbb.cell (p := ⟨b, off + k * 3, none⟩) hbwr).trans u0
        have v1 := (hbb.cell (p := ⟨b, off + k * 3 + 1, none⟩) hbwr).trans u1
        have v2 := (hbb.cell (p := ⟨b, off + k * 3 + 2, none⟩) hbwr).trans u2
        have d0 := hq1.cell 0
        have z0 := hq1.frozen 0
        have hlq1 := hq1.lt
        have hszb : b < W1.heap.size := Nat.lt_of_lt_of_le hbwr hbb.size
        simp at d0
        clear hbb hq1 u0 u1 u2
        cases hm : mayB t
        · have HM := Lib.hid hm
          clear hm
          go_wp2_with fail
          have hR : newR l = 240 := by
            unfold newR
            rw [if_neg (by rw [HN.out]; exact hbig), if_neg]
            intro h
            rw [List.all_eq_true] at h
            have := h l[k] (List.getElem_mem hkl)
            rw [HT.out, HM.out] at this
            cases this
          exact bodyPost_ret (v := .tuple #[.pointer none, .int .i64 240]) (by simp [results, Try.results11, go_sem]) rfl ⟨HB1.out, .inl ⟨by rw [hR]; decide, by rw [hR]⟩⟩
        · have HM := Lib.hid hm
          clear hm
          have hvb : v.ownBlock ≠ some w.heap.size := fun e => by have := (HO1.out.lt _ e).1; omega
          have d0' := fun o => (World.cell?_alloc_lt W1 o ⟨w.heap.size, 0, none⟩ hlq1).trans d0
          have z0' := fun o => (World.frozen?_of_block (a := ⟨w.heap.size, 0, none⟩) (Below.heap_alloc W1 o w.heap.size hlq1)).trans z0
          go_wp2_with fail
          go_region_law (refine step_line_append rfl _ _ rfl rfl (w.heap.size + 1) k v (rowsL (newS l).l nilG k) rfl (own_drewN (HO1.out.alloc _) 1) (by simp; omega) W1.heap.size (ln t) (.slice none 0 0) rfl (Bk.new W1 74 (lineL (ln t) (.slice none 0 0)).toArray).drew rfl (by omega) ?_; intro v' w2 hw2 hgr hbv; obtain ⟨A2, c2, rfl, _⟩ := Rd.own hw2; have q4 := (hgr.cell_far ⟨w.heap.size, 0, none⟩ (by simp; omega) (Ne.symm hvb)).trans (d0' _); have q5 := (hgr.frozen_far ⟨w.heap.size, 0, none⟩ (by simp; omega) (Ne.symm hvb)).trans (z0' _))
          all_goals
            obtain ⟨v', hv'⟩ : ∃ v' : Value, Value.slice A2 (k + 1) c2 = v' := ⟨_, rfl⟩
            have HVV := Lib.hid hv'
            have e1 : w2.ownsRow (w.heap.size + 1) 74 6 v' (k + 1) (rowsL (newS l).l nilG (k + 1)) := by
              rw [rowsL_succ (by simpa [newS] using hkl), newS_at l k hkl (by simpa [newS] using hkl), HT.out]
              rw [← hv']
              exact hw2
            have e2 : Bk w2 w.heap.size 71 #[v, .int .i64 0] := (hgr.block w.heap.size (by simp; omega) (Ne.symm hvb)).trans (HQ1.out.alloc _)
            have e3 : Below w.heap.size w w2 := ((HB1.out.alloc HB1.out.size _).drew).grown hgr (by simp; omega) (fun q hq => by have := (HO1.out.lt q hq).1; omega)
            have E1 := Lib.hid e1
            have E2 := Lib.hid e2
            have E3 := Lib.hid e3
            clear hw2 hgr hbv e1 e2 e3 hv'
            go_wp2_with fail
            go_roundw
            case rel =>
              rw [HVV.out]
              refine ⟨k + 1, v', by omega, by go_num, by simpa using E2.out.put 0 v', ?_, E3.out.setCell (p := ⟨w.heap.size, 0, none⟩) (Nat.le_refl _) _, ?_, fun h => by omega⟩
              · refine E1.out.kept (grown_set (World.grownBy.refl _ _) 0 v') ?_
                cases hv : v'.ownBlock with
                | none => exact .inl rfl
                | some x => exact .inr fun e => by have := (E1.out.lt x hv).1; injection e with e; omega
              · intro j hj hjl
                by_cases e : j = k
                · subst e
                  rw [HT.out, HM.out]
                · exact HMAY.out j (by omega) hjl
            case measure => simp [intOf]; omega
      · obtain rfl : k = n := by omega
        clear hbel
        go_wp2_with fail
        have hR : newR l = 0 := by
          unfold newR
          rw [if_neg (by rw [HN.out]; exact hbig), if_pos]
          rw [List.all_eq_true]
          intro x hx
          obtain ⟨j, hj, rfl⟩ := List.mem_iff_getElem.1 hx
          exact HMAY.out j (by rw [← HN.out]; exact hj) hj
        refine bodyPost_ret (v := .tuple #[.pointer (some ⟨w.heap.size, 0, none⟩), .int .i64 0]) (by simp [results, Try.results11, go_sem]) rfl ⟨HBL.out, .inr ⟨hR, w.heap.size, rfl, Nat.le_refl _, ?_⟩⟩
        have hsl : (newS l).l.length = k := by simp [newS]; exact HN.out
        by_cases h0 : k = 0
        · subst h0
          refine .inl ⟨List.length_eq_zero_iff.1 hsl, ?_⟩
          have := HQ.out
          rw [HV0.out rfl] at this
          exact this
        · obtain ⟨bl, cap, hbl, hp⟩ := plan_of_row (s := newS l) hsl (by omega) HQ.out HO.out (fun i hi => by rw [newS_at l i (by rw [HN.out]; omega) hi]; exact .inl ⟨rfl, none, rfl⟩) (fun i j _ _ _ h => absurd rfl h)
          refine .inr ⟨by omega, bl, cap, _, hp, fun x hx => ?_⟩
          rcases hx with rfl | rfl | ⟨i, _, hx⟩
          · exact Nat.le_refl _
          · omega
          · simp [blkOf] at hx
end Go.Proofs.Ytcffjobefgecdaa.Ref
