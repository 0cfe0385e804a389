/- The walk of release: what is released up to a tick waits. -/
import Derived.Test.YtcffjobefgecdaaV
import Derived.Test.YtcffjobefgecdaaE
import Derived.Test.YtcffjobefgecdaaP
import Derived.BigRegion
import Derived.RegionTactic
import Derived.Deep.RegionHeld3
import Derived.Laws.StructEq
import Derived.Deep.RegionLaw
import Derived.Deep.LoopGhost
import Derived.Deep.DeepCutAuto
namespace Go.Proofs.Ytcffjobefgecdaa
open Go.RowKit

/-- The first k lines turned. -/
def relTo (tick : Int) (l : List PLine) (k : Nat) : List PLine := (l.take k).map (relLine tick) ++ l.drop k
theorem relTo_len (tick : Int) (l : List PLine) (k : Nat) : (relTo tick l k).length = l.length := by simp [relTo]; omega
theorem relTo_zero (tick : Int) (l : List PLine) : relTo tick l 0 = l := by simp [relTo]
theorem relTo_all (tick : Int) (l : List PLine) : relTo tick l l.length = l.map (relLine tick) := by simp [relTo]
theorem relTo_at (tick : Int) (l : List PLine) (k : Nat) (hk : k < l.length) (h : k < (relTo tick l k).length) : (relTo tick l k)[k] = l[k] := by
  simp only [relTo]
  rw [List.getElem_append_right (by simp; omega)]
  simp
  congr 1
  omega
theorem relTo_succ (tick : Int) (l : List PLine) (k : Nat) (hk : k < l.length) : relTo tick l (k + 1) = (relTo tick l k).set k (relLine tick l[k]) := by
  have hlt : ((l.take k).map (relLine tick)).length = k := by simp; omega
  unfold relTo
  rw [List.take_succ_eq_append_getElem hk, List.map_append, List.set_append, if_neg (by omega), hlt, Nat.sub_self, List.append_assoc]
  congr 1
  rw [List.drop_eq_getElem_cons hk]
  rfl

theorem relLine_app {tick : Int} {x x1 : PLine} {q m P : Int} (h1 : ¬ tick < x.next) (hc : ¬ (x.wait ≠ [] ∧ (x.wait.getLastD ⟨⟨0, 0, 0⟩, 0, 0⟩).t = x.t)) (ht : x1.t = x.t) (hw : x1.wait = x.wait) (hf : x1.left = (if x.wait = [] then x.t.lo else x.left))
    (hq : (tick - x.next) / x.t.ev = q) (hm : q + 1 = m) (hP : m * x.t.ev = P) : ({ t := x1.t, next := x.next + P, wait := x1.wait ++ [(⟨x.t, x.next, m⟩ : PRun)], left := x1.left } : PLine) = relLine tick x := by
  unfold relLine
  rw [if_neg h1, if_neg hc, hq, hm, hP, ht, hw, hf]
theorem relLine_same {tick : Int} {x : PLine} {q m P : Int} (h1 : ¬ tick < x.next) (hc : x.wait ≠ [] ∧ (x.wait.getLastD ⟨⟨0, 0, 0⟩, 0, 0⟩).t = x.t) (r : PRun) (hr : x.wait.getLastD ⟨⟨0, 0, 0⟩, 0, 0⟩ = r)
    (hq : (tick - x.next) / x.t.ev = q) (hm : q + 1 = m) (hP : m * x.t.ev = P) : ({ t := x.t, next := x.next + P, wait := x.wait.set (x.wait.length - 1) { r with count := r.count + m }, left := x.left } : PLine) = relLine tick x := by
  unfold relLine
  rw [if_neg h1, if_pos hc, hq, hm, hP, hr]
theorem wp_gen {P : Program} {c : Code} {Q : Exit → Act → World → Prop} {a : Act} {w : World} (F : World → Prop) (hF : F w) (h : ∀ W, F W → Code.wp P c Q a W) : Code.wp P c Q a w := h w hF
theorem PlanAt.like {w w' : World} {p bl cap : Nat} {G : Nat → Value} {s : PSt} (h : PlanAt w p bl cap G s) (hh : w'.heap = w.heap) : PlanAt w' p bl cap G s := h.keep fun _ _ => by rw [hh]
theorem Fr.like {S : Nat → Prop} {a b b' : World} (h : Fr S a b) (ho : b'.os = b.os) (ht : b'.tape = b.tape) (hp : b'.output = b.output) (hh : b'.heap = b.heap) : Fr S a b' :=
  ⟨ho.trans h.os, ht.trans h.tape, hp.trans h.output, by rw [hh]; exact h.size, fun k hk hn => by rw [hh]; exact h.block k hk hn⟩
theorem WaitAt.drew1 {w : World} {v : Value} {rs : List PRun} (h : WaitAt w v rs) : WaitAt w.drew v rs := h.keep fun _ _ => rfl
theorem WaitAt.alloc {w : World} {v : Value} {rs : List PRun} (h : WaitAt w v rs) (o : Obj) : WaitAt (w.alloc o) v rs := h.keep fun g hg => Below.heap_alloc w o g (h.lt g hg).1
/-- What the rounds keep. -/
structure RelI (w0 : World) (p bl cap : Nat) (G0 : Nat → Value) (s : PSt) (w : World) : Prop where
  pl : ∃ G, PlanAt w p bl cap G s ∧ ∀ x, own p bl G s.l.length x → own p bl G0 s.l.length x ∨ w0.heap.size ≤ x
  fr : Fr (own p bl G0 s.l.length) w0 w

set_option maxRecDepth 100000 in
set_option maxHeartbeats 4000000 in
theorem release36 (p bl cap K : Nat) (G : Nat → Value) (s : PSt) (tick : Int) (w : World) (h : PlanAt w p bl cap G s) (hok : StOk K s) (hK : K ≤ 1000000000) (ht0 : 0 ≤ tick) (ht1 : tick ≤ 1152921504606846976) :
    Calls Try.prog 36 #[.pointer (some ⟨p, 0, none⟩), .int .i64 tick] w fun e w' => e = .returned (.tuple #[]) ∧ RelI w p bl cap G (release tick s) w' := by
  have hn := hok.n
  have HOK := Lib.hid hok
  have H := Lib.hid h
  have hd := h.head
  obtain ⟨d0, d1⟩ := hd
  clear h hok
  generalize hl : s.l.length = n at *
  have HL := Lib.hid hl
  clear hl
  go_enter Try.func36, Try.ntmps36
  go_wp2_with fail
  go_loopg [4, 5, 6, 7, 13] n (fun gq _ _ _ _ i wr => ∃ k : Nat, k ≤ n ∧ gq = n - k ∧ i = .int .i64 k ∧ RelI w p bl cap G { s with l := relTo tick s.l k } wr)
  case atStart =>
    refine ⟨0, by omega, by omega, rfl, ?_⟩
    rw [relTo_zero]
    exact ⟨⟨G, H.out, fun x hx => .inl hx⟩, Fr.refl _ _⟩
  case round =>
    obtain ⟨k, hk, rfl, rfl, hI⟩ := hrel
    have HI := Lib.hid hI
    clear hI
    by_cases hlt : k < n
    · have hks : k < s.l.length := by rw [HL.out]; exact hlt
      have hkr : k < (relTo tick s.l k).length := by rw [relTo_len]; exact hks
      obtain ⟨⟨G1, hpl, howns⟩, hfr⟩ := HI.out
      obtain ⟨c0, c1, c2, c3, c4, c5⟩ := hpl.cells (i := k) hkr
      obtain ⟨e0, e1⟩ := hpl.head
      have hat : (relTo tick s.l k)[k] = s.l[k] := relTo_at tick s.l k hks hkr
      have hlen : (relTo tick s.l k).length = n := by rw [relTo_len]; exact HL.out
      simp only [hat] at c0 c1 c2 c3 c4 c5
      simp only [hlen] at e0
      obtain ⟨hmay, n0, n1, hruns, hwt, hleft⟩ := HOK.out.lines s.l[k] (List.getElem_mem hks)
      have HPL := Lib.hid hpl
      have HOWN := Lib.hid howns
      have HFR := Lib.hid hfr
      have HAT := Lib.hid hat
      have HBLO : Hid (own p bl G (relTo tick s.l k).length bl) := .inr (.inl rfl)
      have HLEN := Lib.hid hlen
      clear hpl howns hfr hat hlen d0 d1
      generalize hx : s.l[k] = x at *
      have HX := Lib.hid hx
      clear hx
      by_cases htn : tick < x.next
      · go_wp2_with fail
        go_roundg (n - (k + 1))
        case measure => omega
        case rel =>
          refine ⟨k + 1, by omega, rfl, by go_num, ?_⟩
          have e : relTo tick s.l (k + 1) = relTo tick s.l k := by
            rw [relTo_succ tick s.l k hks, HX.out]
            have : relLine tick x = x := by simp [relLine, htn]
            rw [this, ← HAT.out]
            simp
          rw [e]
          exact HI.out
      · obtain ⟨a1, a2, a3, a4⟩ := may_spec hmay
        have q1 : 0 ≤ (tick - x.next) / x.t.ev := Int.ediv_nonneg (by omega) (by omega)
        have q2 : (tick - x.next) / x.t.ev ≤ tick - x.next := Int.ediv_le_self _ (by omega)
        have q3 := Int.mul_ediv_add_emod (tick - x.next) x.t.ev
        have q4 := Int.emod_nonneg (tick - x.next) (show x.t.ev ≠ 0 by omega)
        have q5 := Int.emod_lt_of_pos (tick - x.next) (show 0 < x.t.ev by omega)
        have g1 : IntKind.i64.wrap (tick - x.next) = tick - x.next := by rw [IntKind.wrap_i64]; omega
        have g2 : (tick - x.next).tdiv x.t.ev = (tick - x.next) / x.t.ev := Int.tdiv_eq_ediv_of_nonneg (by omega)
        generalize hq : (tick - x.next) / x.t.ev = q at *
        generalize hr : (tick - x.next) % x.t.ev = r0 at *
        have g3 : IntKind.i64.wrap q = q := by rw [IntKind.wrap_i64]; omega
        have g4 : IntKind.i64.wrap (q + 1) = q + 1 := by rw [IntKind.wrap_i64]; omega
        have g5 : (x.t.ev == 0) = false := by simp; omega
        have HQ := Lib.hid hq
        have Q3 := Lib.hid q3
        clear hq hr q3
        go_wp2_with fail
        go_quiet (fail)
        clear g1 g2 g3 g4 g5
        generalize hm : q + 1 = m at *
        generalize hP : m * x.t.ev = P at *
        have hP1 : P = tick - x.next - r0 + x.t.ev := by rw [← hP, ← hm, Int.add_mul, Int.one_mul, Int.mul_comm]; have := Q3.out; omega
        have p1 : 0 ≤ P := by omega
        have p2 : P ≤ 1152921504606846976 + 1099511627776 := by omega
        have p3 : x.next + P ≤ 1152921504606846976 + 1099511627776 := by omega
        have p4 : 1 ≤ m := by omega
        have p5 : m ≤ 1152921504606846977 := by omega
        have HM := Lib.hid hm
        have HP := Lib.hid hP
        clear hm hP1 q1 q2 q4 q5 hP
        obtain ⟨Aw, cw, hGk⟩ := (HPL.out.hw k hkr).len
        rw [HAT.out] at hGk
        have HG := Lib.hid hGk
        rw [hGk] at c4
        clear hGk
        by_cases hwe : x.wait = []
        · have hl0 : x.wait.length = 0 := by rw [hwe]; rfl
          rw [hl0] at c4
          have HWE := Lib.hid hwe
          have HL0 := Lib.hid hl0
          clear hwe hl0
          have f5 := HPL.out.frozen (k * 6 + 5)
          go_wp2_with fail
          go_quiet (fail)
          go_wp2_with fail
          refine wp_gen (fun W => ∃ x1, x1.t = x.t ∧ x1.next = x.next ∧ x1.wait = x.wait ∧ x1.left = (if x.wait = [] then x.t.lo else x.left) ∧ PlanAt W p bl cap G1 { s with l := (relTo tick s.l k).set k x1 } ∧ Fr (own p bl G (relTo tick s.l k).length) w W) ?_ ?_
          · refine ⟨{ x with left := x.t.lo }, rfl, rfl, rfl, by rw [if_pos HWE.out], ?_, ?_⟩
            · have := HPL.out.setLeft hkr x.t.lo
              simp only [HAT.out] at this
              exact this.like rfl
            · exact (HFR.out.setCell (p := ⟨bl, k * 6 + 5, none⟩) (.inl HBLO.out) (.int .i64 x.t.lo)).like rfl rfl rfl rfl
          rintro W1 ⟨x1, hx1t, hx1n, hx1w, hx1f, hp1, hf1⟩
          obtain ⟨c0, c1, c2, c3, c4, c5⟩ := hp1.cells (i := k) (by simpa using hkr)
          simp only [List.getElem_set_self, hx1t, hx1n] at c0 c1 c2 c3 c4 c5
          have fz4 := hp1.frozen (k * 6 + 4)
          have hW1 := hp1.hw k (by simpa using hkr)
          simp only [List.getElem_set_self] at hW1
          rw [HG.out] at c4
          have hbl := hp1.lt bl (.inr (.inl rfl))
          have c4' := fun o => (World.cell?_alloc_lt W1 o ⟨bl, k * 6 + 4, none⟩ (by simpa using hbl)).trans c4
          have fz4' := fun o => (World.frozen?_of_block (a := ⟨bl, k * 6 + 4, none⟩) (Below.heap_alloc W1 o bl hbl)).trans fz4
          have hrl : x1.wait.length ≤ 1000000000 := by rw [hx1w]; have := hwt; unfold weight at this; omega
          have hbw : ∀ b, blkOf (G1 k) = some b → b ≠ bl := fun b hb => by
            obtain ⟨_, ds, hd⟩ := hW1.lt b hb
            rintro rfl
            exact hp1.not_bl hd (by decide)
          have hne4 : blkOf (.slice Aw x.wait.length cw) ≠ some bl := fun e => hbw bl (by rw [HG.out]; exact e) rfl
          rw [HG.out] at hW1
          have HW1 := Lib.hid hW1
          clear hW1
          go_region_law (refine step_wait_append rfl _ _ rfl rfl (.slice Aw x.wait.length cw) x1.wait ⟨x.t, x.next, m⟩ rfl (HW1.out.alloc _).drew1 W1.heap.size rfl (Bk.new W1 102 (runL ⟨x.t, x.next, m⟩).toArray).drew hrl ?_; intro v' w2 hw2 hgr hbv; obtain ⟨A2, c2, rfl⟩ := hw2.len; have q4 := (hgr.cell_far ⟨bl, k * 6 + 4, none⟩ (by simp; omega) (Ne.symm hne4)).trans (c4' _); have q5 := (hgr.frozen_far ⟨bl, k * 6 + 4, none⟩ (by simp; omega) (Ne.symm hne4)).trans (fz4' _))
          all_goals
            have AD := app_done hp1 (k := k) (by simpa using hkr) HG.out (.cells (runL ⟨x.t, x.next, m⟩).toArray 102) hw2 hgr hbv hf1 (by simpa using HOWN.out)
            simp only [List.getElem_set_self, List.set_set, List.length_set] at AD
            rw [show (x1.wait ++ [(⟨x.t, x.next, m⟩ : PRun)]).length = x.wait.length + 1 by rw [List.length_append, hx1w]; rfl] at AD
            clear hgr hbv hw2 q4 q5
            have HAD := Lib.hid AD
            clear AD
            go_wp2_with fail
            refine wp_gen (fun W => ∃ G2, PlanAt W p bl cap G2 { s with l := (relTo tick s.l k).set k { x1 with wait := x1.wait ++ [⟨x.t, x.next, m⟩] } } ∧ Fr (own p bl G (relTo tick s.l k).length) w W ∧ (∀ y, own p bl G2 (relTo tick s.l k).length y → own p bl G (relTo tick s.l k).length y ∨ w.heap.size ≤ y)) ?_ ?_
            · exact ⟨_, HAD.out.1.like rfl, HAD.out.2.1.like rfl rfl rfl rfl, HAD.out.2.2⟩
            clear HAD
            rintro W3 ⟨G2, hp3, hf3, ho3⟩
            obtain ⟨c0, c1, c2, c3, c4, c5⟩ := hp3.cells (i := k) (by simpa using hkr)
            simp only [List.getElem_set_self, hx1t, hx1n] at c0 c1 c2 c3 c4 c5
            have fz3 := hp3.frozen (k * 6 + 3)
            have HP3 := Lib.hid hp3
            have HF3 := Lib.hid hf3
            have HO3 := Lib.hid ho3
            clear hp3 hf3 ho3
            have g6 : IntKind.i64.wrap (m * x.t.ev) = P := by rw [HP.out, IntKind.wrap_i64]; omega
            have g7 : IntKind.i64.wrap (x.next + P) = x.next + P := by rw [IntKind.wrap_i64]; omega
            go_region
            clear g6 g7
            go_wp2_with fail
            go_roundg (n - (k + 1))
            case measure => omega
            case rel =>
              refine ⟨k + 1, by omega, rfl, by go_num, ?_⟩
              have e := HP3.out.setNext (k := k) (by simpa using hkr) (x.next + P)
              simp only [List.getElem_set_self, List.set_set] at e
              rw [relLine_app (by omega) (fun h => h.1 HWE.out) hx1t hx1w hx1f HQ.out HM.out HP.out] at e
              rw [relTo_succ tick s.l k hks, HX.out]
              refine ⟨⟨G2, e.like rfl, by simpa using HO3.out⟩, ?_⟩
              have := HF3.out.setCell (p := ⟨bl, k * 6 + 3, none⟩) (.inl HBLO.out) (.int .i64 (x.next + P))
              simp only [List.length_set]
              exact this.like rfl rfl rfl rfl
        · have hwk := HPL.out.hw k hkr
          rw [HAT.out] at hwk
          obtain ⟨g, off, c, hv, hcap, hbg, hfz, hcell⟩ := hwk.cells hwe
          have hL : 0 < x.wait.length := List.length_pos_iff.2 hwe
          have hLn : x.wait.length ≤ 1000000000 := by have := hwt; unfold weight at this; omega
          obtain ⟨w0, w1, w2, w3, w4⟩ := hcell (x.wait.length - 1) (by omega)
          have hlast : x.wait.getLastD ⟨⟨0, 0, 0⟩, 0, 0⟩ = x.wait[x.wait.length - 1] := by
            rw [List.getLastD_eq_getLast?, List.getLast?_eq_getElem?, List.getElem?_eq_getElem (by omega)]
            rfl
          have hrn := hruns x.wait[x.wait.length - 1] (List.getElem_mem _)
          have hGv : (Value.slice Aw x.wait.length cw) = .slice (some ⟨g, off, none⟩) x.wait.length c := by rw [← HG.out, hv]
          injection hGv with hg1 _ hg3
          subst hg1 hg3
          have hGG := Lib.hid hv
          generalize hrr : x.wait[x.wait.length - 1] = r at *
          have HRR := Lib.hid hrr
          have HLAST := Lib.hid hlast
          have HWE := Lib.hid hwe
          have hfc := hfz (off + (x.wait.length - 1) * 5 + 4)
          have i1 : (0 : Int) ≤ (x.wait.length : Int) - 1 := by omega
          have i2 : (x.wait.length : Int) - 1 < (x.wait.length : Int) := by omega
          have i3 : ((x.wait.length : Int) - 1).toNat = x.wait.length - 1 := by omega
          have i4 : IntKind.i64.wrap ((x.wait.length : Int) - 1) = (x.wait.length : Int) - 1 := by rw [IntKind.wrap_i64]; omega
          have i5 : (1 : Int) ≤ (x.wait.length : Int) := by omega
          have i6 : (0 : Int) < (x.wait.length : Int) := by omega
          have i7 : ((x.wait.length : Int) == 0) = false := by simp; omega
          have i8 : (x.wait.length == 0) = false := by simp; omega
          have hcount1 : 0 ≤ r.count := by have := hrn.c; omega
          have hcount2 : r.count ≤ 1152921504606846976 + 1099511627776 := by
            have h1 := hrn.n
            have h2 := hrn.f
            have h3 : r.count * 1 ≤ r.count * r.t.ev := Int.mul_le_mul_of_nonneg_left hrn.e1 hcount1
            omega
          have HRN := Lib.hid hrn
          clear hrr hlast hwk hv hcell hfz hwe hrn
          by_cases heq : eqT r.t.ev r.t.lo r.t.rk x.t.ev x.t.lo x.t.rk = true
          · have HEQ := Lib.hid (eqT_true.1 heq)
            go_wp2_with fail
            go_quiet (fail)
            clear i4
            go_wp2_with fail
            have hkl := HPL.out
            have hrb : (IntKind.i64.wrap (r.count + m)) = r.count + m := by rw [IntKind.wrap_i64]; omega
            refine wp_gen (fun W => PlanAt W p bl cap G1 { s with l := (relTo tick s.l k).set k { x with wait := x.wait.set (x.wait.length - 1) { r with count := r.count + m } } } ∧ Fr (own p bl G (relTo tick s.l k).length) w W) ?_ ?_
            · constructor
              · have := HPL.out.setCount hkr (g := g) (off := off) (c := cw) (by simp only [HAT.out]; exact HG.out) (j := x.wait.length - 1) (by simp only [HAT.out]; omega) (r.count + m)
                simp only [HAT.out, HRR.out] at this
                exact this.like rfl
              · have ho : own p bl G1 (relTo tick s.l k).length g := .inr (.inr ⟨k, hkr, hbg⟩)
                exact (HFR.out.setCell (p := ⟨g, off + (x.wait.length - 1) * 5 + 4, none⟩) (HOWN.out g ho) (.int .i64 (r.count + m))).like rfl rfl rfl rfl
            rintro W3 ⟨hp3, hf3⟩
            obtain ⟨c0, c1, c2, c3, c4, c5⟩ := hp3.cells (i := k) (by simpa using hkr)
            simp only [List.getElem_set_self] at c0 c1 c2 c3 c4 c5
            have fz3 := hp3.frozen (k * 6 + 3)
            have HP3 := Lib.hid hp3
            have HF3 := Lib.hid hf3
            clear hp3 hf3 hkl
            have g6 : IntKind.i64.wrap (m * x.t.ev) = P := by rw [HP.out, IntKind.wrap_i64]; omega
            have g7 : IntKind.i64.wrap (x.next + P) = x.next + P := by rw [IntKind.wrap_i64]; omega
            go_region
            clear g6 g7
            go_wp2_with fail
            go_roundg (n - (k + 1))
            case measure => omega
            case rel =>
              refine ⟨k + 1, by omega, rfl, by go_num, ?_⟩
              have e := HP3.out.setNext (k := k) (by simpa using hkr) (x.next + P)
              simp only [List.getElem_set_self, List.set_set] at e
              rw [relLine_same (by omega) ⟨HWE.out, by rw [HLAST.out]; exact HEQ.out⟩ r HLAST.out HQ.out HM.out HP.out] at e
              rw [relTo_succ tick s.l k hks, HX.out]
              refine ⟨⟨G1, e.like rfl, by simpa using HOWN.out⟩, ?_⟩
              have := HF3.out.setCell (p := ⟨bl, k * 6 + 3, none⟩) (.inl HBLO.out) (.int .i64 (x.next + P))
              simp only [List.length_set]
              exact this.like rfl rfl rfl rfl
          · have HEQ := Lib.hid (fun h => heq (eqT_true.2 h))
            have heq' : eqT r.t.ev r.t.lo r.t.rk x.t.ev x.t.lo x.t.rk = false := by simpa using heq
            clear heq
            go_wp2_with fail
            go_quiet (fail)
            clear i4
            go_wp2_with fail
            refine wp_gen (fun W => ∃ x1, x1.t = x.t ∧ x1.next = x.next ∧ x1.wait = x.wait ∧ x1.left = (if x.wait = [] then x.t.lo else x.left) ∧ PlanAt W p bl cap G1 { s with l := (relTo tick s.l k).set k x1 } ∧ Fr (own p bl G (relTo tick s.l k).length) w W) ?_ ?_
            · refine ⟨x, rfl, rfl, rfl, by rw [if_neg HWE.out], ?_, ?_⟩
              · rw [show (relTo tick s.l k).set k x = relTo tick s.l k by rw [← HAT.out]; simp]
                exact HPL.out.like rfl
              · exact HFR.out.like rfl rfl rfl rfl
            clear c0 c1 c2 c3 c4 c5
            rintro W1 ⟨x1, hx1t, hx1n, hx1w, hx1f, hp1, hf1⟩
            obtain ⟨c0, c1, c2, c3, c4, c5⟩ := hp1.cells (i := k) (by simpa using hkr)
            simp only [List.getElem_set_self, hx1t, hx1n] at c0 c1 c2 c3 c4 c5
            have fz4 := hp1.frozen (k * 6 + 4)
            have hW1 := hp1.hw k (by simpa using hkr)
            simp only [List.getElem_set_self] at hW1
            rw [HG.out] at c4
            have hbl := hp1.lt bl (.inr (.inl rfl))
            have c4' := fun o => (World.cell?_alloc_lt W1 o ⟨bl, k * 6 + 4, none⟩ (by simpa using hbl)).trans c4
            have fz4' := fun o => (World.frozen?_of_block (a := ⟨bl, k * 6 + 4, none⟩) (Below.heap_alloc W1 o bl hbl)).trans fz4
            have hrl : x1.wait.length ≤ 1000000000 := by rw [hx1w]; have := hwt; unfold weight at this; omega
            have hbw : ∀ b, blkOf (G1 k) = some b → b ≠ bl := fun b hb => by
              obtain ⟨_, ds, hd⟩ := hW1.lt b hb
              rintro rfl
              exact hp1.not_bl hd (by decide)
            have hne4 : blkOf (.slice (some ⟨g, off, none⟩) x.wait.length cw) ≠ some bl := fun e => hbw bl (by rw [HG.out]; exact e) rfl
            rw [HG.out] at hW1
            have HW1 := Lib.hid hW1
            clear hW1
            go_region_law (refine step_wait_append rfl _ _ rfl rfl (.slice (some ⟨g, off, none⟩) x.wait.length cw) x1.wait ⟨x.t, x.next, m⟩ rfl (HW1.out.alloc _).drew1 W1.heap.size rfl (Bk.new W1 102 (runL ⟨x.t, x.next, m⟩).toArray).drew hrl ?_; intro v' w2 hw2 hgr hbv; obtain ⟨A2, c2, rfl⟩ := hw2.len; have q4 := (hgr.cell_far ⟨bl, k * 6 + 4, none⟩ (by simp; omega) (Ne.symm hne4)).trans (c4' _); have q5 := (hgr.frozen_far ⟨bl, k * 6 + 4, none⟩ (by simp; omega) (Ne.symm hne4)).trans (fz4' _))
            all_goals
              have AD := app_done hp1 (k := k) (by simpa using hkr) HG.out (.cells (runL ⟨x.t, x.next, m⟩).toArray 102) hw2 hgr hbv hf1 (by simpa using HOWN.out)
              simp only [List.getElem_set_self, List.set_set, List.length_set] at AD
              rw [show (x1.wait ++ [(⟨x.t, x.next, m⟩ : PRun)]).length = x.wait.length + 1 by rw [List.length_append, hx1w]; rfl] at AD
              clear hgr hbv hw2 q4 q5
              have HAD := Lib.hid AD
              clear AD
              go_wp2_with fail
              refine wp_gen (fun W => ∃ G2, PlanAt W p bl cap G2 { s with l := (relTo tick s.l k).set k { x1 with wait := x1.wait ++ [⟨x.t, x.next, m⟩] } } ∧ Fr (own p bl G (relTo tick s.l k).length) w W ∧ (∀ y, own p bl G2 (relTo tick s.l k).length y → own p bl G (relTo tick s.l k).length y ∨ w.heap.size ≤ y)) ?_ ?_
              · exact ⟨_, HAD.out.1.like rfl, HAD.out.2.1.like rfl rfl rfl rfl, HAD.out.2.2⟩
              clear HAD
              rintro W3 ⟨G2, hp3, hf3, ho3⟩
              obtain ⟨c0, c1, c2, c3, c4, c5⟩ := hp3.cells (i := k) (by simpa using hkr)
              simp only [List.getElem_set_self, hx1t, hx1n] at c0 c1 c2 c3 c4 c5
              have fz3 := hp3.frozen (k * 6 + 3)
              have HP3 := Lib.hid hp3
              have HF3 := Lib.hid hf3
              have HO3 := Lib.hid ho3
              clear hp3 hf3 ho3
              have g6 : IntKind.i64.wrap (m * x.t.ev) = P := by rw [HP.out, IntKind.wrap_i64]; omega
              have g7 : IntKind.i64.wrap (x.next + P) = x.next + P := by rw [IntKind.wrap_i64]; omega
              go_region
              clear g6 g7
              go_wp2_with fail
              go_roundg (n - (k + 1))
              case measure => omega
              case rel =>
                refine ⟨k + 1, by omega, rfl, by go_num, ?_⟩
                have e := HP3.out.setNext (k := k) (by simpa using hkr) (x.next + P)
                simp only [List.getElem_set_self, List.set_set] at e
                rw [relLine_app (by omega) (fun h => HEQ.out (by rw [← HLAST.out]; exact h.2)) hx1t hx1w hx1f HQ.out HM.out HP.out] at e
                rw [relTo_succ tick s.l k hks, HX.out]
                refine ⟨⟨G2, e.like rfl, by simpa using HO3.out⟩, ?_⟩
                have := HF3.out.setCell (p := ⟨bl, k * 6 + 3, none⟩) (.inl HBLO.out) (.int .i64 (x.next + P))
                simp only [List.length_set]
                exact this.like rfl rfl rfl rfl
    · obtain rfl : k = n := by omega
      go_wp2_with fail
      go_end0
      refine ⟨rfl, ?_⟩
      have e : release tick s = { s with l := relTo tick s.l k } := by
        unfold release
        rw [← HL.out, relTo_all]
      rw [e]
      exact HI.out
end Go.Proofs.Ytcffjobefgecdaa
