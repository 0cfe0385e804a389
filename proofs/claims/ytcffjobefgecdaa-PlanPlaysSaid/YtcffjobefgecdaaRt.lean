/- The walk of a step of PlanPlays. -/
import Derived.Test.YtcffjobefgecdaaRy
import Derived.Test.YtcffjobefgecdaaSt
import Derived.Deep.RegionHeld3
import Derived.StillTailTactics
namespace Go.Proofs.Ytcffjobefgecdaa.Ref
open Go.RowKit

def KQ (W W' : World) : Prop := W.heap.size ≤ W'.heap.size ∧ ∀ g t cs, t ≠ 64 → t ≠ 68 → t ≠ 102 → t ≠ 71 → t ≠ 74 → t ≠ 108 → Bk W g t cs → Bk W' g t cs
theorem KQ.trans {a b c : World} (h : KQ a b) (k : KQ b c) : KQ a c := ⟨Nat.le_trans h.1 k.1, fun g t cs h1 h2 h3 h4 h5 h6 hb => k.2 g t cs h1 h2 h3 h4 h5 h6 (h.2 g t cs h1 h2 h3 h4 h5 h6 hb)⟩
theorem KQ.refl (a : World) : KQ a a := ⟨Nat.le_refl _, fun _ _ _ _ _ _ _ _ _ h => h⟩
theorem KQ.kp {a b : World} (h : Kp a b) : KQ a b := ⟨h.1, fun g t cs h1 h2 h3 _ _ _ hb => h.2 g t cs h1 h2 h3 hb⟩
theorem KQ.kr {B : Nat} {a b : World} (h : KR B a b) : KQ a b := ⟨h.1.size, fun g t cs _ _ _ h4 h5 h6 hb => h.2 g t cs h4 h5 h6 hb⟩
theorem KQ.below {a b : World} (h : Below a.heap.size a b) : KQ a b := ⟨h.size, fun _ _ _ _ _ _ _ _ _ hb => hb.below h hb.lt⟩
theorem KQ.step {a b : World} (h : KQ a b) {cs : Array Value} {g : Nat} (hb : Bk a g 36 cs) : Bk b g 36 cs := h.2 g 36 cs (by decide) (by decide) (by decide) (by decide) (by decide) (by decide) hb
theorem KQ.slot {a b : World} (h : KQ a b) {cs : Array Value} {g : Nat} (hb : Bk a g 42 cs) : Bk b g 42 cs := h.2 g 42 cs (by decide) (by decide) (by decide) (by decide) (by decide) (by decide) hb
/-- Both plans hold the same. -/
def Pair (w W : World) (p q : Nat) (s : PSt) : Prop := Many w W [(s, p)] ∧ RefAt w.heap.size W q s
section
variable {w W W' : World} {p q K : Nat} {s : PSt}
theorem Pair.below (h : Pair w W p q s) (hb : Below W.heap.size W W') : Pair w W' p q s := ⟨h.1.below hb, h.2.below hb⟩
theorem Pair.next1 (h : Pair w W p q s) (hok : StOk K s) (hK : K ≤ 1000000000) :
    Calls Try.prog 17 #[.pointer (some ⟨p, 0, none⟩)] W fun e W' => e = .returned (.tuple #[slotV (nextS s).2.1, .int .i64 (nextS s).2.2]) ∧ Many w W' [((nextS s).1, p)] ∧ RefAt w.heap.size W' q s ∧ KQ W W' :=
  (next_many h.1 (i := 0) rfl hok hK).mono fun _ _ ⟨h1, h2, h3⟩ => ⟨h1, h2, h.2.kp h3, .kp h3⟩
theorem Pair.next2 {s' : PSt} (h1 : Many w W [(s', p)]) (h2 : RefAt w.heap.size W q s) (hok : StOk K s) (hK : K ≤ 1000000000) :
    Calls Try.prog 27 #[.pointer (some ⟨q, 0, none⟩)] W fun e W' => e = .returned (.tuple #[slotV (nextS s).2.1, .int .i64 (nextS s).2.2]) ∧ Many w W' [(s', p)] ∧ RefAt w.heap.size W' q (nextS s).1 ∧ KQ W W' :=
  (ref_next h2 hok hK).mono fun _ _ ⟨a1, a2, a3⟩ => ⟨a1, many_kr h1 a3, a2, .kr a3⟩
theorem Pair.set1 (h : Pair w W p q s) (task : Int) (t : PTask) (hok : StOk K s) (hK : K ≤ 1000000000) (ht0 : -9223372036854775808 ≤ task) (ht1 : task ≤ 9223372036854775807) :
    Calls Try.prog 19 #[.pointer (some ⟨p, 0, none⟩), .int .i64 task, taskV t] W fun e W' => e = .returned (.int .i64 (setS s task t).2) ∧ Many w W' [((setS s task t).1, p)] ∧ RefAt w.heap.size W' q s ∧ KQ W W' :=
  (set_many h.1 (i := 0) rfl task t hok hK ht0 ht1).mono fun _ _ ⟨h1, h2, h3⟩ => ⟨h1, h2, h.2.kp h3, .kp h3⟩
theorem Pair.set2 {s' : PSt} (h1 : Many w W [(s', p)]) (h2 : RefAt w.heap.size W q s) (task : Int) (t : PTask) (hok : StOk K s) (hK : K ≤ 1000000000) (ht0 : -9223372036854775808 ≤ task) (ht1 : task ≤ 9223372036854775807) :
    Calls Try.prog 28 #[.pointer (some ⟨q, 0, none⟩), .int .i64 task, taskV t] W fun e W' => e = .returned (.int .i64 (setS s task t).2) ∧ Many w W' [(s', p)] ∧ RefAt w.heap.size W' q (setS s task t).1 ∧ KQ W W' :=
  (ref_set h2 task t hok hK ht0 ht1).mono fun _ _ ⟨a1, a2, a3⟩ => ⟨a1, many_kr h1 a3, a2, .kr a3⟩
def U1 (w W : World) (p q : Nat) (s s' : PSt) (xs : List PSlot) (e : Ending) (W' : World) : Prop := ∃ v, e = .returned v ∧ W'.ownsRow W.heap.size 42 4 v xs.length (slotsL xs) ∧ Many w W' [(s', p)] ∧ RefAt w.heap.size W' q s ∧ KQ W W'
theorem Pair.until1 (h : Pair w W p q s) (tick : Int) (hok : StOk K s) (hK : K ≤ 1000000000) :
    Calls Try.prog 18 #[.pointer (some ⟨p, 0, none⟩), .int .i64 tick] W (U1 w W p q s (untilS s tick).1 (untilS s tick).2) :=
  (until_many h.1 (i := 0) rfl tick hok hK).mono fun _ _ ⟨v, h1, h2, h3, h4⟩ => ⟨v, h1, h2, h3, h.2.kp h4, .kp h4⟩
theorem Pair.until2 {s' : PSt} (h1 : Many w W [(s', p)]) (h2 : RefAt w.heap.size W q s) (tick : Int) (hok : StOk K s) (hK : K ≤ 1000000000) :
    Calls Try.prog 29 #[.pointer (some ⟨q, 0, none⟩), .int .i64 tick] W (U1 w W p q (untilS s tick).1 s' (untilS s tick).2) :=
  (ref_until h2 tick hok hK).mono fun _ _ ⟨v, a1, a2, a3, a4⟩ => ⟨v, a1, a2, many_kr h1 a4, a3, .kr a4⟩
/-- The program's own list turned. -/
theorem Pair.turned (h : Pair w W p q s) {base sz n : Nat} {v : Value} {xs : List Value} (ho : W.ownsRow base 42 sz v n xs) (hb : w.heap.size ≤ base) (hg : W.grownBy W' v.ownBlock) : Pair w W' p q s := by
  refine ⟨h.1.grown ho hb hg, h.2.keep fun g t cs ht hk => (hg.block g hk.lt fun e => ?_).trans hk⟩
  rcases ho.2 with ⟨rfl, _⟩ | ⟨g', cap, cur, rfl, _, hh, _⟩
  · simp [Value.ownBlock] at e
  · simp [Value.ownBlock] at e
    subst e
    unfold Bk at hk
    rw [hk] at hh
    injection hh with hh
    injection hh with _ hh
    rcases ht with rfl | rfl | rfl <;> cases hh
end
theorem KQ.row {W W' : World} (h : KQ W W') {base sz n : Nat} {v : Value} {xs : List Value} (ho : W.ownsRow base 42 sz v n xs) : W'.ownsRow base 42 sz v n xs := by
  refine ⟨ho.1, ?_⟩
  rcases ho.2 with h4 | ⟨g, cap, cur, rfl, hg, hh, rest⟩
  · exact .inl h4
  · exact .inr ⟨g, cap, cur, rfl, hg, h.slot hh, rest⟩
theorem rows_apart {W2 W3 : World} {b1 : Nat} {v1 v2 : Value} {n : Nat} {xs : List Value} (h1 : W2.ownsRow b1 42 4 v1 n xs) (h2 : W3.ownsRow W2.heap.size 42 4 v2 n xs) {A : Option Addr} {c : Nat} (hv : v2 = .slice A n c) : ∀ b off, A = some ⟨b, off, none⟩ → v1.ownBlock ≠ some b := by
  rintro b off rfl e
  subst hv
  have := (h2.lt b rfl).1
  have := (h1.lt b e).2
  omega
theorem KQ.turned {W W3 W4 : World} (h : KQ W W3) {base sz n : Nat} {v : Value} {xs : List Value} (ho : W3.ownsRow base 42 sz v n xs) (hb : W.heap.size ≤ base) (hg : W3.grownBy W4 v.ownBlock) : KQ W W4 :=
  ⟨Nat.le_trans h.1 hg.size, fun g t cs h1 h2 h3 h4 h5 h6 hk => (hg.block g (Nat.lt_of_lt_of_le hk.lt h.1) fun e => by have := (ho.lt g e.symm).1; have := hk.lt; omega).trans (h.2 g t cs h1 h2 h3 h4 h5 h6 hk)⟩
theorem box_cells {W : World} {b : Nat} {d n k : Int} {t : PTask} (h : Bk W b 36 #[.int .i64 d, .int .i64 n, .int .i64 k, .int .i64 t.ev, .int .i64 t.lo, .int .i64 t.rk]) :
    W.cell? ⟨b, 0, none⟩ = some (.int .i64 d) ∧ W.cell? ⟨b, 2, none⟩ = some (.int .i64 k) ∧ W.cell? ⟨b, 3, none⟩ = some (.int .i64 t.ev) ∧ W.cell? ⟨b, 4, none⟩ = some (.int .i64 t.lo) ∧ W.cell? ⟨b, 5, none⟩ = some (.int .i64 t.rk) := by
  have b0 := h.cell 0
  have b2 := h.cell 2
  have b3 := h.cell 3
  have b4 := h.cell 4
  have b5 := h.cell 5
  simp at b0 b2 b3 b4 b5
  exact ⟨b0, b2, b3, b4, b5⟩
def stepV (d n k : Int) (t : PTask) : Value := .agg #[.int .i64 d, .int .i64 n, .int .i64 k, .int .i64 t.ev, .int .i64 t.lo, .int .i64 t.rk]
def stepPost (w W : World) (p q K : Nat) (e : Ending) (W' : World) : Prop := e = .returned (.bool true) ∧ ∃ s', Pair w W' p q s' ∧ StOk (K + 1) s' ∧ KQ W W'
theorem stok_up {K : Nat} {s : PSt} (h : StOk K s) : StOk (K + 1) s := ⟨h.n, fun x hx => ⟨(h.lines x hx).may, (h.lines x hx).n0, (h.lines x hx).n1, (h.lines x hx).runs, Nat.le_succ_of_le (h.lines x hx).wt, (h.lines x hx).left⟩, h.now0, h.now1⟩

set_option maxRecDepth 100000 in
set_option maxHeartbeats 4000000 in
theorem step12 (w W : World) (p q K : Nat) (s : PSt) (d n k : Int) (t : PTask) (h : Pair w W p q s) (hok : StOk K s) (hK : K ≤ 1000000) (hk0 : -9223372036854775808 ≤ k) (hk1 : k ≤ 9223372036854775807) :
    Calls Try.prog 12 #[.pointer (some ⟨p, 0, none⟩), .pointer (some ⟨q, 0, none⟩), stepV d n k t] W (stepPost w W p q K) := by
  have H := Lib.hid h
  have HOK := Lib.hid hok
  clear h hok
  go_enter Try.func12, Try.ntmps12
  go_upto_region 1 with fail
  refine wp_gen (fun W1 => Pair w W1 p q s ∧ KQ W W1 ∧ Bk W1 W.heap.size 36 #[.int .i64 d, .int .i64 n, .int .i64 k, .int .i64 t.ev, .int .i64 t.lo, .int .i64 t.rk]) ?_ ?_
  · exact ⟨H.out.below ((Below.refl _ _).alloc (Nat.le_refl _) _), .below ((Below.refl _ _).alloc (Nat.le_refl _) _), Bk.new W _ _⟩
  rintro W1 ⟨hp1, hq1, hb1⟩
  have b0 := hb1.cell 0
  have b1 := hb1.cell 1
  have b2 := hb1.cell 2
  have b3 := hb1.cell 3
  have b4 := hb1.cell 4
  have b5 := hb1.cell 5
  simp at b0 b1 b2 b3 b4 b5
  have HP1 := Lib.hid hp1
  have HQ1 := Lib.hid hq1
  have HB1 := Lib.hid hb1
  clear hp1 hq1 hb1
  by_cases e0 : d = 0
  · subst e0
    go_wp2_with fail
    refine (HP1.out.next1 HOK.out (by omega)).mono ?_
    rintro e W2 ⟨rfl, hm2, hr2, hq2⟩
    generalize hnx : nextS s = nx at hm2 ⊢
    have HNX := Lib.hid hnx
    obtain ⟨s', x, c⟩ := nx
    simp only at hm2 ⊢
    have hok' : StOk (K + 1) s' := by have := nextS_ok HOK.out; rw [HNX.out] at this; exact stok_up this
    have HOK' := Lib.hid hok'
    have HM2 := Lib.hid hm2
    have HR2 := Lib.hid hr2
    have HQ2 := Lib.hid (HQ1.out.trans hq2)
    clear hm2 hr2 hq2 hnx hok'
    go_wp2_with fail
    refine calls_gen (fun W3 => Many w W3 [(s', p)] ∧ RefAt w.heap.size W3 q s ∧ KQ W W3 ∧ Bk W3 W2.heap.size 42 (slotCells x)) ?_ ?_
    · exact ⟨HM2.out.alloc _, HR2.out.below ((Below.refl _ _).alloc (Nat.le_refl _) _), HQ2.out.trans (.below ((Below.refl _ _).alloc (Nat.le_refl _) _)), Bk.new W2 _ _⟩
    rintro W3 ⟨hm3, hr3, hq3, hs3⟩
    have hc := Pair.next2 hm3 hr3 HOK.out (by omega)
    rw [HNX.out] at hc
    refine hc.mono ?_
    rintro e W4 ⟨rfl, hm4, hr4, hq4⟩
    have hs4 := hq4.slot hs3
    have x0 := hs4.cell 0
    have x1 := hs4.cell 1
    have x2 := hs4.cell 2
    have x3 := hs4.cell 3
    have hls := hs4.lt
    simp at x0 x1 x2 x3
    have HP4 := Lib.hid (show Pair w W4 p q s' from ⟨hm4, hr4⟩)
    have HQ4 := Lib.hid (hq3.trans hq4)
    clear hm3 hr3 hq3 hs3 hc hm4 hr4 hq4 hs4 b0 b1 b2 b3 b4 b5
    go_wp2_with fail
    go_ret
    exact ⟨by simp, s', HP4.out.below ((Below.refl _ _).alloc (Nat.le_refl _) _), HOK'.out, HQ4.out.trans (.below ((Below.refl _ _).alloc (Nat.le_refl _) _))⟩
  by_cases e2 : d = 2
  · subst e2
    go_upto_region 8 with fail
    have HPD := Lib.hid (show Pair w W1.drew p q s from HP1.out.below ⟨rfl, rfl, rfl, Nat.le_refl _, fun _ _ => rfl⟩)
    have hst := setS_ok k t HOK.out
    have hs1 := box_cells HB1.out
    have HOK' := Lib.hid hst
    generalize hss : setS s k t = ss at *
    obtain ⟨s', c⟩ := ss
    have HSS := Lib.hid hss
    clear hss hst
    go_region_held3 (fun w' => w'.cell? ⟨W.heap.size, 0, none⟩ = some (.int .i64 2) ∧ w'.cell? ⟨W.heap.size, 2, none⟩ = some (.int .i64 k) ∧ w'.cell? ⟨W.heap.size, 3, none⟩ = some (.int .i64 t.ev) ∧ w'.cell? ⟨W.heap.size, 4, none⟩ = some (.int .i64 t.lo) ∧ w'.cell? ⟨W.heap.size, 5, none⟩ = some (.int .i64 t.rk))
      (first | go_keep | assumption)
      (first
        | (go_at_call 19; refine (Pair.set1 HPD.out k t HOK.out (Nat.le_trans hK (by decide)) hk0 hk1).mono ?_; rintro e W2 ⟨rfl, hm2, hr2, hq2⟩; rw [HSS.out] at hm2 ⊢; have hs2 := box_cells (hq2.step HB1.out.drew))
        | (go_at_call 28; refine (Pair.set2 hm2 hr2 k t HOK.out (Nat.le_trans hK (by decide)) hk0 hk1).mono ?_; rintro e W3 ⟨rfl, hm3, hr3, hq3⟩; rw [HSS.out] at hr3 ⊢; have hs3 := box_cells (hq3.step (hq2.step HB1.out.drew))))
    obtain ⟨c0, _⟩ := hs3
    have HPZ := Lib.hid (show Pair w W3 p q s' from ⟨hm3, hr3⟩)
    have HQZ := Lib.hid (HQ1.out.trans (KQ.trans (.below ⟨rfl, rfl, rfl, Nat.le_refl _, fun _ _ => rfl⟩) (hq2.trans hq3)))
    clear hm2 hr2 hq2 hs2 hm3 hr3 hq3 hs1 b0 b1 b2 b3 b4 b5
    go_wp2_with fail
    go_ret
    exact ⟨rfl, s', HPZ.out, HOK'.out, HQZ.out⟩
  by_cases e1 : d = 1
  · subst e1
    go_wp2_with fail
    refine (HP1.out.until1 n HOK.out (by omega)).mono ?_
    rintro e W2 ⟨v1, rfl, ho2, hm2, hr2, hq2⟩
    generalize hus : untilS s n = us at ho2 hm2
    have hcnt : us.2.length ≤ 65536 := by have := untilS_cnt s n; rw [hus] at this; exact this
    have hok' : StOk (K + 1) us.1 := by have := untilS_ok n HOK.out; rw [hus] at this; exact stok_up this
    obtain ⟨s', xs⟩ := us
    simp only at ho2 hm2 hcnt hok'
    have HUS := Lib.hid hus
    have HO2 := Lib.hid ho2
    have HM2 := Lib.hid hm2
    have HR2 := Lib.hid hr2
    have HQ2 := Lib.hid hq2
    have HOK' := Lib.hid hok'
    clear hus ho2 hm2 hr2 hq2 hok'
    go_wp2_with fail
    have hc := Pair.until2 HM2.out HR2.out n HOK.out (by omega)
    rw [HUS.out] at hc
    refine hc.mono ?_
    rintro e W3 ⟨v2, rfl, ho3, hm3, hr3, hq3⟩
    simp only at ho3 hr3
    have ho23 := hq3.row HO2.out
    have hp3 : Pair w W3 p q s' := ⟨hm3, hr3⟩
    obtain ⟨A2, c2, hv2, hrd⟩ := Rd.own ho3
    have hap := rows_apart HO2.out ho3 hv2
    subst hv2
    have hbase : W1.heap.size ≤ W3.heap.size := Nat.le_trans HQ2.out.1 hq3.1
    have hqq := HQ1.out.trans ((KQ.refl _).trans (HQ2.out.trans hq3))
    have HO23 := Lib.hid ho23
    have HP3 := Lib.hid hp3
    have HRD := Lib.hid hrd
    have HAP := Lib.hid hap
    have HQQ := Lib.hid hqq
    clear hc ho23 hp3 hrd hap hqq ho3 hm3 hr3 hq3
    go_wp2_with fail
    refine (stretches22 W1.heap.size W3.heap.size c2 v1 A2 xs W3 HO23.out hbase HRD.out HAP.out hcnt).mono ?_
    rintro e W4 ⟨rfl, hgr⟩
    have hp4 := HP3.out.turned HO23.out HP1.out.1.base.size hgr
    have hq4 := HQQ.out.turned HO23.out HQ1.out.1 hgr
    have HP4 := Lib.hid hp4
    have HQ4 := Lib.hid hq4
    clear hgr hp4 hq4
    go_wp2_with fail
    go_ret
    exact ⟨rfl, s', HP4.out, HOK'.out, HQ4.out⟩
  by_cases e3 : d = 3
  · subst e3
    have hcd : W1.drew.cell? ⟨W.heap.size, 1, none⟩ = some (.int .i64 n) := b1
    have hcd0 : W1.drew.cell? ⟨W.heap.size, 0, none⟩ = some (.int .i64 3) := b0
    have HPD := Lib.hid (show Pair w W1.drew p q s from HP1.out.below ⟨rfl, rfl, rfl, Nat.le_refl _, fun _ _ => rfl⟩)
    have HNC := Lib.hid (now_many HPD.out.1 (i := 0) rfl)
    have HKD := Lib.hid (show KQ W1 W1.drew from .below ⟨rfl, rfl, rfl, Nat.le_refl _, fun _ _ => rfl⟩)
    have n0 := HOK.out.now0
    have n1 := HOK.out.now1
    go_upto_region 10 with fail
    go_still_tail 6, (by kernel_rfl)
    still_call (HNC.out)
    repeat still_step
    try refine wpStill_nil ?_
    change wpList _ _ _ _ _ W1.drew
    generalize W1.drew = w2 at *
    clear b0 b1 b2 b3 b4 b5
    by_cases n2 : 1048576 < n
    · go_wp2_with fail
      refine (HPD.out.until1 (s.now + 1048576) HOK.out (by omega)).mono ?_
      rintro e W2 ⟨v1, rfl, ho2, hm2, hr2, hq2⟩
      generalize hus : untilS s (s.now + 1048576) = us at ho2 hm2
      have hcnt : us.2.length ≤ 65536 := by have := untilS_cnt s (s.now + 1048576); rw [hus] at this; exact this
      have hok' : StOk (K + 1) us.1 := by have := untilS_ok (s.now + 1048576) HOK.out; rw [hus] at this; exact stok_up this
      obtain ⟨s', xs⟩ := us
      simp only at ho2 hm2 hcnt hok'
      have HUS := Lib.hid hus
      have HO2 := Lib.hid ho2
      have HM2 := Lib.hid hm2
      have HR2 := Lib.hid hr2
      have HQ2 := Lib.hid hq2
      have HOK' := Lib.hid hok'
      clear hus ho2 hm2 hr2 hq2 hok'
      go_wp2_with fail
      have hc := Pair.until2 HM2.out HR2.out (s.now + 1048576) HOK.out (by omega)
      rw [HUS.out] at hc
      refine hc.mono ?_
      rintro e W3 ⟨v2, rfl, ho3, hm3, hr3, hq3⟩
      simp only at ho3 hr3
      have ho23 := hq3.row HO2.out
      have hp3 : Pair w W3 p q s' := ⟨hm3, hr3⟩
      obtain ⟨A2, c2, hv2, hrd⟩ := Rd.own ho3
      have hap := rows_apart HO2.out ho3 hv2
      subst hv2
      have hbase : w2.heap.size ≤ W3.heap.size := Nat.le_trans HQ2.out.1 hq3.1
      have hqq := HQ1.out.trans (HKD.out.trans (HQ2.out.trans hq3))
      have HO23 := Lib.hid ho23
      have HP3 := Lib.hid hp3
      have HRD := Lib.hid hrd
      have HAP := Lib.hid hap
      have HQQ := Lib.hid hqq
      clear hc ho23 hp3 hrd hap hqq ho3 hm3 hr3 hq3
      go_wp2_with fail
      refine (stretches22 w2.heap.size W3.heap.size c2 v1 A2 xs W3 HO23.out hbase HRD.out HAP.out hcnt).mono ?_
      rintro e W4 ⟨rfl, hgr⟩
      have hp4 := HP3.out.turned HO23.out HPD.out.1.base.size hgr
      have hq4 := HQQ.out.turned HO23.out (HQ1.out.trans HKD.out).1 hgr
      have HP4 := Lib.hid hp4
      have HQ4 := Lib.hid hq4
      clear hgr hp4 hq4
      go_wp2_with fail
      go_ret
      exact ⟨rfl, s', HP4.out, HOK'.out, HQ4.out⟩
    by_cases n3 : 0 < n
    · go_wp2_with fail
      refine (HPD.out.until1 (s.now + n) HOK.out (by omega)).mono ?_
      rintro e W2 ⟨v1, rfl, ho2, hm2, hr2, hq2⟩
      generalize hus : untilS s (s.now + n) = us at ho2 hm2
      have hcnt : us.2.length ≤ 65536 := by have := untilS_cnt s (s.now + n); rw [hus] at this; exact this
      have hok' : StOk (K + 1) us.1 := by have := untilS_ok (s.now + n) HOK.out; rw [hus] at this; exact stok_up this
      obtain ⟨s', xs⟩ := us
      simp only at ho2 hm2 hcnt hok'
      have HUS := Lib.hid hus
      have HO2 := Lib.hid ho2
      have HM2 := Lib.hid hm2
      have HR2 := Lib.hid hr2
      have HQ2 := Lib.hid hq2
      have HOK' := Lib.hid hok'
      clear hus ho2 hm2 hr2 hq2 hok'
      go_wp2_with fail
      have hc := Pair.until2 HM2.out HR2.out (s.now + n) HOK.out (by omega)
      rw [HUS.out] at hc
      refine hc.mono ?_
      rintro e W3 ⟨v2, rfl, ho3, hm3, hr3, hq3⟩
      simp only at ho3 hr3
      have ho23 := hq3.row HO2.out
      have hp3 : Pair w W3 p q s' := ⟨hm3, hr3⟩
      obtain ⟨A2, c2, hv2, hrd⟩ := Rd.own ho3
      have hap := rows_apart HO2.out ho3 hv2
      subst hv2
      have hbase : w2.heap.size ≤ W3.heap.size := Nat.le_trans HQ2.out.1 hq3.1
      have hqq := HQ1.out.trans (HKD.out.trans (HQ2.out.trans hq3))
      have HO23 := Lib.hid ho23
      have HP3 := Lib.hid hp3
      have HRD := Lib.hid hrd
      have HAP := Lib.hid hap
      have HQQ := Lib.hid hqq
      clear hc ho23 hp3 hrd hap hqq ho3 hm3 hr3 hq3
      go_wp2_with fail
      refine (stretches22 w2.heap.size W3.heap.size c2 v1 A2 xs W3 HO23.out hbase HRD.out HAP.out hcnt).mono ?_
      rintro e W4 ⟨rfl, hgr⟩
      have hp4 := HP3.out.turned HO23.out HPD.out.1.base.size hgr
      have hq4 := HQQ.out.turned HO23.out (HQ1.out.trans HKD.out).1 hgr
      have HP4 := Lib.hid hp4
      have HQ4 := Lib.hid hq4
      clear hgr hp4 hq4
      go_wp2_with fail
      go_ret
      exact ⟨rfl, s', HP4.out, HOK'.out, HQ4.out⟩
    · go_wp2_with fail
      refine (HPD.out.until1 (s.now) HOK.out (by omega)).mono ?_
      rintro e W2 ⟨v1, rfl, ho2, hm2, hr2, hq2⟩
      generalize hus : untilS s (s.now) = us at ho2 hm2
      have hcnt : us.2.length ≤ 65536 := by have := untilS_cnt s (s.now); rw [hus] at this; exact this
      have hok' : StOk (K + 1) us.1 := by have := untilS_ok (s.now) HOK.out; rw [hus] at this; exact stok_up this
      obtain ⟨s', xs⟩ := us
      simp only at ho2 hm2 hcnt hok'
      have HUS := Lib.hid hus
      have HO2 := Lib.hid ho2
      have HM2 := Lib.hid hm2
      have HR2 := Lib.hid hr2
      have HQ2 := Lib.hid hq2
      have HOK' := Lib.hid hok'
      clear hus ho2 hm2 hr2 hq2 hok'
      go_wp2_with fail
      have hc := Pair.until2 HM2.out HR2.out (s.now) HOK.out (by omega)
      rw [HUS.out] at hc
      refine hc.mono ?_
      rintro e W3 ⟨v2, rfl, ho3, hm3, hr3, hq3⟩
      simp only at ho3 hr3
      have ho23 := hq3.row HO2.out
      have hp3 : Pair w W3 p q s' := ⟨hm3, hr3⟩
      obtain ⟨A2, c2, hv2, hrd⟩ := Rd.own ho3
      have hap := rows_apart HO2.out ho3 hv2
      subst hv2
      have hbase : w2.heap.size ≤ W3.heap.size := Nat.le_trans HQ2.out.1 hq3.1
      have hqq := HQ1.out.trans (HKD.out.trans (HQ2.out.trans hq3))
      have HO23 := Lib.hid ho23
      have HP3 := Lib.hid hp3
      have HRD := Lib.hid hrd
      have HAP := Lib.hid hap
      have HQQ := Lib.hid hqq
      clear hc ho23 hp3 hrd hap hqq ho3 hm3 hr3 hq3
      go_wp2_with fail
      refine (stretches22 w2.heap.size W3.heap.size c2 v1 A2 xs W3 HO23.out hbase HRD.out HAP.out hcnt).mono ?_
      rintro e W4 ⟨rfl, hgr⟩
      have hp4 := HP3.out.turned HO23.out HPD.out.1.base.size hgr
      have hq4 := HQQ.out.turned HO23.out (HQ1.out.trans HKD.out).1 hgr
      have HP4 := Lib.hid hp4
      have HQ4 := Lib.hid hq4
      clear hgr hp4 hq4
      go_wp2_with fail
      go_ret
      exact ⟨rfl, s', HP4.out, HOK'.out, HQ4.out⟩
  · go_wp2_with fail
    go_ret
    exact ⟨rfl, s, HP1.out, stok_up HOK.out, HQ1.out⟩
end Go.Proofs.Ytcffjobefgecdaa.Ref
