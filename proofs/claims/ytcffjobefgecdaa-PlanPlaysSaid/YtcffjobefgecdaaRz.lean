/- The walk of PlanPlays. -/
import Derived.Test.YtcffjobefgecdaaRt
import Derived.Test.YtcffjobefgecdaaSh
namespace Go.Proofs.Ytcffjobefgecdaa.Ref
open Go.RowKit

@[go_sem] theorem eqT_self (a b c : Int) : eqT a b c a b c = true := by simp [eqT]
structure PStep where
  d : Int
  n : Int
  k : Int
  t : PTask
abbrev stepL (x : PStep) : List Value := [.int .i64 x.d, .int .i64 x.n, .int .i64 x.k, .int .i64 x.t.ev, .int .i64 x.t.lo, .int .i64 x.t.rk]
def stepsL (l : List PStep) : List Value := l.flatMap stepL
theorem stepsL_len (l : List PStep) : (stepsL l).length = l.length * 6 := by
  unfold stepsL
  induction l with
  | nil => rfl
  | cons a t ih => simp only [List.flatMap_cons, List.length_append, ih, List.length_cons, List.length_nil]; omega
theorem stepsL_at (l : List PStep) (j : Nat) (hj : j < l.length) (k : Nat) (hk : k < 6) : (stepsL l)[j * 6 + k]? = (stepL l[j])[k]? := by
  unfold stepsL
  induction l generalizing j with
  | nil => simp at hj
  | cons a t ih =>
    simp only [List.flatMap_cons]
    cases j with
    | zero =>
      rw [List.getElem?_append_left (by simp; omega)]
      simp
    | succ j =>
      rw [List.getElem?_append_right (by simp; omega), show (j + 1) * 6 + k - (stepL a).length = j * 6 + k by simp; omega]
      simpa using ih j (by simpa using hj)
theorem Rd_step {w : World} {B n k : Nat} {A : Option Addr} {l : List PStep} (h : Rd w B 6 A n (stepsL l)) (hk : k < n) :
    ∃ b off, ∃ hl : k < l.length, A = some ⟨b, off, none⟩ ∧ b < B ∧ w.cell? ⟨b, off + k * 6, none⟩ = some (.int .i64 l[k].d) ∧ w.cell? ⟨b, off + k * 6 + 1, none⟩ = some (.int .i64 l[k].n) ∧ w.cell? ⟨b, off + k * 6 + 2, none⟩ = some (.int .i64 l[k].k) ∧
      w.cell? ⟨b, off + k * 6 + 3, none⟩ = some (.int .i64 l[k].t.ev) ∧ w.cell? ⟨b, off + k * 6 + 4, none⟩ = some (.int .i64 l[k].t.lo) ∧ w.cell? ⟨b, off + k * 6 + 5, none⟩ = some (.int .i64 l[k].t.rk) := by
  obtain ⟨b, off, e, hb, hc⟩ := h.2 (by omega)
  have hlen := h.1
  rw [stepsL_len] at hlen
  have hl : k < l.length := by omega
  have at_ : ∀ f u, f < 6 → (stepL l[k])[f]? = some u → w.cell? ⟨b, off + k * 6 + f, none⟩ = some u := fun f u hf hu => by
    have := hc (k * 6 + f) u ((stepsL_at l k hl f hf).trans hu)
    rwa [← Nat.add_assoc] at this
  exact ⟨b, off, hl, e, hb, at_ 0 _ (by omega) rfl, at_ 1 _ (by omega) rfl, at_ 2 _ (by omega) rfl, at_ 3 _ (by omega) rfl, at_ 4 _ (by omega) rfl, at_ 5 _ (by omega) rfl⟩

theorem own_empty (w : World) : (w.alloc (.cells #[] 26)).ownsRow w.heap.size 26 3 (.slice (some ⟨w.heap.size, 0, none⟩) 0 0) 0 [] :=
  ⟨by simp, .inr ⟨w.heap.size, 0, #[], rfl, Nat.le_refl _, heap_alloc_new w _, Nat.le_refl _, Nat.zero_le _, by simp, by simp⟩⟩
theorem tasksL_one (l : List PTask) : ∀ u ∈ tasksL l, u.oneCell' = true := by
  intro u hu
  simp only [tasksL, List.mem_flatMap] at hu
  obtain ⟨r, _, hu⟩ := hu
  simp at hu
  rcases hu with rfl | rfl | rfl <;> rfl
set_option maxRecDepth 100000 in
theorem run_tasks (w : World) (base B n m c : Nat) (v : Value) (xs : List Value) (A : Option Addr) (l : List PTask) (hown : w.ownsRow base 26 3 v n xs) (h : Rd w B 3 A m (tasksL l)) (hA : A = none → c = 0) (hb : (n + m) * 24 ≤ 140737488355328) (hbase : base ≤ w.heap.size) :
    ∃ v' w', (Builtin.append_ #[22, 22] 22 #[v, .slice A m c]).run Try.prog w = .ok v' w' ∧ w'.ownsRow base 26 3 v' (n + m) (xs ++ tasksL l) ∧ w.grownBy w' v.ownBlock := by
  obtain ⟨i, hi, hz, hsz, hby⟩ := info_parts info26
  have hzs : (Value.agg #[.int .i64 0, .int .i64 0, .int .i64 0]).cells.size = 3 := rfl
  cases A with
  | none =>
    obtain rfl := hA rfl
    have hm : m = 0 := by
      rcases Nat.eq_zero_or_pos m with h0 | h0
      · exact h0
      · obtain ⟨b, off, e, _⟩ := h.2 h0
        cases e
    subst hm
    have hl : tasksL l = [] := by
      have := h.1
      exact List.length_eq_zero_iff.1 (by omega)
    have := run_append_owned_none (P := Try.prog) w base 22 22 26 i 3 Try.underlying22 hi v n xs hown
    refine ⟨v, w, this, ?_, World.grownBy.refl _ _⟩
    rw [hl, List.append_nil]
    exact hown
  | some a =>
    obtain ⟨v', w', hr, h2, h3, _⟩ := run_append_own (P := Try.prog) w base 22 22 26 i _ 3 24 Try.underlying22 hi hz hsz hby hzs (by decide) v n xs hown a m c (tasksL l) h.1 (fun j u hu => by
      rcases Nat.eq_zero_or_pos m with h0 | h0
      · have := h.1
        have := (List.getElem?_eq_some_iff.1 hu).1
        omega
      · obtain ⟨b, off, e, _, hc⟩ := h.2 h0
        injection e with e
        subst e
        rw [Addr.add_lit]
        exact hc j u hu) (tasksL_one l) (by simp only [maxLen]; omega) hb hbase
    exact ⟨v', w', hr, h2, h3⟩
theorem wpList_tasks (w : World) {ops : Array Oper} {rest : List Oper} {o : Oper} {a : Act} {Q : Exit → Act → World → Prop} (hgd : o.guard = none) (s x : Operand) (ho : o.op = .call { callee := .builtin .append, args := #[s, x], argTypes := #[22, 22] }) (hty : o.type = 22)
    (base B n m c : Nat) (v : Value) (xs : List Value) (A : Option Addr) (l : List PTask) (hs : a.eval s = v) (hx : a.eval x = .slice A m c) (hown : w.ownsRow base 26 3 v n xs) (h : Rd w B 3 A m (tasksL l)) (hA : A = none → c = 0) (hb : (n + m) * 24 ≤ 140737488355328) (hbase : base ≤ w.heap.size)
    (hK : ∀ v' w', w'.ownsRow base 26 3 v' (n + m) (xs ++ tasksL l) → w.grownBy w' v.ownBlock → wpList Try.prog ops Q rest (a.put o.dst v') w') : wpList Try.prog ops Q (o :: rest) a w := by
  refine wpList_plain hgd fun K hK' => ?_
  obtain ⟨v', w', hr, h2, h3⟩ := run_tasks w base B n m c v xs A l hown h hA hb hbase
  unfold Oper.wp execOp
  simp only [ho, hty, resolve, invoke, builtin, Sem.run_bind, Sem.run_pure, Result.andThen_ok, List.map_toArray, List.map_cons, List.map_nil, hs, hx, hr]
  exact hK' _ _ (hK v' w' h2 h3)
theorem own_form {w : World} {base sz n : Nat} {e : TypeId} {v : Value} {xs : List Value} (h : w.ownsRow base e sz v n xs) (hn : 0 < n) : ∃ g cap cur, v = .slice (some ⟨g, 0, none⟩) n cap ∧ base ≤ g ∧ Bk w g e cur ∧ n ≤ cap ∧ cap ≤ maxLen := by
  rcases h.2 with ⟨_, h⟩ | ⟨g, cap, cur, rfl, hb, hh, h1, h2, h3, h4⟩
  · omega
  · exact ⟨g, cap, cur, rfl, hb, hh, by omega, by omega⟩
theorem KQ.row26 {W W' : World} (h : KQ W W') {base sz n : Nat} {v : Value} {xs : List Value} (ho : W.ownsRow base 26 sz v n xs) : W'.ownsRow base 26 sz v n xs := by
  refine ⟨ho.1, ?_⟩
  rcases ho.2 with h4 | ⟨g, cap, cur, rfl, hg, hh, rest⟩
  · exact .inl h4
  · exact .inr ⟨g, cap, cur, rfl, hg, h.2 g 26 cur (by decide) (by decide) (by decide) (by decide) (by decide) (by decide) hh, rest⟩
theorem newR_zero {l : List PTask} (h : newR l = 0) : l.length ≤ 256 ∧ ∀ t ∈ l, mayB t = true := by
  unfold newR at h
  split at h
  · cases h
  · split at h
    · rename_i h1 h2
      exact ⟨by omega, fun t ht => List.all_eq_true.1 h2 t ht⟩
    · cases h
theorem pair_set {w W : World} {p q g : Nat} {s : PSt} (h : Pair w W p q s) {cs : Array Value} (hg : Bk W g 26 cs) (hw : w.heap.size ≤ g) (o : Nat) (u : Value) : Pair w (W.setCell ⟨g, o, none⟩ u) p q s := by
  have far : ∀ b t ds, t ≠ 26 → Bk W b t ds → Bk (W.setCell ⟨g, o, none⟩ u) b t ds := fun b t ds ht hb => by
    refine hb.far (p := ⟨g, o, none⟩) ?_ u
    rintro rfl
    unfold Bk at hb hg
    rw [hg] at hb
    injection hb with hb
    injection hb with _ hb
    exact ht hb.symm
  exact ⟨many_keep h.1 ((Below.refl _ _).setCell (p := ⟨g, o, none⟩) hw u) fun b t ds ht hb => far b t ds (by rcases ht with rfl | rfl | rfl <;> decide) hb, h.2.keep fun b t ds ht hb => far b t ds (by rcases ht with rfl | rfl | rfl <;> decide) hb⟩
theorem RefAt.base {B B' q : Nat} {W : World} {s : PSt} (h : RefAt B W q s) (hB : B' ≤ B) : RefAt B' W q s := by
  obtain ⟨h0, ⟨h2, h1⟩ | ⟨h2, bl, cap, G, h1, h3⟩⟩ := h
  · exact ⟨by omega, .inl ⟨h2, h1⟩⟩
  · exact ⟨by omega, .inr ⟨h2, bl, cap, G, h1, fun x hx => Nat.le_trans hB (h3 x hx)⟩⟩

set_option maxRecDepth 100000 in
set_option maxHeartbeats 4000000 in
theorem plays3 (B : Nat) (A0 A1 : Option Addr) (c0 n1 c1 : Nat) (l : List PTask) (sc : List PStep) (w : World) (h0 : Rd w B 3 A0 l.length (tasksL l)) (h1 : Rd w B 6 A1 n1 (stepsL sc)) (hB : B ≤ w.heap.size) (hn : l.length * 24 ≤ 140737488351232)
    (hnil : A0 = none → c0 = 0) (hsc : ∀ x ∈ sc, -9223372036854775808 ≤ x.k ∧ x.k ≤ 9223372036854775807) :
    Calls Try.prog 3 #[.slice A0 l.length c0, .slice A1 n1 c1] w fun e w' => e = .returned (.bool true) ∧ Below w.heap.size w w' := by
  have H0 := Lib.hid h0
  have H1 := Lib.hid h1
  have HSC := Lib.hid hsc
  have HNIL := Lib.hid hnil
  clear h0 h1 hsc hnil
  by_cases hbig : 500 < n1
  · have hb' : (500 : Int) < (n1 : Int) := by omega
    go_enter Try.func3, Try.ntmps3
    go_wp2_with fail
    refine (wakes9 w).mono ?_
    rintro e W1 ⟨rfl, hb⟩
    go_wp2_with fail
    go_ret
    exact ⟨rfl, hb⟩
  · have hb' : ¬ (500 : Int) < (n1 : Int) := by omega
    obtain ⟨i26, hi26, hz26, hsz26, hby26⟩ := info_parts info26
    have HI := Lib.hid hi26
    have HZ := Lib.hid hz26
    have HS := Lib.hid hsz26
    have HBY := Lib.hid hby26
    clear hi26 hz26 hsz26 hby26
    obtain ⟨n, hnl⟩ : ∃ n, l.length = n := ⟨_, rfl⟩
    rw [hnl] at hn ⊢
    have HN := Lib.hid hnl
    have H0' := Lib.hid (show Rd w B 3 A0 n (tasksL l) by rw [← hnl]; exact H0.out)
    clear H0 hnl
    go_enter Try.func3, Try.ntmps3
    go_wp2_with (at_builtin; refine wpList_tasks _ rfl _ _ rfl rfl w.heap.size B 0 n c0 _ [] A0 l rfl rfl (own_empty w) (H0'.out.below ((Below.refl _ _).alloc hB _)) HNIL.out (by omega) (by simp) ?_)
    intro v1 w1 hown1 hgr1
    have hown1 : w1.ownsRow w.heap.size 26 3 v1 n (tasksL l) := by simpa using hown1
    have hb1 : Below w.heap.size w w1 := ((Below.refl _ _).alloc (Nat.le_refl _) _).grown hgr1 (by simp) (fun k hk => by simp [Value.ownBlock] at hk; omega)
    have HO1 := Lib.hid hown1
    have HB1 := Lib.hid hb1
    have hz1 := hb1.size
    clear hown1 hgr1 hb1
    go_wp2_with (at_builtin; refine wpList_append_own _ rfl _ _ 22 rfl w.heap.size 26 i26 _ 3 24 Try.underlying22 HI.out HZ.out HS.out HBY.out rfl (by decide) _ _ _ rfl (HO1.out.alloc _) ⟨w1.heap.size, 0, none⟩ 1 1 [.int .i64 77, .int .i64 0, .int .i64 0] rfl rfl (cell_newL _ _ _) (by simp [Value.oneCell']) (by simp only [maxLen]; omega) (by omega) (by simp; omega) ?_)
    intro v2 w2 hown2 hgr2 _
    have hb2 : Below w.heap.size w w2 := (HB1.out.alloc hz1 _).grown hgr2 (by simp; omega) (fun k hk => (HO1.out.lt k hk).1)
    obtain ⟨g, cap, cur2, rfl, hg, hbk2, hcap, hcm⟩ := own_form hown2 (by omega)
    have hgl := hbk2.lt
    have hrd : Rd w2 w2.heap.size 3 (some ⟨g, 0, none⟩) n (tasksL l) := ⟨by rw [tasksL_len, HN.out], fun _ => ⟨g, 0, rfl, hgl, fun j u hu => by
      have hj := (List.getElem?_eq_some_iff.1 hu).1
      rw [tasksL_len, HN.out] at hj
      rw [Nat.zero_add, hown2.cellAt j (by omega), List.getElem?_append_left (by rw [tasksL_len, HN.out]; exact hj)]
      exact hu⟩⟩
    have HO2 := Lib.hid hown2
    have HB2 := Lib.hid hb2
    have HRD := Lib.hid hrd
    have hz2 := hb2.size
    simp only [maxLen] at hcm
    clear hown2 hgr2 hb2 hbk2 hrd
    by_cases hR : newR l = 0
    · obtain ⟨hn256, hmay⟩ := newR_zero hR
      have hok0 := newS_ok hn256 hmay
      rw [HN.out] at hn256
      have HR := Lib.hid hR
      have HOK0 := Lib.hid hok0
      clear hR hmay hok0
      go_wp2_with fail
      have hc := new_many ((Many.zero w).below HB2.out) HR.out (by rw [HN.out]; exact HRD.out) (Nat.le_refl _) (by rw [HN.out]; omega) (c := cap)
      rw [HN.out] at hc
      refine hc.mono ?_
      rintro e w3 ⟨p, rfl, hM3, hb3⟩
      have HM3 := Lib.hid (show Many w w3 [(newS l, p)] from hM3)
      have HB3 := Lib.hid hb3
      have hz3 := hb3.size
      clear hc hM3 hb3
      go_wp2_with fail
      have hc2 := new11 B A0 c0 l w3 (by rw [HN.out]; exact H0'.out.below (HM3.out.base.mono hB)) (by omega) (by rw [HN.out]; omega)
      rw [HN.out] at hc2
      refine hc2.mono ?_
      rintro e w4 ⟨hb4, ⟨hx, _⟩ | ⟨_, q, rfl, hr4⟩⟩
      · exact absurd HR.out hx
      have hp4 : Pair w w4 p q (newS l) := ⟨HM3.out.below hb4, RefAt.base hr4 (by omega)⟩
      have ho4 := own_below (own_below HO2.out HB3.out) hb4
      have HP4 := Lib.hid hp4
      have HO4 := Lib.hid ho4
      clear hc2 hb4 hr4 hp4 ho4
      go_wp2_with fail
      go_loopw [11] (fun i wr => ∃ (k : Nat) (zs : List Value), k ≤ n ∧ i = .int .i64 k ∧ wr.ownsRow w.heap.size 26 3 (.slice (some ⟨g, 0, none⟩) (n + 1) cap) (n + 1) zs ∧ (∀ j, 3 * k ≤ j → zs[j]? = (tasksL l ++ [.int .i64 77, .int .i64 0, .int .i64 0])[j]?) ∧ Pair w wr p q (newS l)) (fun i _ => n - (intOf i).toNat)
      case atStart => exact ⟨0, _, by omega, rfl, HO4.out, fun _ _ => rfl, HP4.out⟩
      case round =>
        obtain ⟨k, zs, hk, rfl, hown, hzs, hp⟩ := hrel
        have hbel := hp.1.base
        obtain ⟨cur, hbk⟩ : ∃ cur, Bk wr g 26 cur := by
          obtain ⟨g', cap', cur, e, _, hbk, _⟩ := own_form hown (by omega)
          injection e with e
          injection e with e
          injection e with e
          exact ⟨cur, by rw [e]; exact hbk⟩
        have HOWN := Lib.hid hown
        have HZS := Lib.hid hzs
        have HP := Lib.hid hp
        have HBK := Lib.hid hbk
        have hglr := hbk.lt
        clear hp hbk
        by_cases hlt : k < n
        · have hkl : k < l.length := by rw [HN.out]; exact hlt
          obtain ⟨b, off, hl', rfl, hb, t0, t1, t2⟩ := (H0'.out.below (hbel.mono hB)).task hlt
          have cell : ∀ f, f < 3 → wr.cell? ⟨g, k * 3 + f, none⟩ = (taskL l[k])[f]? := fun f hf => by
            rw [hown.cellAt (k * 3 + f) (by omega), hzs _ (by omega), List.getElem?_append_left (by rw [tasksL_len, HN.out]; omega)]
            exact tasksL_at l k hkl f hf
          have a0 := cell 0 (by omega)
          have a1 := cell 1 (by omega)
          have a2 := cell 2 (by omega)
          simp at a0 a1 a2
          have z0 := hown.frozenAt (k * 3)
          have z1 := hown.frozenAt (k * 3 + 1)
          have z2 := hown.frozenAt (k * 3 + 2)
          have hgb : ¬ g = b := by omega
          generalize l[k] = t at a0 a1 a2 t0 t1 t2
          obtain ⟨ev, lo, rk⟩ := t
          simp only at a0 a1 a2 t0 t1 t2
          clear cell hown hzs hbel
          go_wp2_with fail
          go_quiet (fail)
          go_wp2_with fail
          go_roundw
          case rel =>
            refine ⟨k + 1, _, by omega, by go_num, ((((((own_drewN HOWN.out _).stored (k * 3) _).1).stored (k * 3 + 1) _).1).stored (k * 3 + 2) _).1, fun j hj => ?_, ?_⟩
            · rw [List.getElem?_set_ne (by omega), List.getElem?_set_ne (by omega), List.getElem?_set_ne (by omega)]
              exact HZS.out j (by omega)
            · exact (pair_set (pair_set (pair_set HP.out HBK.out hg (k * 3) _) (HBK.out.put _ _) hg (k * 3 + 1) _) ((HBK.out.put _ _).put _ _) hg (k * 3 + 2) _).below ⟨rfl, rfl, rfl, Nat.le_refl _, fun _ _ => rfl⟩
          case measure => simp [intOf]; omega
        · obtain rfl : k = n := by omega
          have h77 : zs[k * 3]? = some (.int .i64 77) := by
            rw [hzs _ (by omega), List.getElem?_append_right (by rw [tasksL_len, HN.out]; omega), tasksL_len, HN.out, Nat.sub_self]
            rfl
          have H77 := Lib.hid h77
          clear hown hzs h77 hbel
          go_wp2_with fail
          go_loopw [12, 13, 14, 15, 16, 17] (fun lg i _ _ _ _ wq => ∃ (j G : Nat) (s : PSt), j ≤ n1 ∧ i = .int .i64 j ∧ lg = .int .i64 G ∧ G ≤ 20 ∧ Pair w wq p q s ∧ StOk (1 + j) s ∧ wq.ownsRow w.heap.size 26 3 (.slice (some ⟨g, 0, none⟩) (k + 1) cap) (k + 1) zs) (fun _ i _ _ _ _ _ => n1 - (intOf i).toNat)
          case atStart => exact ⟨0, 0, newS l, by omega, rfl, rfl, by omega, HP.out, HOK0.out, HOWN.out⟩
          case round =>
            obtain ⟨j, G, s, hj, rfl, rfl, hG, hp, hok, hown⟩ := hrel
            have HP2 := Lib.hid hp
            have HOK2 := Lib.hid hok
            have HOWN2 := Lib.hid hown
            have hbel := hp.1.base
            by_cases hlt2 : j < n1
            · obtain ⟨b, off, hl', rfl, hb, y0, y1, y2, y3, y4, y5⟩ := Rd_step (H1.out.below (hbel.mono hB)) hlt2
              obtain ⟨k0, k1⟩ := HSC.out _ (List.getElem_mem hl')
              generalize hx : sc[j] = x at *
              have HX := Lib.hid hx
              clear hp hok hown hbel hx
              go_wp2_with fail
              refine (step12 w wr p q (1 + j) s x.d x.n x.k x.t HP2.out HOK2.out (by omega) k0 k1).mono ?_
              rintro e w5 ⟨rfl, s', hp5, hok5, hq5⟩
              have ho5 := hq5.row26 HOWN2.out
              have HP5 := Lib.hid hp5
              have HOK5 := Lib.hid hok5
              have HO5 := Lib.hid ho5
              clear hp5 hok5 hq5 ho5 y0 y1 y2 y3 y4 y5
              go_wp2_with fail
              refine (load_many HP5.out.1 (i := 0) rfl HOK5.out).mono ?_
              rintro e w6 ⟨rfl, hM6, hkp6⟩
              have HP6 := Lib.hid (show Pair w w6 p q s' from ⟨hM6, HP5.out.2.kp hkp6⟩)
              have HO6 := Lib.hid ((KQ.kp hkp6).row26 HO5.out)
              clear hM6 hkp6
              generalize hld : loadS s' = ld
              have HLD := Lib.hid hld
              clear hld
              go_wp2_with fail
              have hcl := ref_load HP6.out.2 HOK5.out
              rw [HLD.out] at hcl
              refine hcl.mono ?_
              rintro e w7 ⟨rfl, hb7⟩
              have HP7 := Lib.hid (HP6.out.below hb7)
              have HO7 := Lib.hid (own_below HO6.out hb7)
              clear hb7 hcl
              obtain ⟨b', off', hl'', e', hb', y0, _⟩ := Rd_step (H1.out.below (HP7.out.1.base.mono hB)) hlt2
              injection e' with e'
              injection e' with e1 e2 _
              subst e1 e2
              rw [HX.out] at y0
              have r77 : w7.cell? ⟨g, k * 3, none⟩ = some (.int .i64 77) := (HO7.out.cellAt (k * 3) (by omega)).trans H77.out
              have HNOW := Lib.hid (now_many HP7.out.1 (i := 0) rfl)
              have HNOW2 := Lib.hid (ref_now HP7.out.2)
              clear hb'
              go_wp2_with fail
              refine HNOW.out.mono ?_
              rintro e wa ⟨rfl, rfl⟩
              go_wp2_with fail
              refine HNOW2.out.mono ?_
              rintro e wa ⟨rfl, rfl⟩
              by_cases d1 : x.d = 1
              · rw [d1] at y0
                by_cases hG20 : G = 20
                · subst hG20
                  go_wp2_with fail
                  refine (wakes9 _).mono ?_
                  rintro e wz ⟨rfl, hbz⟩
                  go_wp2_with fail
                  go_ret
                  exact ⟨rfl, below_to HP7.out.1.base hbz HP7.out.1.base.size⟩
                · go_wp2_with fail
                  go_roundw
                  case rel => exact ⟨j + 1, G + 1, s', by omega, by go_num, by go_num, by omega, HP7.out, (by have := HOK5.out; rwa [Nat.add_assoc] at this), HO7.out⟩
                  case measure => simp [intOf]; omega
              · by_cases d3 : x.d = 3
                · rw [d3] at y0
                  by_cases hG20 : G = 20
                  · subst hG20
                    go_wp2_with fail
                    refine (wakes9 _).mono ?_
                    rintro e wz ⟨rfl, hbz⟩
                    go_wp2_with fail
                    go_ret
                    exact ⟨rfl, below_to HP7.out.1.base hbz HP7.out.1.base.size⟩
                  · go_wp2_with fail
                    go_roundw
                    case rel => exact ⟨j + 1, G + 1, s', by omega, by go_num, by go_num, by omega, HP7.out, (by have := HOK5.out; rwa [Nat.add_assoc] at this), HO7.out⟩
                    case measure => simp [intOf]; omega
                · have e1 : (x.d == 1) = false := by simpa using d1
                  have e3 : (x.d == 3) = false := by simpa using d3
                  have hG' : ¬ (20 : Int) < (G : Int) := by omega
                  go_wp2_with fail
                  go_roundw
                  case rel => exact ⟨j + 1, G, s', by omega, by go_num, rfl, hG, HP7.out, (by have := HOK5.out; rwa [Nat.add_assoc] at this), HO7.out⟩
                  case measure => simp [intOf]; omega
            · have r77 : wr.cell? ⟨g, k * 3, none⟩ = some (.int .i64 77) := (HOWN2.out.cellAt (k * 3) (by omega)).trans H77.out
              clear hp hok hown hbel
              go_wp2_with fail
              refine (wakes9 _).mono ?_
              rintro e wz ⟨rfl, hbz⟩
              go_wp2_with fail
              go_ret
              exact ⟨rfl, below_to HP2.out.1.base hbz HP2.out.1.base.size⟩
    · have HR := Lib.hid hR
      clear hR
      go_wp2_with fail
      have hc := new10 w2.heap.size (some ⟨g, 0, none⟩) cap l w2 (by rw [HN.out]; exact HRD.out) (Nat.le_refl _) (by rw [HN.out]; omega)
      rw [HN.out] at hc
      refine hc.mono ?_
      rintro e w3 ⟨hb3, ⟨_, rfl⟩ | ⟨hx, _⟩⟩
      · have HB3 := Lib.hid (below_to HB2.out hb3 hz2)
        clear hc hb3
        go_wp2_with fail
        have hc2 := new11 B A0 c0 l w3 (by rw [HN.out]; exact H0'.out.below (HB3.out.mono hB)) (by have := HB3.out.size; omega) (by rw [HN.out]; omega)
        rw [HN.out] at hc2
        refine hc2.mono ?_
        rintro e w4 ⟨hb4, ⟨_, rfl⟩ | ⟨hx, _⟩⟩
        · have HB4 := Lib.hid (below_to HB3.out hb4 HB3.out.size)
          clear hc2 hb4
          go_wp2_with fail
          refine (wakes9 _).mono ?_
          rintro e wz ⟨rfl, hbz⟩
          go_wp2_with fail
          go_ret
          exact ⟨rfl, below_to HB4.out hbz HB4.out.size⟩
        · exact absurd hx HR.out
      · exact absurd hx HR.out
end Go.Proofs.Ytcffjobefgecdaa.Ref
