/- The walk of Next. -/
import Derived.Test.YtcffjobefgecdaaW
import Derived.Test.YtcffjobefgecdaaJ
import Derived.OwnWalk
namespace Go.Proofs.Ytcffjobefgecdaa
open Go.RowKit

theorem runsL_one (rs : List PRun) : ∀ u ∈ runsL rs, u.oneCell' = true := by
  intro u hu
  simp only [runsL, List.mem_flatMap] at hu
  obtain ⟨r, _, hu⟩ := hu
  simp at hu
  rcases hu with rfl | rfl | rfl | rfl | rfl <;> rfl

/-- A wait slice copied. -/
theorem run_wait_copy (w : World) (v : Value) (rs : List PRun) (h : WaitAt w v rs) (hn : rs.length ≤ 1000000000) :
    ∃ v' w', (Builtin.append_ #[66, 66] 66 #[.slice none 0 0, v]).run Try.prog w = .ok v' w' ∧ WaitAt w' v' rs ∧ w.grownBy w' none ∧ ∀ b, blkOf v' = some b → w.heap.size ≤ b := by
  obtain ⟨i, hi, hz, hsz, hby⟩ := info_parts info102
  have hzs : (Value.agg #[.int .i64 0, .int .i64 0, .int .i64 0, .int .i64 0, .int .i64 0]).cells.size = 5 := rfl
  have hown : w.ownsRow w.heap.size 102 5 (.slice none 0 0) 0 [] := World.ownsRow_nil _ _ _ _
  rcases h with ⟨rfl, A, rfl⟩ | ⟨g, off, c, ds, rfl, hne, hd, hc, hm, hs, ho, hr⟩
  · cases A with
    | none =>
      have := run_append_owned_none (P := Try.prog) w w.heap.size 66 66 102 i 5 Try.underlying66 hi _ 0 [] hown
      exact ⟨_, _, this, .inl ⟨rfl, none, rfl⟩, World.grownBy.refl _ _, fun b hb => by simp [blkOf] at hb⟩
    | some a =>
      obtain ⟨v', w', hrun, h2, h3, h4⟩ := run_append_own (P := Try.prog) w w.heap.size 66 66 102 i _ 5 40 Try.underlying66 hi hz hsz hby hzs (by decide) _ 0 [] hown a 0 0 [] rfl (by simp) (by simp) (by simp) (by simp) (Nat.le_refl _)
      obtain rfl := h4.2 ⟨rfl, rfl⟩
      exact ⟨_, _, hrun, .inl ⟨rfl, none, rfl⟩, h3, fun b hb => by simp [blkOf] at hb⟩
  · have holds : ∀ j u, (runsL rs)[j]? = some u → w.cell? ((⟨g, off, none⟩ : Addr).add j) = some u := fun j u hu => by
      rw [Addr.add_lit, hd.cell]
      exact runs_cells hr j u hu
    obtain ⟨v', w', hrun, h2, h3, h4⟩ := run_append_own (P := Try.prog) w w.heap.size 66 66 102 i _ 5 40 Try.underlying66 hi hz hsz hby hzs (by decide) _ 0 [] hown ⟨g, off, none⟩ rs.length c (runsL rs) (runsL_len rs) holds (runsL_one rs) (by simp only [maxLen]; omega) (by omega) (Nat.le_refl _)
    have hn0 : 0 < rs.length := List.length_pos_iff.2 hne
    rw [Nat.zero_add, List.nil_append] at h2
    refine ⟨v', w', hrun, ?_, h3, ?_⟩
    · rcases h2.2 with ⟨_, h⟩ | ⟨g', cp, cur, rfl, hb, hh, h5, h6, h7, h8⟩
      · omega
      · refine .inr ⟨g', 0, cp, cur, rfl, hne, hh, h5, h6, by omega, .inl ⟨rfl, h7⟩, runs_of_cells fun i u hu => ?_⟩
        have hi' := (List.getElem?_eq_some_iff.1 hu).1
        rw [runsL_len] at hi'
        rw [← h8, List.getElem?_take, if_pos hi'] at hu
        simpa using hu
    · intro b hb
      rcases h2.2 with ⟨_, h⟩ | ⟨g', cp, cur, rfl, hb', hh, _⟩
      · omega
      · rw [blkOf_len hn0] at hb
        injection hb with hb
        subst hb
        exact hb'

theorem wpList_wait_copy (w : World) {ops : Array Oper} {rest : List Oper} {o : Oper} {a : Act} {Q : Exit → Act → World → Prop} (hgd : o.guard = none) (s x : Operand) (ho : o.op = .call { callee := .builtin .append, args := #[s, x], argTypes := #[66, 66] }) (hty : o.type = 66)
    (v : Value) (rs : List PRun) (hs : a.eval s = .slice none 0 0) (hx : a.eval x = v) (h : WaitAt w v rs) (hn : rs.length ≤ 1000000000)
    (hK : ∀ v' w', WaitAt w' v' rs → w.grownBy w' none → (∀ b, blkOf v' = some b → w.heap.size ≤ b) → wpList Try.prog ops Q rest (a.put o.dst v') w') : wpList Try.prog ops Q (o :: rest) a w := by
  refine wpList_plain hgd fun K hK' => ?_
  obtain ⟨v', w', hr, h2, h3, h4⟩ := run_wait_copy w v rs h hn
  unfold Oper.wp execOp
  simp only [ho, hty, resolve, invoke, builtin, Sem.run_bind, Sem.run_pure, Result.andThen_ok, List.map_toArray, List.map_cons, List.map_nil, hs, hx, hr]
  exact hK' _ _ (hK v' w' h2 h3 h4)

/-- The lines copied, the first k with waits of their own. -/
structure OldAt (w : World) (B ob k : Nat) (G Go : Nat → Value) (l : List PLine) : Prop where
  ge : B ≤ ob
  hb : ∃ cs, Bk w ob 68 cs ∧ l.length * 6 ≤ cs.size ∧ ∀ i (hi : i < l.length), LineAt cs (i * 6) (if i < k then Go i else G i) l[i]
  hw : ∀ i (hi : i < l.length), i < k → WaitAt w (Go i) l[i].wait
  hg : ∀ i, i < k → ∀ b, blkOf (Go i) = some b → B ≤ b
  ha : ∀ i j, i < k → j < k → i ≠ j → blkOf (Go i) ≠ none → blkOf (Go i) ≠ blkOf (Go j)

/-- The row of lines copied. -/
theorem run_lines_copy (w : World) (p bl cap : Nat) (G : Nat → Value) (s : PSt) (h : PlanAt w p bl cap G s) (hn : s.l.length ≤ 256) (h0 : 0 < s.l.length) :
    ∃ ob oc w', (Builtin.append_ #[62, 62] 62 #[.slice none 0 0, .slice (some ⟨bl, 0, none⟩) s.l.length cap]).run Try.prog w = .ok (.slice (some ⟨ob, 0, none⟩) s.l.length oc) w' ∧ OldAt w' w.heap.size ob 0 G G s.l ∧ w.grownBy w' none := by
  obtain ⟨i, hi, hz, hsz, hby⟩ := info_parts info68
  have hzs : (Value.agg #[.int .i64 0, .int .i64 0, .int .i64 0, .int .i64 0, .slice none 0 0, .int .i64 0]).cells.size = 6 := rfl
  have hown : w.ownsRow w.heap.size 68 6 (.slice none 0 0) 0 [] := World.ownsRow_nil _ _ _ _
  obtain ⟨cs, hb, hs, hline⟩ := h.hb
  have hlt : (cs.toList.take (s.l.length * 6)).length = s.l.length * 6 := by simp; omega
  have holds : ∀ j u, (cs.toList.take (s.l.length * 6))[j]? = some u → w.cell? ((⟨bl, 0, none⟩ : Addr).add j) = some u := fun j u hu => by
    rw [Addr.add_lit, Nat.zero_add, hb.cell]
    rw [List.getElem?_take] at hu
    split at hu
    · simpa using hu
    · cases hu
  have hone : ∀ u ∈ cs.toList.take (s.l.length * 6), u.oneCell' = true := by
    intro u hu
    obtain ⟨j, hj, hju⟩ := List.mem_iff_getElem.1 hu
    have e : some u = cs[j]? := by
      rw [hlt] at hj
      rw [← hju, ← List.getElem?_eq_getElem, List.getElem?_take, if_pos hj]
      simp
    rw [hlt] at hj
    have hk : j / 6 < s.l.length := by omega
    obtain ⟨⟨a0, a1, a2⟩, a3, a4, a5⟩ := hline (j / 6) hk
    obtain ⟨A, c, hG⟩ := (h.hw (j / 6) hk).len
    rw [hG] at a4
    have hm : j = j / 6 * 6 + j % 6 := by omega
    have hm6 : j % 6 = 0 ∨ j % 6 = 1 ∨ j % 6 = 2 ∨ j % 6 = 3 ∨ j % 6 = 4 ∨ j % 6 = 5 := by omega
    rcases hm6 with h6 | h6 | h6 | h6 | h6 | h6 <;> rw [h6] at hm <;> rw [hm] at e
    · rw [Nat.add_zero, a0] at e; rw [Option.some.inj e]; rfl
    · rw [a1] at e; rw [Option.some.inj e]; rfl
    · rw [a2] at e; rw [Option.some.inj e]; rfl
    · rw [a3] at e; rw [Option.some.inj e]; rfl
    · rw [a4] at e; rw [Option.some.inj e]; rfl
    · rw [a5] at e; rw [Option.some.inj e]; rfl
  obtain ⟨v', w', hrun, h2, h3, h4⟩ := run_append_own (P := Try.prog) w w.heap.size 62 62 68 i _ 6 64 Try.underlying62 hi hz hsz hby hzs (by decide) _ 0 [] hown ⟨bl, 0, none⟩ s.l.length cap _ hlt holds hone (by simp only [maxLen]; omega) (by omega) (Nat.le_refl _)
  rw [Nat.zero_add, List.nil_append] at h2
  rcases h2.2 with ⟨_, h⟩ | ⟨g', cp, cur, rfl, hb', hh, h5, h6, h7, h8⟩
  · omega
  · refine ⟨g', cp, w', hrun, ⟨hb', ⟨cur, hh, by omega, fun i hi => ?_⟩, fun i hi h => by omega, fun i h => by omega, fun i j h => by omega⟩, h3⟩
    simp only [Nat.not_lt_zero, if_false]
    have at_ : ∀ f, f < 6 → cur[i * 6 + f]? = cs[i * 6 + f]? := by
      intro f hf
      have h9 : (cur.toList.take (s.l.length * 6))[i * 6 + f]? = (cs.toList.take (s.l.length * 6))[i * 6 + f]? := by rw [h8]
      rw [List.getElem?_take, List.getElem?_take, if_pos (by omega), if_pos (by omega)] at h9
      simpa using h9
    obtain ⟨⟨a0, a1, a2⟩, a3, a4, a5⟩ := hline i hi
    exact ⟨⟨(at_ 0 (by omega)).trans a0, (at_ 1 (by omega)).trans a1, (at_ 2 (by omega)).trans a2⟩, (at_ 3 (by omega)).trans a3, (at_ 4 (by omega)).trans a4, (at_ 5 (by omega)).trans a5⟩
theorem wpList_lines_copy (w : World) {ops : Array Oper} {rest : List Oper} {o : Oper} {a : Act} {Q : Exit → Act → World → Prop} (hgd : o.guard = none) (s x : Operand) (ho : o.op = .call { callee := .builtin .append, args := #[s, x], argTypes := #[62, 62] }) (hty : o.type = 62)
    (p bl cap : Nat) (G : Nat → Value) (st : PSt) (h : PlanAt w p bl cap G st) (hn : st.l.length ≤ 256) (h0 : 0 < st.l.length) (hs : a.eval s = .slice none 0 0) (hx : a.eval x = .slice (some ⟨bl, 0, none⟩) st.l.length cap)
    (hK : ∀ ob oc w', OldAt w' w.heap.size ob 0 G G st.l → w.grownBy w' none → wpList Try.prog ops Q rest (a.put o.dst (.slice (some ⟨ob, 0, none⟩) st.l.length oc)) w') : wpList Try.prog ops Q (o :: rest) a w := by
  refine wpList_plain hgd fun K hK' => ?_
  obtain ⟨ob, oc, w', hr, h2, h3⟩ := run_lines_copy w p bl cap G st h hn h0
  unfold Oper.wp execOp
  simp only [ho, hty, resolve, invoke, builtin, Sem.run_bind, Sem.run_pure, Result.andThen_ok, List.map_toArray, List.map_cons, List.map_nil, hs, hx, hr]
  exact hK' _ _ (hK ob oc w' h2 h3)

theorem OldAt.cell {w : World} {B ob k : Nat} {G Go : Nat → Value} {l : List PLine} (h : OldAt w B ob k G Go l) (hk : k < l.length) : w.cell? ⟨ob, k * 6 + 4, none⟩ = some (G k) ∧ w.frozen? ⟨ob, k * 6 + 4, none⟩ = false ∧ ob < w.heap.size := by
  obtain ⟨cs, hb, _, hl⟩ := h.hb
  obtain ⟨_, _, h4, _⟩ := hl k hk
  rw [if_neg (Nat.lt_irrefl _)] at h4
  exact ⟨(hb.cell _).trans h4, hb.frozen _, hb.lt⟩
theorem OldAt.keep {w w' : World} {B ob k : Nat} {G Go : Nat → Value} {l : List PLine} (h : OldAt w B ob k G Go l) (hk : ∀ g, B ≤ g → g < w.heap.size → w'.heap[g]? = w.heap[g]?) : OldAt w' B ob k G Go l := by
  obtain ⟨cs, hb, hs, hl⟩ := h.hb
  refine ⟨h.ge, ⟨cs, (hk ob h.ge hb.lt).trans hb, hs, hl⟩, fun i hi hik => ?_, h.hg, h.ha⟩
  have hw := h.hw i hi hik
  exact hw.keep fun g hg => hk g (h.hg i hik g hg) (hw.lt g hg).1
theorem OldAt.step {w w1 : World} {B ob k : Nat} {G Go : Nat → Value} {l : List PLine} {v' : Value} (h : OldAt w B ob k G Go l) (hk : k < l.length) (hg : w.grownBy w1 none) (hw : WaitAt w1 v' l[k].wait) (hv : ∀ b, blkOf v' = some b → w.heap.size ≤ b) (hB : B ≤ w.heap.size) :
    OldAt (w1.setCell ⟨ob, k * 6 + 4, none⟩ v') B ob (k + 1) G (fun i => if i = k then v' else Go i) l := by
  obtain ⟨cs, hb, hs, hl⟩ := h.hb
  have hb1 : Bk w1 ob 68 cs := (hg.block ob hb.lt (by simp)).trans hb
  have h102 : ∀ {g : Nat} {ds : Array Value}, Bk w1 g 102 ds → ob ≠ g := by
    rintro g ds hd rfl
    unfold Bk at hd hb1
    rw [hb1] at hd
    injection hd with hd
    injection hd with _ hd
    cases hd
  have hw1 : ∀ i (hi : i < l.length), i < k → WaitAt w1 (Go i) l[i].wait := fun i hi hik => (h.hw i hi hik).keep fun g hgg => hg.block g ((h.hw i hi hik).lt g hgg).1 (by simp)
  refine ⟨h.ge, ⟨_, hb1.put (k * 6 + 4) v', by simpa using hs, fun i hi => ?_⟩, fun i hi hik => ?_, fun i hik b hbk => ?_, fun i j hi hj hij hne => ?_⟩
  · by_cases e : i = k
    · subst e
      rw [if_pos (Nat.lt_succ_self _), if_pos rfl]
      exact (hl i hi).wait v' _ (by omega)
    · have := (hl i hi).other v' (i := k * 6 + 4) (by omega)
      by_cases hik : i < k
      · rw [if_pos hik] at this
        rw [if_pos (by omega), if_neg e]
        exact this
      · rw [if_neg hik] at this
        rw [if_neg (by omega)]
        exact this
  · by_cases e : i = k
    · subst e
      rw [if_pos rfl]
      refine hw.keep fun g hgg => Below.heap_setCell _ _ _ _ ?_
      obtain ⟨_, ds, hd⟩ := hw.lt g hgg
      exact h102 hd ∘ Eq.symm
    · rw [if_neg e]
      have hwi := hw1 i hi (by omega)
      refine hwi.keep fun g hgg => Below.heap_setCell _ _ _ _ ?_
      obtain ⟨_, ds, hd⟩ := hwi.lt g hgg
      exact h102 hd ∘ Eq.symm
  · by_cases e : i = k
    · subst e
      rw [if_pos rfl] at hbk
      exact Nat.le_trans hB (hv b hbk)
    · rw [if_neg e] at hbk
      exact h.hg i (by omega) b hbk
  · by_cases e : i = k
    · by_cases e2 : j = k
      · omega
      · rw [if_pos e, if_neg e2]
        rw [if_pos e] at hne
        intro heq
        obtain ⟨b, hb'⟩ := Option.ne_none_iff_exists'.1 hne
        rw [hb'] at heq
        have := hv b hb'
        have := ((h.hw j (by omega) (by omega)).lt b heq.symm).1
        omega
    · rw [if_neg e] at hne ⊢
      by_cases e2 : j = k
      · rw [if_pos e2]
        intro heq
        obtain ⟨b, hb'⟩ := Option.ne_none_iff_exists'.1 hne
        rw [hb'] at heq
        have := hv b heq.symm
        have := ((h.hw i (by omega) (by omega)).lt b hb').1
        omega
      · rw [if_neg e2]
        exact h.ha i j (by omega) (by omega) hij hne
/-- The plan set back on its copy. -/
theorem OldAt.plan {w : World} {B ob p oc : Nat} {G Go : Nat → Value} {s : PSt} (h : OldAt w B ob s.l.length G Go s.l) (hp : Bk w p 64 #[.slice (some ⟨ob, 0, none⟩) s.l.length oc, .int .i64 s.now]) : PlanAt w p ob oc Go s := by
  obtain ⟨cs, hb, hs, hl⟩ := h.hb
  refine ⟨hp, ⟨cs, hb, hs, fun i hi => ?_⟩, fun i hi => h.hw i hi hi, fun i j hi hj hij hne => h.ha i j hi hj hij hne⟩
  have := hl i hi
  rwa [if_pos hi] at this

def RelX (w : World) (p bl : Nat) (G : Nat → Value) (s : PSt) (w' : World) : Prop :=
  ∃ bl' cap' G', PlanAt w' p bl' cap' G' s ∧ (∀ x, own p bl' G' s.l.length x → own p bl G s.l.length x ∨ w.heap.size ≤ x) ∧ Fr (own p bl G s.l.length) w w'

theorem RelX.below {w w1 w2 : World} {p bl : Nat} {G : Nat → Value} {s : PSt} (h : RelX w p bl G s w1) (hb : Below w1.heap.size w1 w2) : RelX w p bl G s w2 := by
  obtain ⟨bl', cap', G', h1, h2, h3⟩ := h
  exact ⟨bl', cap', G', h1.below hb, h2, h3.trans (Fr.of_below hb (fun _ => False)) (fun _ h => h.elim)⟩
theorem next17_nil (w : World) : Calls Try.prog 17 #[.pointer none] w fun e w' => e = .returned (.tuple #[slotV ⟨0, 0, 0, false⟩, .int .i64 1]) ∧ Below w.heap.size w w' := by
  go_enter Try.func17, Try.ntmps17
  go_wp2_with fail
  exact bodyPost_ret (v := .tuple #[slotV ⟨0, 0, 0, false⟩, .int .i64 1]) (by simp [results, Try.results17, go_sem]) rfl ⟨rfl, (Below.refl _ _).alloc (Nat.le_refl _) _⟩
set_option maxRecDepth 100000 in
set_option maxHeartbeats 4000000 in
theorem next17 (p bl cap K : Nat) (G : Nat → Value) (s : PSt) (w : World) (h : PlanAt w p bl cap G s) (hok : StOk K s) (hK : K ≤ 1000000000) :
    Calls Try.prog 17 #[.pointer (some ⟨p, 0, none⟩)] w fun e w' => e = .returned (.tuple #[slotV (nextS s).2.1, .int .i64 (nextS s).2.2]) ∧ RelX w p bl G (nextS s).1 w' := by
  have hn := hok.n
  obtain ⟨d0, d1⟩ := h.head
  have hlp := h.lt p (.inl rfl)
  have hlow := h.lt
  have H := Lib.hid h
  have HOK := Lib.hid hok
  have HLOW := Lib.hid hlow
  obtain ⟨n, hnl⟩ : ∃ n, s.l.length = n := ⟨_, rfl⟩
  rw [hnl] at d0 hn
  have HN := Lib.hid hnl
  clear h hok hlow hnl
  by_cases h0 : n = 0
  · subst h0
    go_enter Try.func17, Try.ntmps17
    go_wp2_with fail
    have hnx : nextS s = (s, ⟨0, 0, 0, false⟩, 240) := by
      unfold nextS
      rw [if_pos (List.eq_nil_of_length_eq_zero HN.out)]
    rw [hnx]
    exact bodyPost_ret (v := .tuple #[slotV ⟨0, 0, 0, false⟩, .int .i64 240]) (by simp [results, Try.results17, go_sem]) rfl ⟨rfl, bl, cap, G, H.out.alloc _, fun x hx => .inl hx, (Fr.refl _ _).alloc _⟩
  · have h0b : ((n : Int) == 0) = false := by simp; omega
    have h0c : (n == 0) = false := by simp; omega
    go_enter Try.func17, Try.ntmps17
    go_upto_region 1 with fail
    refine wp_gen (fun W => PlanAt W p bl cap G s ∧ Below w.heap.size w W ∧ Bk W w.heap.size 42 (slotCells ⟨0, 0, 0, false⟩)) ?_ ?_
    · exact ⟨H.out.alloc _, (Below.refl _ _).alloc (Nat.le_refl _) _, Bk.new w _ _⟩
    rintro W1 ⟨hp1, hb1, hk1⟩
    obtain ⟨d0, d1⟩ := hp1.head
    rw [HN.out] at d0
    have HP1 := Lib.hid hp1
    have HB1 := Lib.hid hb1
    have HK1 := Lib.hid hk1
    have hz1 := hb1.size
    clear hp1 hb1 hk1
    go_wp2_with (at_builtin; refine wpList_lines_copy _ rfl _ _ rfl rfl p bl cap G s HP1.out (by rw [HN.out]; exact hn) (by rw [HN.out]; omega) rfl (by rw [HN.out]; rfl) ?_)
    intro ob oc W2 hold hgr
    rw [HN.out]
    have hp2 : PlanAt W2 p bl cap G s := HP1.out.keep fun b hb => hgr.block b (HP1.out.lt b hb) (by simp)
    have hb2 : Below w.heap.size w W2 := HB1.out.grown hgr hz1 (fun k hk => by cases hk)
    have hk2 : Bk W2 w.heap.size 42 (slotCells ⟨0, 0, 0, false⟩) := (hgr.block _ HK1.out.lt (by simp)).trans HK1.out
    have hzz := HK1.out.lt
    have hold2 : OldAt W2 (w.heap.size + 1) ob 0 G G s.l := ⟨Nat.le_trans hzz hold.ge, hold.hb, hold.hw, fun i h => by omega, hold.ha⟩
    have HP2 := Lib.hid hp2
    have HB2 := Lib.hid hb2
    have HK2 := Lib.hid hk2
    have HO2 := Lib.hid hold2
    clear hp2 hb2 hk2 hold2 hold hgr d0 d1
    go_wp2_with fail
    go_loopg [5, 26] n (fun gq _ i wr => ∃ (k : Nat) (Go : Nat → Value), k ≤ n ∧ gq = n - k ∧ i = .int .i64 k ∧ PlanAt wr p bl cap G s ∧ Below w.heap.size w wr ∧ OldAt wr (w.heap.size + 1) ob k G Go s.l ∧ Bk wr w.heap.size 42 (slotCells ⟨0, 0, 0, false⟩))
    case atStart => exact ⟨0, G, by omega, by omega, rfl, HP2.out, HB2.out, HO2.out, HK2.out⟩
    case round =>
      obtain ⟨k, Go, hk, rfl, rfl, hp, hb, ho, hkk⟩ := hrel
      have HP := Lib.hid hp
      have HB := Lib.hid hb
      have HO := Lib.hid ho
      have HKK := Lib.hid hkk
      have hzr := hb.size
      clear hp hb ho hkk
      by_cases hlt : k < n
      · have hks : k < s.l.length := by rw [HN.out]; exact hlt
        obtain ⟨c4, f4, hobl⟩ := HO.out.cell hks
        have hwk := HP.out.hw k hks
        obtain ⟨A, cw, hG⟩ := hwk.len
        have hwl : s.l[k].wait.length ≤ 1000000000 := by have := (HOK.out.lines _ (List.getElem_mem hks)).wt; unfold weight at this; omega
        rw [hG] at c4
        have HWK := Lib.hid hwk
        have HG := Lib.hid hG
        clear hwk hG
        go_wp2_with (at_builtin; refine wpList_wait_copy _ rfl _ _ rfl rfl (G k) s.l[k].wait rfl (by rw [HG.out]; rfl) HWK.out hwl ?_)
        intro v' W4 hw4 hgr hv4
        obtain ⟨A4, c44, rfl⟩ := hw4.len
        have c5 := (hgr.cell_far ⟨ob, k * 6 + 4, none⟩ hobl (by simp)).trans c4
        have f5 := (hgr.frozen_far ⟨ob, k * 6 + 4, none⟩ hobl (by simp)).trans f4
        have hb4 := HB.out.grown hgr hzr (fun k hk => by cases hk)
        have hp4 : PlanAt W4 p bl cap G s := HP.out.keep fun b hb => hgr.block b (HP.out.lt b hb) (by simp)
        have hk4 : Bk W4 w.heap.size 42 (slotCells ⟨0, 0, 0, false⟩) := (hgr.block _ HKK.out.lt (by simp)).trans HKK.out
        have hge := HO.out.ge
        have hzk := HKK.out.lt
        have hst := HO.out.step hks hgr hw4 hv4 (by omega)
        have HB4 := Lib.hid hb4
        have HP4 := Lib.hid hp4
        have HK4 := Lib.hid hk4
        have HST := Lib.hid hst
        clear hb4 hp4 hk4 hst hw4 hgr hv4 c4 f4
        go_wp2_with fail
        go_roundg (n - (k + 1))
        case measure => omega
        case rel =>
          refine ⟨k + 1, _, by omega, rfl, by go_num, HP4.out.far (a := ⟨ob, k * 6 + 4, none⟩) (fun e => by have := HLOW.out ob e; omega) _, HB4.out.setCell (p := ⟨ob, k * 6 + 4, none⟩) (by show w.heap.size ≤ ob; omega) _, HST.out, HK4.out.far (p := ⟨ob, k * 6 + 4, none⟩) (by show w.heap.size ≠ ob; omega) _⟩
      · obtain rfl : k = n := by omega
        go_wp2_with fail
        refine (stretch34 p bl cap K G s 1152921504606846976 wr HP.out HOK.out hK (by omega)).mono ?_
        rintro e W5 ⟨rfl, hr5⟩
        obtain ⟨q1, q2, q3, q4⟩ := stretch_ok (lim := 1152921504606846976) HOK.out (by omega)
        generalize hst : stretch s 1152921504606846976 = st at *
        obtain ⟨s1, o1⟩ := st
        have HST := Lib.hid hst
        have HQ1 := Lib.hid q1
        have HQ4 := Lib.hid q4
        have q2' : s1.l.length = k := by rw [← HN.out]; exact q2
        have q3' : s1.now = s.now := q3
        clear hst q1 q4 q2 q3
        obtain ⟨⟨G5, hp5, ho5⟩, hf5⟩ := hr5
        rw [q2'] at ho5 hf5
        have hLn : ∀ g, own p bl G k g → g < w.heap.size := fun g hg => HLOW.out g (by rw [HN.out]; exact hg)
        have keepB : ∀ g, w.heap.size ≤ g → g < wr.heap.size → W5.heap[g]? = wr.heap[g]? := fun g h1 h2 => hf5.block g h2 (fun e => by have := hLn g e; omega)
        have hold5 : OldAt W5 (w.heap.size + 1) ob k G Go s.l := HO.out.keep fun g h1 h2 => keepB g (by omega) h2
        have hk5 : Bk W5 w.heap.size 42 (slotCells ⟨0, 0, 0, false⟩) := (keepB _ (Nat.le_refl _) HKK.out.lt).trans HKK.out
        have hfw : Fr (own p bl G k) w W5 := (Fr.of_below HB.out _).trans hf5 (fun x hx => .inl hx)
        have howk : ∀ x, own p bl G5 k x → own p bl G k x ∨ w.heap.size ≤ x := fun x hx => (ho5 x hx).imp id (fun h => Nat.le_trans hzr h)
        have hpw : p ≠ w.heap.size := by omega
        have hob := hold5.ge
        have back : RelX w p bl G s (((((W5.setCell ⟨p, 0, none⟩ (.slice (some ⟨ob, 0, none⟩) k oc)).setCell ⟨w.heap.size, 0, none⟩ (.int .i64 0)).setCell ⟨w.heap.size, 1, none⟩ (.int .i64 0)).setCell ⟨w.heap.size, 2, none⟩ (.int .i64 0)).setCell ⟨w.heap.size, 3, none⟩ (.bool false)) ∧
            Bk (((((W5.setCell ⟨p, 0, none⟩ (.slice (some ⟨ob, 0, none⟩) k oc)).setCell ⟨w.heap.size, 0, none⟩ (.int .i64 0)).setCell ⟨w.heap.size, 1, none⟩ (.int .i64 0)).setCell ⟨w.heap.size, 2, none⟩ (.int .i64 0)).setCell ⟨w.heap.size, 3, none⟩ (.bool false)) w.heap.size 42 (slotCells ⟨0, 0, 0, false⟩) := by
          constructor
          · refine ⟨ob, oc, Go, ?_, ?_, ?_⟩
            · have hpp := hp5.hp
              rw [q2', q3'] at hpp
              have h1 := ((((hpp.put 0 (.slice (some ⟨ob, 0, none⟩) k oc)).far (p := ⟨w.heap.size, 0, none⟩) hpw (.int .i64 0)).far (p := ⟨w.heap.size, 1, none⟩) hpw (.int .i64 0)).far (p := ⟨w.heap.size, 2, none⟩) hpw (.int .i64 0)).far (p := ⟨w.heap.size, 3, none⟩) hpw (.bool false)
              have h2 : OldAt (((((W5.setCell ⟨p, 0, none⟩ (.slice (some ⟨ob, 0, none⟩) k oc)).setCell ⟨w.heap.size, 0, none⟩ (.int .i64 0)).setCell ⟨w.heap.size, 1, none⟩ (.int .i64 0)).setCell ⟨w.heap.size, 2, none⟩ (.int .i64 0)).setCell ⟨w.heap.size, 3, none⟩ (.bool false)) (w.heap.size + 1) ob s.l.length G Go s.l := by
                rw [HN.out]
                refine hold5.keep fun g h1 h2 => ?_
                rw [Below.heap_setCell _ _ _ _ (by show g ≠ w.heap.size; omega), Below.heap_setCell _ _ _ _ (by show g ≠ w.heap.size; omega), Below.heap_setCell _ _ _ _ (by show g ≠ w.heap.size; omega), Below.heap_setCell _ _ _ _ (by show g ≠ w.heap.size; omega), Below.heap_setCell _ _ _ _ (by show g ≠ p; omega)]
              refine h2.plan (oc := oc) ?_
              rw [HN.out]
              simpa using h1
            · rw [HN.out]
              rintro x (rfl | rfl | ⟨i, hi, hx⟩)
              · exact .inl (.inl rfl)
              · exact .inr (by omega)
              · have := hold5.hg i hi x hx
                exact .inr (by omega)
            · rw [HN.out]
              exact ((((hfw.setCell (p := ⟨p, 0, none⟩) (.inl (.inl rfl)) _).setCell (p := ⟨w.heap.size, 0, none⟩) (.inr (Nat.le_refl _)) _).setCell (p := ⟨w.heap.size, 1, none⟩) (.inr (Nat.le_refl _)) _).setCell (p := ⟨w.heap.size, 2, none⟩) (.inr (Nat.le_refl _)) _).setCell (p := ⟨w.heap.size, 3, none⟩) (.inr (Nat.le_refl _)) _
          · have := ((((hk5.far (p := ⟨p, 0, none⟩) (Ne.symm hpw) (.slice (some ⟨ob, 0, none⟩) k oc)).put 0 (.int .i64 0)).put 1 (.int .i64 0)).put 2 (.int .i64 0)).put 3 (.bool false)
            simpa using this
        have BACK := Lib.hid back
        have e0 := hk5.cell 0
        have e1 := hk5.cell 1
        have e2 := hk5.cell 2
        have e3 := hk5.cell 3
        have f0 := hk5.frozen 0
        have f1 := hk5.frozen 1
        have f2 := hk5.frozen 2
        have f3 := hk5.frozen 3
        have f4 := hp5.frozenP 0
        obtain ⟨g0, g1⟩ := hp5.head
        simp at e0 e1 e2 e3
        have HP5 := Lib.hid hp5
        have HFW := Lib.hid hfw
        have HOWK := Lib.hid howk
        have HK5 := Lib.hid hk5
        have hlk := hk5.lt
        have hlp5 := hp5.lt p (.inl rfl)
        have ne1 : ¬ p = w.heap.size := hpw
        have ne2 : ¬ w.heap.size = p := Ne.symm hpw
        clear back hold5 hk5 hfw howk hp5 ho5 hf5 keepB hLn
        cases o1 with
        | none =>
          simp only [strV]
          go_wp2_with fail
          have hnx : nextS s = (s, ⟨0, 0, 0, false⟩, 3) := by
            unfold nextS
            rw [if_neg (fun e => by have := HN.out; rw [e] at this; simp at this; omega)]
            have := HST.out
            unfold endT
            rw [this]
          rw [hnx]
          obtain ⟨hx, hbk⟩ := BACK.out
          have hbk2 := hbk.alloc (.cells #[.int .i64 0, .int .i64 0, .int .i64 0, .bool false] 42)
          have q0 := hbk2.cell 0
          have q1 := hbk2.cell 1
          have q2 := hbk2.cell 2
          have q3 := hbk2.cell 3
          simp at q0 q1 q2 q3
          refine bodyPost_ret (v := .tuple #[slotV ⟨0, 0, 0, false⟩, .int .i64 3]) ?_ rfl ⟨rfl, hx.below ((Below.refl _ _).alloc (Nat.le_refl _) _)⟩
          simp [results, Try.results17, go_sem, q0, q1, q2, q3]
        | some xd =>
          obtain ⟨x, d⟩ := xd
          simp only [strV]
          by_cases hto : 1152921504606846976 < x.to
          · have HTO := Lib.hid hto
            go_wp2_with fail
            have hnx : nextS s = (s, ⟨0, 0, 0, false⟩, 3) := by
              unfold nextS
              rw [if_neg (fun e => by have := HN.out; rw [e] at this; simp at this; omega)]
              have := HST.out
              unfold endT
              rw [this]
              simp only [if_pos HTO.out]
            rw [hnx]
            obtain ⟨hx, hbk⟩ := BACK.out
            have hbk2 := hbk.alloc (.cells #[.int .i64 x.task, .int .i64 x.frm, .int .i64 x.to, .bool x.late] 42)
            have q0 := hbk2.cell 0
            have q1 := hbk2.cell 1
            have q2 := hbk2.cell 2
            have q3 := hbk2.cell 3
            simp at q0 q1 q2 q3
            refine bodyPost_ret (v := .tuple #[slotV ⟨0, 0, 0, false⟩, .int .i64 3]) ?_ rfl ⟨rfl, hx.below ((Below.refl _ _).alloc (Nat.le_refl _) _)⟩
            simp [results, Try.results17, go_sem, q0, q1, q2, q3]
          · have HTO := Lib.hid (show x.to ≤ 1152921504606846976 by omega)
            obtain ⟨⟨i, hsl⟩, q5, q6⟩ := HQ4.out x d rfl
            have HSL := Lib.hid hsl
            clear hsl q6
            go_wp2_with fail
            refine calls_gen (fun W => PlanAt W p bl cap G5 s1 ∧ Fr (own p bl G k) w W ∧ Bk W w.heap.size 42 (slotCells ⟨0, 0, 0, false⟩) ∧ Bk W W5.heap.size 42 (slotCells x)) ?_ ?_
            · exact ⟨HP5.out.alloc _, HFW.out.alloc _, HK5.out.alloc _, Bk.new W5 _ _⟩
            rintro W6 ⟨hp6, hf6, hk6, hb6⟩
            have hi1 : i < s1.l.length := HSL.out.hi
            have lo := HQ1.out.lines (s1.l[i]'hi1) (List.getElem_mem hi1)
            obtain ⟨lf0, lf1⟩ := lo.left HSL.out.wait
            have lwt : (s1.l[i]'hi1).wait.length ≤ 1000000000 := by have := lo.wt; unfold weight at this; omega
            have lnx := lo.n1
            have hylt := HSL.out.lt
            have hyf := HSL.out.f0
            have hto' := HTO.out
            rw [HSL.out.task]
            refine (done35 p bl cap G5 s1 i x.frm x.to x.late W6 hp6 hi1 lo.runs (by omega) HSL.out.wait lwt lf0 lf1 hyf (by omega) HSL.out.len (by omega)).mono ?_
            rintro e W7 ⟨rfl, hr7⟩
            have hde : done s1 ⟨i, x.frm, x.to, x.late⟩ = done s1 x := by
              have := HSL.out.task
              simp only [← this]
            rw [hde] at hr7
            have hdl : (done s1 x).l.length = k := by simp [done, q2']
            have hk7 := hr7.fr.bk hk6 (by rw [hdl, ← q2']; exact hp6.not_own hk6 (by decide) (by decide) (by decide))
            have hb7 := hr7.fr.bk hb6 (by rw [hdl, ← q2']; exact hp6.not_own hb6 (by decide) (by decide) (by decide))
            obtain ⟨⟨G7, hp7, ho7⟩, hf7⟩ := hr7
            rw [hdl] at ho7 hf7
            have hz6 := hf6.size
            have hno7 := hp7.not_own hk7 (by decide) (by decide) (by decide)
            have hx7 : RelX w p bl G (done s1 x) ((((W7.setCell ⟨w.heap.size, 0, none⟩ (.int .i64 x.task)).setCell ⟨w.heap.size, 1, none⟩ (.int .i64 x.frm)).setCell ⟨w.heap.size, 2, none⟩ (.int .i64 x.to)).setCell ⟨w.heap.size, 3, none⟩ (.bool x.late)) := by
              refine ⟨bl, cap, G7, (((hp7.far (a := ⟨w.heap.size, 0, none⟩) hno7 _).far (a := ⟨w.heap.size, 1, none⟩) hno7 _).far (a := ⟨w.heap.size, 2, none⟩) hno7 _).far (a := ⟨w.heap.size, 3, none⟩) hno7 _, ?_, ?_⟩
              · rw [hdl]
                intro x hx
                rcases ho7 x hx with h | h
                · exact HOWK.out x h
                · exact .inr (Nat.le_trans hz6 h)
              · rw [hdl]
                exact ((((hf6.trans hf7 HOWK.out).setCell (p := ⟨w.heap.size, 0, none⟩) (.inr (Nat.le_refl _)) _).setCell (p := ⟨w.heap.size, 1, none⟩) (.inr (Nat.le_refl _)) _).setCell (p := ⟨w.heap.size, 2, none⟩) (.inr (Nat.le_refl _)) _).setCell (p := ⟨w.heap.size, 3, none⟩) (.inr (Nat.le_refl _)) _
            have hk8 : Bk ((((W7.setCell ⟨w.heap.size, 0, none⟩ (.int .i64 x.task)).setCell ⟨w.heap.size, 1, none⟩ (.int .i64 x.frm)).setCell ⟨w.heap.size, 2, none⟩ (.int .i64 x.to)).setCell ⟨w.heap.size, 3, none⟩ (.bool x.late)) w.heap.size 42 (slotCells x) := by
              have := (((hk7.put 0 (.int .i64 x.task)).put 1 (.int .i64 x.frm)).put 2 (.int .i64 x.to)).put 3 (.bool x.late)
              simpa using this
            have u0 := hb7.cell 0
            have u1 := hb7.cell 1
            have u2 := hb7.cell 2
            have u3 := hb7.cell 3
            have e0 := hk7.cell 0
            have e1 := hk7.cell 1
            have e2 := hk7.cell 2
            have e3 := hk7.cell 3
            have f0 := hk7.frozen 0
            have f1 := hk7.frozen 1
            have f2 := hk7.frozen 2
            have f3 := hk7.frozen 3
            simp at u0 u1 u2 u3 e0 e1 e2 e3
            have HX7 := Lib.hid hx7
            have HK8 := Lib.hid hk8
            clear hx7 hk8 hp6 hf6 hk6 hb6 hk7 hb7 hp7 ho7 hf7 hde hdl hno7
            go_wp2_with fail
            have hnx : nextS s = (done s1 x, x, 0) := by
              unfold nextS
              rw [if_neg (fun e => by have := HN.out; rw [e] at this; simp at this; omega)]
              have := HST.out
              unfold endT
              rw [this]
              simp only [if_neg (show ¬ 1152921504606846976 < x.to by omega)]
            rw [hnx]
            have q0 := HK8.out.cell 0
            have q1 := HK8.out.cell 1
            have q2 := HK8.out.cell 2
            have q3 := HK8.out.cell 3
            simp at q0 q1 q2 q3
            refine bodyPost_ret (v := .tuple #[slotV x, .int .i64 0]) ?_ rfl ⟨rfl, HX7.out⟩
            simp [results, Try.results17, go_sem, q0, q1, q2, q3]
end Go.Proofs.Ytcffjobefgecdaa
