/- A job appended to those that wait. -/
import Derived.Test.YtcffjobefgecdaaU
import Derived.Deep.AppendLies
namespace Go.Proofs.Ytcffjobefgecdaa
open Go.RowKit

theorem info102 : (Try.prog.info? 102).map (fun i => (i.zero, i.size, i.bytes)) = some (some (.agg #[.int .i64 0, .int .i64 0, .int .i64 0, .int .i64 0, .int .i64 0]), 5, 40) := by kernel_rfl

abbrev runL (r : PRun) : List Value := [.int .i64 r.t.ev, .int .i64 r.t.lo, .int .i64 r.t.rk, .int .i64 r.first, .int .i64 r.count]
def runsL (rs : List PRun) : List Value := rs.flatMap runL
theorem runsL_len (rs : List PRun) : (runsL rs).length = rs.length * 5 := by
  induction rs with
  | nil => rfl
  | cons r rs ih => simp [runsL] at *; omega
theorem runAt_of {cs : Array Value} {o : Nat} {r : PRun} (h : ∀ k u, (runL r)[k]? = some u → cs[o + k]? = some u) : RunAt cs o r :=
  ⟨⟨h 0 _ rfl, h 1 _ rfl, h 2 _ rfl⟩, h 3 _ rfl, h 4 _ rfl⟩
theorem runAt_to {cs : Array Value} {o : Nat} {r : PRun} (h : RunAt cs o r) : ∀ k u, (runL r)[k]? = some u → cs[o + k]? = some u := by
  obtain ⟨⟨h0, h1, h2⟩, h3, h4⟩ := h
  intro k u hk
  match k, hk with
  | 0, hk => simp at hk; subst hk; exact h0
  | 1, hk => simp at hk; subst hk; exact h1
  | 2, hk => simp at hk; subst hk; exact h2
  | 3, hk => simp at hk; subst hk; exact h3
  | 4, hk => simp at hk; subst hk; exact h4
theorem runsL_at (rs : List PRun) (j : Nat) (hj : j < rs.length) (k : Nat) (hk : k < 5) : (runsL rs)[j * 5 + k]? = (runL rs[j])[k]? := by
  induction rs generalizing j with
  | nil => simp at hj
  | cons r rs ih =>
    have hl : (runL r).length = 5 := rfl
    cases j with
    | zero =>
      simp only [runsL, List.flatMap_cons, List.getElem_cons_zero, Nat.zero_mul, Nat.zero_add]
      rw [List.getElem?_append_left (by omega)]
    | succ j =>
      have := ih j (by simpa using hj)
      simp only [runsL, List.flatMap_cons, List.getElem_cons_succ] at this ⊢
      rw [List.getElem?_append_right (by omega), hl, show (j + 1) * 5 + k - 5 = j * 5 + k by omega]
      exact this
theorem runs_cells {cs : Array Value} {off : Nat} {rs : List PRun} (h : ∀ j (hj : j < rs.length), RunAt cs (off + j * 5) rs[j]) : ∀ i u, (runsL rs)[i]? = some u → cs[off + i]? = some u := by
  intro i u hu
  have hi : i < rs.length * 5 := by have := (List.getElem?_eq_some_iff.1 hu).1; rwa [runsL_len] at this
  have hj : i / 5 < rs.length := by omega
  have e : i = i / 5 * 5 + i % 5 := by omega
  rw [e, runsL_at rs (i / 5) hj (i % 5) (by omega)] at hu
  have := runAt_to (h (i / 5) hj) (i % 5) u hu
  rw [show off + i = off + i / 5 * 5 + i % 5 by omega]
  exact this
theorem runs_of_cells {cs : Array Value} {rs : List PRun} (h : ∀ (i : Nat) (u : Value), (runsL rs)[i]? = some u → cs[i]? = some u) : ∀ j (hj : j < rs.length), RunAt cs (0 + j * 5) rs[j] := by
  intro j hj
  refine runAt_of fun k u hk => ?_
  have hk5 : k < 5 := (List.getElem?_eq_some_iff.1 hk).1
  rw [Nat.zero_add]
  exact h _ u ((runsL_at rs j hj k hk5).trans hk)
theorem runsL_snoc (rs : List PRun) (r : PRun) : runsL (rs ++ [r]) = runsL rs ++ runL r := by simp [runsL]

theorem waitAt_new {w : World} {g c : Nat} {ds : Array Value} {rs : List PRun} (hne : rs ≠ []) (hb : Bk w g 102 ds) (hc : rs.length ≤ c) (hm : c ≤ maxLen) (hs : ds.size = c * 5) (h : ∀ (i : Nat) (u : Value), (runsL rs)[i]? = some u → ds[i]? = some u) :
    WaitAt w (.slice (some ⟨g, 0, none⟩) rs.length c) rs :=
  .inr ⟨g, 0, c, ds, rfl, hne, hb, hc, hm, by omega, .inl ⟨rfl, hs⟩, runs_of_cells h⟩

theorem grow_wait (w : World) (rs : List PRun) (r : PRun) (c : Nat) (hc : rs.length + 1 ≤ c) (hm : c ≤ maxLen) (z : Value) (hz : z.cells.size = 5) (row : Option Nat) :
    WaitAt (w.drew.alloc (.cells ((runsL rs).toArray ++ (runL r).toArray ++ Builtin.zeroCells z.cells (c - (rs.length + 1))) 102)) (.slice (some ⟨w.heap.size, 0, none⟩) (rs.length + 1) c) (rs ++ [r]) ∧
    w.grownBy (w.drew.alloc (.cells ((runsL rs).toArray ++ (runL r).toArray ++ Builtin.zeroCells z.cells (c - (rs.length + 1))) 102)) row := by
  have hl : (rs ++ [r]).length = rs.length + 1 := by simp
  refine ⟨?_, ⟨rfl, rfl, rfl, by simp, fun k hk _ => Below.heap_alloc w.drew _ k hk⟩⟩
  have := waitAt_new (rs := rs ++ [r]) (g := w.heap.size) (c := c) (by simp) (heap_alloc_new w.drew (.cells ((runsL rs).toArray ++ (runL r).toArray ++ Builtin.zeroCells z.cells (c - (rs.length + 1))) 102)) (by omega) hm ?_ ?_
  · rwa [hl] at this
  · simp only [Array.size_append, List.size_toArray, size_zeroCells, hz, runsL_len]
    simp
    omega
  · intro i u hu
    rw [runsL_snoc] at hu
    have hi := (List.getElem?_eq_some_iff.1 hu).1
    rw [Array.getElem?_append_left (by simpa using hi)]
    simpa using hu

theorem run_wait_append (w : World) (v : Value) (rs : List PRun) (r : PRun) (h : WaitAt w v rs) (nb : Nat) (hb : Bk w nb 102 (runL r).toArray) (hn : rs.length ≤ 1000000000) :
    ∃ v' w', (Builtin.append_ #[66, 66] 66 #[v, .slice (some ⟨nb, 0, none⟩) 1 1]).run Try.prog w = .ok v' w' ∧ WaitAt w' v' (rs ++ [r]) ∧ w.grownBy w' (blkOf v) ∧
      (blkOf v' = blkOf v ∨ blkOf v' = some w.heap.size) := by
  obtain ⟨i, hi, hz, hsz, hby⟩ := info_parts info102
  have hzs : (Value.agg #[.int .i64 0, .int .i64 0, .int .i64 0, .int .i64 0, .int .i64 0]).cells.size = 5 := rfl
  have hnews : ∀ j u, (runL r)[j]? = some u → w.cell? ((⟨nb, 0, none⟩ : Addr).add j) = some u := fun j u hu => by
    rw [Addr.add_lit, Nat.zero_add, hb.cell]
    simpa using hu
  have hlen : (runL r).length = 1 * i.size := by rw [hsz]; rfl
  have h1 : ∀ u ∈ runL r, u.oneCell' = true := by intro u hu; simp at hu; rcases hu with rfl | rfl | rfl | rfl | rfl <;> rfl
  have hml : ∀ n old, n ≤ 1000000001 → grownCap w n old 102 ≤ maxLen := fun n old hn => grownCap_le_maxLen w n old 102 (by simp only [maxLen]; omega)
  rcases h with ⟨rfl, A, rfl⟩ | ⟨g, off, c, ds, rfl, hne, hd, hc, hm, hs, ho, hr⟩
  · cases A with
    | none =>
      have hr := run_append_nil (P := Try.prog) w 66 66 102 i _ Try.underlying66 hi hz ⟨nb, 0, none⟩ 1 1 (runL r) hlen hnews (by omega) (by omega) (by omega)
      have hg := grow_wait w [] r (grownCap w 1 0 102) (by have := grownCap_ge w 1 0 102; simpa using this) (hml 1 0 (by omega)) _ hzs (blkOf (.slice none 0 0))
      simp only [runsL, List.flatMap_nil, Array.empty_append, List.length_nil, Nat.zero_add] at hg
      exact ⟨_, _, hr, by simpa using hg.1, hg.2, .inr (blkOf_len (by omega))⟩
    | some a =>
      have hr := run_append_grow (P := Try.prog) w 66 66 102 i _ Try.underlying66 hi hz a 0 0 [] (by simp) (by simp) ⟨nb, 0, none⟩ 1 1 (runL r) hlen hnews (by omega) (by omega) (growslice_fits (by omega) (by rw [hby]; omega))
      have hg := grow_wait w [] r (grownCap w (0 + 1) 0 102) (by have := grownCap_ge w (0 + 1) 0 102; simpa using this) (hml _ 0 (by omega)) _ hzs (blkOf (.slice (some a) 0 0))
      simp only [runsL, List.flatMap_nil, List.length_nil] at hg
      exact ⟨_, _, hr, by simpa using hg.1, hg.2, .inr (blkOf_len (by omega))⟩
  · have hn0 : 0 < rs.length := List.length_pos_iff.2 hne
    have hbk : blkOf (.slice (some ⟨g, off, none⟩) rs.length c) = some g := blkOf_len hn0
    by_cases hroom : rs.length + 1 ≤ c
    · have ho0 : off = 0 ∧ ds.size = c * 5 := by omega
      obtain ⟨rfl, hs'⟩ := ho0
      have hrun := run_append_room (P := Try.prog) w 66 66 102 i Try.underlying66 hi g rs.length c ds hd ⟨nb, 0, none⟩ 1 1 (runL r) hlen hnews h1 hroom (by rw [hsz, hs']; simp; omega)
      refine ⟨_, _, hrun, ?_, ⟨rfl, rfl, rfl, by simp, fun k _ hk => setRow_other w g k _ (fun e => hk (by rw [hbk, e]))⟩, .inl ?_⟩
      · have hl : (rs ++ [r]).length = rs.length + 1 := by simp
        have hcells := runs_cells hr
        have := waitAt_new (w := w.setRow g (ds.toList.take (rs.length * i.size) ++ runL r ++ ds.toList.drop (rs.length * i.size + (runL r).length)).toArray) (rs := rs ++ [r]) (g := g) (c := c) (by simp) (setRow_heap w g ds _ 102 _ hd) (by omega) hm ?_ ?_
        · rwa [hl] at this
        · rw [hsz]
          simp
          omega
        · intro q u hu
          rw [runsL_snoc] at hu
          have hq := (List.getElem?_eq_some_iff.1 hu).1
          rw [List.length_append, runsL_len] at hq
          have hq5 : (runL r).length = 5 := rfl
          have htl : (ds.toList.take (rs.length * 5)).length = rs.length * 5 := by simp; omega
          rw [hsz, List.getElem?_toArray, List.append_assoc]
          by_cases hlt : q < rs.length * 5
          · rw [List.getElem?_append_left (by rw [runsL_len]; exact hlt)] at hu
            rw [List.getElem?_append_left (by omega), List.getElem?_take, if_pos hlt]
            have := hcells q u hu
            simpa using this
          · rw [List.getElem?_append_right (by rw [runsL_len]; omega), runsL_len] at hu
            rw [List.getElem?_append_right (by omega), htl, List.getElem?_append_left (by omega)]
            exact hu
      · rw [hbk, blkOf_len (by omega)]
    · have hcn : c = rs.length := by omega
      have holds : ∀ j u, (runsL rs)[j]? = some u → w.cell? ((⟨g, off, none⟩ : Addr).add j) = some u := fun j u hu => by
        rw [Addr.add_lit, hd.cell]
        exact runs_cells hr j u hu
      have hrun := run_append_grow (P := Try.prog) w 66 66 102 i _ Try.underlying66 hi hz ⟨g, off, none⟩ rs.length c (runsL rs) (by rw [hsz]; exact runsL_len rs) holds ⟨nb, 0, none⟩ 1 1 (runL r) hlen hnews (by omega) (by omega) (growslice_fits (by omega) (by rw [hby]; omega))
      have hg := grow_wait w rs r (grownCap w (rs.length + 1) c 102) (grownCap_ge w _ c 102) (hml _ c (by omega)) _ hzs (blkOf (.slice (some ⟨g, off, none⟩) rs.length c))
      exact ⟨_, _, hrun, hg.1, hg.2, .inr (blkOf_len (by omega))⟩

/-- Behind the append, and the store of its answer into the line. -/
theorem app_done {w0 W1 w2 : World} {p bl cap : Nat} {G1 : Nat → Value} {s1 : PSt} (hp1 : PlanAt W1 p bl cap G1 s1) {k : Nat} (hk : k < s1.l.length) {v v' : Value} (hG : G1 k = v) {rs : List PRun} (o : Obj) (hw2 : WaitAt w2 v' rs)
    (hgr : ((W1.alloc o).drew).grownBy w2 (blkOf v)) (hbv : blkOf v' = blkOf v ∨ blkOf v' = some ((W1.alloc o).drew).heap.size) {S : Nat → Prop} (hf : Fr S w0 W1) (hS : ∀ x, own p bl G1 s1.l.length x → S x ∨ w0.heap.size ≤ x) :
    PlanAt (w2.setCell ⟨bl, k * 6 + 4, none⟩ v') p bl cap (fun i => if i = k then v' else G1 i) { s1 with l := s1.l.set k { s1.l[k] with wait := rs } } ∧ Fr S w0 (w2.setCell ⟨bl, k * 6 + 4, none⟩ v') ∧
      (∀ x, own p bl (fun i => if i = k then v' else G1 i) s1.l.length x → S x ∨ w0.heap.size ≤ x) := by
  subst hG
  have hsz : ((W1.alloc o).drew).heap.size = W1.heap.size + 1 := by simp
  have h0 := hf.size
  have hg : ∀ b, b < W1.heap.size → blkOf (G1 k) ≠ some b → w2.heap[b]? = W1.heap[b]? := fun b hb hn =>
    (hgr.block b (by omega) (Ne.symm hn)).trans (Below.heap_alloc W1 o b hb)
  have hv : ∀ b, blkOf v' = some b → blkOf (G1 k) = some b ∨ W1.heap.size ≤ b := by
    intro b hb
    rcases hbv with h | h
    · exact .inl (by rw [← h, hb])
    · rw [hb, hsz] at h
      injection h with h
      exact .inr (by omega)
  have hbl : S bl ∨ w0.heap.size ≤ bl := hS bl (.inr (.inl rfl))
  refine ⟨hp1.setWait hk hw2 (fun b hb hn => hg b (hp1.lt b hb) hn) hv, ?_, ?_⟩
  · refine Fr.setCell ⟨hgr.os.trans hf.os, hgr.tape.trans hf.tape, hgr.output.trans hf.output, ?_, fun b hb hn => ?_⟩ hbl _
    · have := hgr.size
      omega
    · rw [hg b (by omega) ?_]
      · exact hf.block b hb hn
      · intro e
        rcases hS b (.inr (.inr ⟨k, hk, e⟩)) with h | h
        · exact hn h
        · omega
  · rintro x (rfl | rfl | ⟨i, hi, hx⟩)
    · exact hS _ (.inl rfl)
    · exact hS _ (.inr (.inl rfl))
    · dsimp only at hx
      by_cases e : i = k
      · rw [if_pos e] at hx
        rcases hv x hx with h | h
        · exact hS _ (.inr (.inr ⟨k, hk, h⟩))
        · exact .inr (by omega)
      · rw [if_neg e] at hx
        exact hS _ (.inr (.inr ⟨i, hi, hx⟩))

/-- The same as a step of a region. -/
theorem step_wait_append {w : World} {ops : Array Oper} {o : Oper} {a : Act} {K : Act → World → Prop} {Q : Exit → Act → World → Prop} {E : Prop} (hgd : o.guard = none) (sl x : Operand)
    (ho : o.op = .call { callee := .builtin .append, args := #[sl, x], argTypes := #[66, 66] }) (hty : o.type = 66) (v : Value) (rs : List PRun) (r : PRun) (hs : a.eval sl = v) (h : WaitAt w v rs)
    (nb : Nat) (hx : a.eval x = .slice (some ⟨nb, 0, none⟩) 1 1) (hb : Bk w nb 102 (runL r).toArray) (hn : rs.length ≤ 1000000000)
    (hK : ∀ v' w', WaitAt w' v' (rs ++ [r]) → w.grownBy w' (blkOf v) → (blkOf v' = blkOf v ∨ blkOf v' = some w.heap.size) → K (a.put o.dst v') w') :
    if Region.wanted o (yielded ops a.tmps) = true then Oper.wp Try.prog o a w K Q else E := by
  have hw : Region.wanted o (yielded ops a.tmps) = true := by simp [Region.wanted, hgd]
  rw [if_pos hw]
  obtain ⟨v', w', hr, h2, h3, h4⟩ := run_wait_append w v rs r h nb hb hn
  unfold Oper.wp execOp
  simp only [ho, hty, resolve, invoke, builtin, Sem.run_bind, Sem.run_pure, Result.andThen_ok, List.map_toArray, List.map_cons, List.map_nil, hs, hx, hr]
  exact hK v' w' h2 h3 h4
end Go.Proofs.Ytcffjobefgecdaa
