/- Jobs that wait, copied onto an empty slice of the call's own. -/
import Derived.Test.YtcffjobefgecdaaRf
namespace Go.Proofs.Ytcffjobefgecdaa.Ref
open Go.RowKit

theorem runsL_one (rs : List PRun) : ∀ u ∈ runsL rs, u.oneCell' = true := by
  intro u hu
  simp only [runsL, List.mem_flatMap] at hu
  obtain ⟨r, _, hu⟩ := hu
  simp at hu
  rcases hu with rfl | rfl | rfl | rfl | rfl <;> rfl
/-- A slice that reads as jobs that wait. -/
def Src (w : World) (v : Value) (rs : List PRun) : Prop := (rs = [] ∧ v = .slice none 0 0) ∨ ∃ ad c, v = .slice (some ad) rs.length c ∧ ∀ j u, (runsL rs)[j]? = some u → w.cell? (ad.add j) = some u
theorem WaitAt.src {w : World} {v : Value} {rs : List PRun} (h : WaitAt w v rs) : Src w v rs := by
  rcases h with ⟨rfl, A, rfl⟩ | ⟨g, off, c, ds, rfl, hne, hd, hc, hm, hs, ho, hr⟩
  · cases A with
    | none => exact .inl ⟨rfl, rfl⟩
    | some a => exact .inr ⟨a, 0, rfl, fun j u hu => by simp [runsL] at hu⟩
  · exact .inr ⟨_, _, rfl, fun j u hu => by rw [Addr.add_lit, hd.cell]; exact runs_cells hr j u hu⟩
set_option maxRecDepth 100000 in
theorem run_fresh (w : World) (v : Value) (rs : List PRun) (nb : Nat) (hd : Bk w nb 108 #[]) (h : Src w v rs) (hn : rs.length ≤ 1000000000) :
    ∃ v' w', (Builtin.append_ #[72, 72] 72 #[.slice (some ⟨nb, 0, none⟩) 0 0, v]).run Try.prog w = .ok v' w' ∧ WaitAt w' v' rs ∧ w.grownBy w' (some nb) ∧ ∀ b, blkOf v' = some b → b = w.heap.size := by
  obtain ⟨i, hi, hz, hsz, hby⟩ := info_parts info108
  have hzs : (Value.agg #[.int .i64 0, .int .i64 0, .int .i64 0, .int .i64 0, .int .i64 0]).cells.size = 5 := rfl
  have hown : w.ownsRow nb 108 5 (.slice (some ⟨nb, 0, none⟩) 0 0) 0 [] := ⟨by simp, .inr ⟨nb, 0, #[], rfl, Nat.le_refl _, hd, Nat.le_refl _, Nat.zero_le _, by simp, by simp⟩⟩
  rcases h with ⟨rfl, rfl⟩ | ⟨ad, c, rfl, hc⟩
  · have := run_append_owned_none (P := Try.prog) w nb 72 72 108 i 5 Try.underlying72 hi _ 0 [] hown
    exact ⟨_, _, this, .inl ⟨rfl, _, rfl⟩, World.grownBy.refl _ _, fun b hb => by simp [blkOf] at hb⟩
  · cases rs with
    | nil =>
      have hrun := run_append_room (P := Try.prog) w 72 72 108 i Try.underlying72 hi nb 0 0 #[] hd ad 0 c [] (by simp) (by simp) (by simp) (by omega) (by simp)
      refine ⟨_, _, hrun, .inl ⟨rfl, _, rfl⟩, ⟨rfl, rfl, rfl, by simp, fun k _ hk => setRow_other w nb k _ (fun e => hk (by rw [e]))⟩, fun b hb => by simp [blkOf] at hb⟩
    | cons r rs =>
      have hl1 : 0 < 0 + (r :: rs).length := by simp
      have hfit : Builtin.nextslicecap (0 + (r :: rs).length) 0 * i.bytes ≤ 281474976710656 := growslice_fits hl1 (by rw [hby]; omega)
      have hrun := run_append_grow (P := Try.prog) w 72 72 108 i _ Try.underlying72 hi hz ⟨nb, 0, none⟩ 0 0 [] (by simp) (by simp) ad (r :: rs).length c (runsL (r :: rs)) (by rw [hsz]; exact runsL_len _) hc (by simp) (by omega) hfit
      refine ⟨_, _, hrun, ?_, ⟨rfl, rfl, rfl, by simp, fun k hk _ => Below.heap_alloc w.drew _ k hk⟩, fun b hb => ?_⟩
      · have hcap := grownCap_ge w (0 + (r :: rs).length) 0 108
        have := waitAt_new (rs := r :: rs) (g := w.heap.size) (c := grownCap w (0 + (r :: rs).length) 0 108) (by simp) (heap_alloc_new w.drew (.cells (([] : List Value).toArray ++ (runsL (r :: rs)).toArray ++ Builtin.zeroCells (Value.agg #[.int .i64 0, .int .i64 0, .int .i64 0, .int .i64 0, .int .i64 0]).cells (grownCap w (0 + (r :: rs).length) 0 108 - (0 + (r :: rs).length))) 108)) (by omega) (grownCap_le_maxLen w _ 0 108 (by simp only [maxLen]; omega)) ?_ ?_
        · simpa using this
        · simp only [Array.size_append, List.size_toArray, size_zeroCells, hzs, runsL_len]
          simp at hcap ⊢
          omega
        · intro j u hu
          have hj := (List.getElem?_eq_some_iff.1 hu).1
          simp only [Array.empty_append]
          rw [Array.getElem?_append_left (by simpa using hj)]
          simpa using hu
      · rw [blkOf_len (by simp)] at hb
        injection hb with hb
        exact hb.symm
set_option maxRecDepth 100000 in
theorem wpList_fresh (w : World) {ops : Array Oper} {rest : List Oper} {o : Oper} {a : Act} {Q : Exit → Act → World → Prop} (hgd : o.guard = none) (s x : Operand) (ho : o.op = .call { callee := .builtin .append, args := #[s, x], argTypes := #[72, 72] }) (hty : o.type = 72)
    (v : Value) (rs : List PRun) (nb : Nat) (hs : a.eval s = .slice (some ⟨nb, 0, none⟩) 0 0) (hx : a.eval x = v) (hd : Bk w nb 108 #[]) (h : Src w v rs) (hn : rs.length ≤ 1000000000)
    (hK : ∀ v' w', WaitAt w' v' rs → w.grownBy w' (some nb) → (∀ b, blkOf v' = some b → b = w.heap.size) → wpList Try.prog ops Q rest (a.put o.dst v') w') : wpList Try.prog ops Q (o :: rest) a w := by
  refine wpList_plain hgd fun K hK' => ?_
  obtain ⟨v', w', hr, h2, h3, h4⟩ := run_fresh w v rs nb hd h hn
  unfold Oper.wp execOp
  simp only [ho, hty, resolve, invoke, builtin, Sem.run_bind, Sem.run_pure, Result.andThen_ok, List.map_toArray, List.map_cons, List.map_nil, hs, hx, hr]
  exact hK' _ _ (hK v' w' h2 h3 h4)
end Go.Proofs.Ytcffjobefgecdaa.Ref
