/- The document's own plan, made line by line: New and twin. -/
import Derived.Test.YtcffjobefgecdaaRi
import Derived.Test.YtcffjobefgecdaaRg
import Derived.Maps.AppendAt
namespace Go.Proofs.Ytcffjobefgecdaa.Ref
open Go.RowKit

theorem info74 : (Try.prog.info? 74).map (fun i => (i.zero, i.size, i.bytes)) = some (some (.agg #[.int .i64 0, .int .i64 0, .int .i64 0, .int .i64 0, .slice none 0 0, .int .i64 0]), 6, 64) := by kernel_rfl
abbrev lineL (x : PLine) (v : Value) : List Value := [.int .i64 x.t.ev, .int .i64 x.t.lo, .int .i64 x.t.rk, .int .i64 x.next, v, .int .i64 x.left]
/-- The first k lines, as cells. -/
def rowsL (l : List PLine) (G : Nat → Value) : Nat → List Value
  | 0 => []
  | k + 1 => match l[k]? with
    | some x => rowsL l G k ++ lineL x (G k)
    | none => rowsL l G k
theorem rowsL_succ {l : List PLine} {G : Nat → Value} {k : Nat} (hk : k < l.length) : rowsL l G (k + 1) = rowsL l G k ++ lineL l[k] (G k) := by
  rw [rowsL, List.getElem?_eq_getElem hk]
theorem rowsL_len {l : List PLine} {G : Nat → Value} : ∀ {k : Nat}, k ≤ l.length → (rowsL l G k).length = k * 6 := by
  intro k
  induction k with
  | zero => intro _; rfl
  | succ k ih =>
    intro hk
    rw [rowsL_succ (by omega), List.length_append, ih (by omega)]
    simp
    omega
theorem rowsL_at {l : List PLine} {G : Nat → Value} : ∀ {k i : Nat}, k ≤ l.length → ∀ (_hi : i < k) (hl : i < l.length) (f : Nat), f < 6 → (rowsL l G k)[i * 6 + f]? = (lineL l[i] (G i))[f]? := by
  intro k
  induction k with
  | zero => intro i _ hi; omega
  | succ k ih =>
    intro i hk hi hl f hf
    rw [rowsL_succ (by omega)]
    by_cases hik : i = k
    · subst hik
      rw [List.getElem?_append_right (by rw [rowsL_len (by omega)]; omega), rowsL_len (by omega), show i * 6 + f - i * 6 = f by omega]
    · rw [List.getElem?_append_left (by rw [rowsL_len (by omega)]; omega)]
      exact ih (by omega) (by omega) hl f hf
theorem rowsL_congr {l : List PLine} {G G' : Nat → Value} : ∀ {k : Nat}, (∀ i, i < k → G i = G' i) → rowsL l G k = rowsL l G' k := by
  intro k
  induction k with
  | zero => intro _; rfl
  | succ k ih =>
    intro h
    rw [rowsL, rowsL, ih fun i hi => h i (by omega), h k (by omega)]
/-- A row of all lines is a plan's. -/
theorem plan_of_row {w : World} {base q n : Nat} {v : Value} {G : Nat → Value} {s : PSt} (hn : s.l.length = n) (hpos : 0 < n) (hq : Bk w q 71 #[v, .int .i64 s.now]) (ho : w.ownsRow base 74 6 v n (rowsL s.l G n)) (hw : ∀ i (hi : i < s.l.length), WaitAt w (G i) s.l[i].wait)
    (ha : ∀ i j, i < s.l.length → j < s.l.length → i ≠ j → blkOf (G i) ≠ none → blkOf (G i) ≠ blkOf (G j)) : ∃ bl cap, base ≤ bl ∧ PlanAt w q bl cap G s := by
  subst hn
  rcases ho.2 with ⟨_, h⟩ | ⟨g, cap, cur, rfl, hb, hh, h1, h2, h3, h4⟩
  · omega
  · refine ⟨g, cap, hb, ⟨hq, ⟨cur, hh, by omega, fun i hi => ?_⟩, hw, ha⟩⟩
    have at_ : ∀ f u, f < 6 → (lineL s.l[i] (G i))[f]? = some u → cur[i * 6 + f]? = some u := by
      intro f u hf hu
      have h5 := rowsL_at (l := s.l) (G := G) (Nat.le_refl _) hi hi f hf
      rw [← h4, List.getElem?_take, if_pos (by omega), hu] at h5
      simpa using h5
    exact ⟨⟨at_ 0 _ (by omega) rfl, at_ 1 _ (by omega) rfl, at_ 2 _ (by omega) rfl⟩, at_ 3 _ (by omega) rfl, at_ 4 _ (by omega) rfl, at_ 5 _ (by omega) rfl⟩

/-- A line appended, as a step of a region. -/
theorem step_line_append {w : World} {ops : Array Oper} {o : Oper} {a : Act} {K : Act → World → Prop} {Q : Exit → Act → World → Prop} {E : Prop} (hgd : o.guard = none) (sl x : Operand)
    (ho : o.op = .call { callee := .builtin .append, args := #[sl, x], argTypes := #[69, 69] }) (hty : o.type = 69) (base n : Nat) (v : Value) (xs : List Value) (hs : a.eval sl = v) (h : w.ownsRow base 74 6 v n xs) (hbase : base ≤ w.heap.size)
    (nb : Nat) (y : PLine) (g : Value) (hx : a.eval x = .slice (some ⟨nb, 0, none⟩) 1 1) (hb : Bk w nb 74 (lineL y g).toArray) (hg : g.oneCell' = true) (hn : n ≤ 1000000)
    (hK : ∀ v' w', w'.ownsRow base 74 6 v' (n + 1) (xs ++ lineL y g) → w.grownBy w' v.ownBlock → (v'.ownBlock = v.ownBlock ∨ v'.ownBlock = some w.heap.size) → K (a.put o.dst v') w') :
    if Region.wanted o (yielded ops a.tmps) = true then Oper.wp Try.prog o a w K Q else E := by
  have hw : Region.wanted o (yielded ops a.tmps) = true := by simp [Region.wanted, hgd]
  rw [if_pos hw]
  obtain ⟨i, hi, hz, hsz, hby⟩ := info_parts info74
  have hnews : ∀ j u, (lineL y g)[j]? = some u → w.cell? ((⟨nb, 0, none⟩ : Addr).add j) = some u := fun j u hu => by
    rw [Addr.add_lit, Nat.zero_add, hb.cell]
    simpa using hu
  obtain ⟨v', w', hr, h2, h3, _, h5⟩ := run_append_own_at (P := Try.prog) w base 69 69 74 i _ 6 64 Try.underlying69 hi hz hsz hby rfl (by decide) v n xs h ⟨nb, 0, none⟩ 1 1 (lineL y g) rfl hnews (by
    intro u hu
    simp at hu
    rcases hu with rfl | rfl | rfl | rfl | rfl | rfl <;> first | rfl | exact hg) (by simp only [maxLen]; omega) (by omega) hbase
  unfold Oper.wp execOp
  simp only [ho, hty, resolve, invoke, builtin, Sem.run_bind, Sem.run_pure, Result.andThen_ok, List.map_toArray, List.map_cons, List.map_nil, hs, hx, hr]
  exact hK v' w' h2 h3 h5
end Go.Proofs.Ytcffjobefgecdaa.Ref
