/- Words for PlanPlays' frame: steps that came in as a slice; what the form's reach pays. -/
import Derived.Test.YtcffjobefgecdaaFm
import Derived.Test.YtcffjobefgecdaaRz
import Derived.SizedLaws
namespace Go.Proofs.Ytcffjobefgecdaa.Ref
open Go.ChangeShapes Go.WideShapes Go.RowKit Go.Deep

section
variable {H : Type} {enc : TypeId × Value → H} {w : World} {base : Nat} {spare : Nat → Bool} {held : Bool}
theorem cells36 : Try.prog.cellsOf 36 = 6 := by kernel_rfl
theorem bytes26 : Try.prog.bytesOf 26 = 24 := by kernel_rfl
theorem slice_reach {t e : TypeId} (hs : Try.prog.underlying t = some (.slice e)) {fuel : Nat} {A : Option Addr} {n c : Nat} {d : DataW H} {p : List MemPlace} (h : DataW.trod enc Try.prog w base spare held fuel t [.slice A n c] = some (d, p))
    {ts : List TypeId} {ds : List (DataW H)} (hz : (DataW.weightsEach Try.prog ts ds).all (· ≤ reachBytes) = true) {j : Nat} (ht : ts[j]? = some t) (hd : ds[j]? = some d) : (A = none → c = 0) ∧ n * Try.prog.bytesOf e ≤ reachBytes := by
  rcases open_slice hs h with ⟨hcs, _⟩ | ⟨a, len, cap, m, n', D, Pl, hcs, hb, hl, hm, hmm, hx, _⟩
  · simp at hcs
    obtain ⟨rfl, rfl, rfl⟩ := hcs
    exact ⟨fun _ => rfl, by simp⟩
  · simp at hcs
    obtain ⟨rfl, rfl, rfl⟩ := hcs
    injection hx with hx _
    subst hx
    have := sized_slice hz ht hd hs
    simp only [List.length_map, List.length_range] at this
    refine ⟨fun e => (by cases e), Nat.le_trans (Nat.mul_le_mul_right _ (Nat.le_add_right _ _)) this⟩
instance : Inhabited PStep := ⟨⟨0, 0, 0, ⟨0, 0, 0⟩⟩⟩
set_option maxRecDepth 100000 in
theorem trod_step {fuel : Nat} {cs : List Value} {x : DataW H × List MemPlace} (h : DataW.trod enc Try.prog w base spare held fuel 36 cs = some x) : ∃ t : PStep, cs = stepL t ∧ -9223372036854775808 ≤ t.k ∧ t.k ≤ 9223372036854775807 := by
  obtain ⟨xs, n, _, _, hl, hlen, hf⟩ := DataW.trod_struct Try.underlying36 h
  rw [cells36] at hl
  match cs, hl with
  | [c0, c1, c2, c3, c4, c5], _ =>
    have f0 : DataW.trod enc Try.prog w base spare held n 3 (([c0, c1, c2, c3, c4, c5].drop 0).take (Try.prog.cellsOf 3)) = xs[0]? := hf 0 _ rfl
    have f1 : DataW.trod enc Try.prog w base spare held n 2 (([c0, c1, c2, c3, c4, c5].drop 1).take (Try.prog.cellsOf 2)) = xs[1]? := hf 1 _ rfl
    have f2 : DataW.trod enc Try.prog w base spare held n 3 (([c0, c1, c2, c3, c4, c5].drop 2).take (Try.prog.cellsOf 3)) = xs[2]? := hf 2 _ rfl
    have f3 : DataW.trod enc Try.prog w base spare held n 26 (([c0, c1, c2, c3, c4, c5].drop 3).take (Try.prog.cellsOf 26)) = xs[3]? := hf 3 _ rfl
    rw [cells3] at f0 f2
    rw [cells2] at f1
    rw [cells26] at f3
    match xs, hlen with
    | [y0, y1, y2, y3], _ =>
      obtain ⟨a, ha, _, wa⟩ := DataW.trod_int Try.underlying3 f0
      obtain ⟨b, hb, _, wb⟩ := DataW.trod_int Try.underlying2 f1
      obtain ⟨c, hc, _, wc⟩ := DataW.trod_int Try.underlying3 f2
      obtain ⟨t, ht, _⟩ := trod_task f3
      simp at ha hb hc ht
      obtain ⟨t0, t1, t2⟩ := ht
      have := wf_i64 wc
      exact ⟨⟨a, b, c, t⟩, by rw [ha, hb, hc, t0, t1, t2], this⟩
theorem open_steps {fuel : Nat} {A : Option Addr} {n c : Nat} {x : DataW H × List MemPlace} (h : DataW.trod enc Try.prog w base spare held fuel 23 [.slice A n c] = some x) :
    ∃ l : List PStep, Rd w w.heap.size 6 A n (stepsL l) ∧ ∀ t ∈ l, -9223372036854775808 ≤ t.k ∧ t.k ≤ 9223372036854775807 := by
  rcases open_slice Try.underlying23 h with ⟨hcs, _⟩ | ⟨a, len, cap, m, n', D, Pl, hcs, hb, hl, hm, hmm, _, hx⟩
  · simp at hcs
    obtain ⟨rfl, rfl, rfl⟩ := hcs
    exact ⟨[], Rd.zero, by simp⟩
  · simp at hcs
    obtain ⟨rfl, rfl, rfl⟩ := hcs
    rw [cells36] at hx
    have hnm : n ≤ m := by rw [hmm]; split <;> omega
    obtain ⟨T, hT⟩ := choose_lt (α := PStep) (n := n) (p := fun i t => w.cells? base (a.add (i * 6)) 6 = some (stepL t) ∧ -9223372036854775808 ≤ t.k ∧ t.k ≤ 9223372036854775807) (fun i hi => by
      obtain ⟨cs', h1, h2⟩ := hx i (by omega)
      obtain ⟨t, rfl, ht⟩ := trod_step h2
      exact ⟨t, h1, ht⟩)
    have hcell : ∀ i, i < n → ∀ k, k < 6 → w.cell? (a.add (i * 6 + k)) = (stepL (T i))[k]? := fun i hi k hk => by
      obtain ⟨_, _, hat⟩ := World.cells?_some (hT i hi).1
      have := hat k hk
      rwa [add_add] at this
    refine ⟨(List.range n).map T, ⟨by rw [stepsL_len]; simp, fun hn => ?_⟩, ?_⟩
    · have h0 := hcell 0 hn 0 (by omega)
      obtain ⟨b, off, sp⟩ := a
      have hsp : sp = none := by
        cases sp with
        | none => rfl
        | some s => simp [World.cell?, Addr.add] at h0; split at h0 <;> simp_all
      subst hsp
      refine ⟨b, off, rfl, ?_, fun j u hu => ?_⟩
      · have := World.block_lt_of_cell? w _ h0
        simpa [Addr.add_lit] using this
      · have hj : j < n * 6 := by have := (List.getElem?_eq_some_iff.1 hu).1; rw [stepsL_len] at this; simpa using this
        have hq : j / 6 < n := by omega
        have h1 := hcell (j / 6) hq (j % 6) (by omega)
        rw [Addr.add_lit, show j / 6 * 6 + j % 6 = j by omega] at h1
        rw [h1]
        have h2 := stepsL_at ((List.range n).map T) (j / 6) (by simpa using hq) (j % 6) (by omega)
        rw [show j / 6 * 6 + j % 6 = j by omega, hu] at h2
        rw [h2]
        simp
    · intro t ht
      obtain ⟨i, hi, rfl⟩ := List.mem_map.1 ht
      exact (hT i (List.mem_range.1 hi)).2
end
end Go.Proofs.Ytcffjobefgecdaa.Ref
