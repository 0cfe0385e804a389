/- Words for the frames: tasks and whole numbers that came in as slices. -/
import Derived.Test.YtcffjobefgecdaaInT
import Derived.Deep.Slices
import Derived.ProofKit
import Derived.OpenShut
namespace Go.Proofs.Ytcffjobefgecdaa
open Go.ChangeShapes Go.WideShapes Go.RowKit Go.Deep

section
variable {H : Type} {enc : TypeId × Value → H} {w : World} {base : Nat} {spare : Nat → Bool} {held : Bool}
theorem cells26 : Try.prog.cellsOf 26 = 3 := by kernel_rfl
theorem cells2 : Try.prog.cellsOf 2 = 1 := by kernel_rfl
theorem cells3 : Try.prog.cellsOf 3 = 1 := by kernel_rfl
theorem wf_bd {k : IntKind} {n : Int} (h : (Lit.int k n).wf = true) : k.min ≤ n ∧ n ≤ k.max := by
  simpa [Lit.wf] using h
theorem wf_i64 {n : Int} (h : (Lit.int .i64 n).wf = true) : -9223372036854775808 ≤ n ∧ n ≤ 9223372036854775807 := by
  have h1 := wf_bd h
  have e1 : IntKind.i64.min = -9223372036854775808 := by decide +kernel
  have e2 : IntKind.i64.max = 9223372036854775807 := by decide +kernel
  omega
theorem wf_i16 {n : Int} (h : (Lit.int .i16 n).wf = true) : -32768 ≤ n ∧ n ≤ 32767 := by
  have h1 := wf_bd h
  have e1 : IntKind.i16.min = -32768 := by decide +kernel
  have e2 : IntKind.i16.max = 32767 := by decide +kernel
  omega
theorem wf_u16 {n : Int} (h : (Lit.int .u16 n).wf = true) : 0 ≤ n ∧ n ≤ 65535 := by
  have h1 := wf_bd h
  have e1 : IntKind.u16.min = 0 := by decide +kernel
  have e2 : IntKind.u16.max = 65535 := by decide +kernel
  omega
theorem wf_u8 {n : Int} (h : (Lit.int .u8 n).wf = true) : 0 ≤ n ∧ n ≤ 255 := by
  have h1 := wf_bd h
  have e1 : IntKind.u8.min = 0 := by decide +kernel
  have e2 : IntKind.u8.max = 255 := by decide +kernel
  omega
instance : Inhabited PTask := ⟨⟨0, 0, 0⟩⟩
set_option maxRecDepth 100000 in
/-- A task, as it reads. -/
theorem trod_task {fuel : Nat} {cs : List Value} {x : DataW H × List MemPlace} (h : DataW.trod enc Try.prog w base spare held fuel 26 cs = some x) : ∃ t : PTask, cs = taskL t ∧ TB t := by
  obtain ⟨xs, n, _, _, hl, hlen, hf⟩ := DataW.trod_struct Try.underlying26 h
  rw [cells26] at hl
  match cs, hl with
  | [c0, c1, c2], _ =>
    have f0 : DataW.trod enc Try.prog w base spare held n 2 (([c0, c1, c2].drop 0).take (Try.prog.cellsOf 2)) = xs[0]? := hf 0 _ rfl
    have f1 : DataW.trod enc Try.prog w base spare held n 2 (([c0, c1, c2].drop 1).take (Try.prog.cellsOf 2)) = xs[1]? := hf 1 _ rfl
    have f2 : DataW.trod enc Try.prog w base spare held n 3 (([c0, c1, c2].drop 2).take (Try.prog.cellsOf 3)) = xs[2]? := hf 2 _ rfl
    rw [cells2] at f0 f1
    rw [cells3] at f2
    match xs, hlen with
    | [y0, y1, y2], _ =>
      obtain ⟨a, ha, _, wa⟩ := DataW.trod_int Try.underlying2 f0
      obtain ⟨b, hb, _, wb⟩ := DataW.trod_int Try.underlying2 f1
      obtain ⟨c, hc, _, wc⟩ := DataW.trod_int Try.underlying3 f2
      simp at ha hb hc
      refine ⟨⟨a, b, c⟩, by rw [ha, hb, hc], ?_⟩
      have := wf_i64 wa
      have := wf_i64 wb
      have := wf_i64 wc
      simp only [TB]
      omega
/-- Tasks that came in. -/
theorem open_tasks {fuel : Nat} {A : Option Addr} {n c : Nat} {x : DataW H × List MemPlace} (h : DataW.trod enc Try.prog w base spare held fuel 22 [.slice A n c] = some x) :
    ∃ l : List PTask, Rd w w.heap.size 3 A n (tasksL l) ∧ (∀ t ∈ l, TB t) ∧ n ≤ maxLen := by
  rcases open_slice Try.underlying22 h with ⟨hcs, _⟩ | ⟨a, len, cap, m, n', D, Pl, hcs, hb, hl, hm, hmm, _, hx⟩
  · simp at hcs
    obtain ⟨rfl, rfl, rfl⟩ := hcs
    exact ⟨[], Rd.zero, by simp, Nat.zero_le _⟩
  · simp at hcs
    obtain ⟨rfl, rfl, rfl⟩ := hcs
    rw [cells26] at hx
    have hnm : n ≤ m := by rw [hmm]; split <;> omega
    obtain ⟨T, hT⟩ := choose_lt (α := PTask) (n := n) (p := fun i t => w.cells? base (a.add (i * 3)) 3 = some (taskL t) ∧ TB t) (fun i hi => by
      obtain ⟨cs', h1, h2⟩ := hx i (by omega)
      obtain ⟨t, rfl, ht⟩ := trod_task h2
      exact ⟨t, h1, ht⟩)
    have hcell : ∀ i, i < n → ∀ k, k < 3 → w.cell? (a.add (i * 3 + k)) = (taskL (T i))[k]? := fun i hi k hk => by
      obtain ⟨_, _, hat⟩ := World.cells?_some (hT i hi).1
      have := hat k hk
      rwa [add_add] at this
    refine ⟨(List.range n).map T, ⟨by rw [tasksL_len]; simp, fun hn => ?_⟩, ?_, by omega⟩
    · have h0 := hcell 0 hn 0 (by omega)
      obtain ⟨b, off, sp⟩ := a
      have hsp : sp = none := by
        cases sp with
        | none => rfl
        | some s => simp [World.cell?, Addr.add] at h0; split at h0 <;> simp_all
      subst hsp
      refine ⟨b, off, rfl, ?_, fun j u hu => ?_⟩
      · have := World.block_lt_of_cell? w _ h0
        simpa [Addr.add_lit] using this
      · have hj : j < n * 3 := by have := (List.getElem?_eq_some_iff.1 hu).1; rw [tasksL_len] at this; simpa using this
        have hq : j / 3 < n := by omega
        have h1 := hcell (j / 3) hq (j % 3) (by omega)
        rw [Addr.add_lit, show j / 3 * 3 + j % 3 = j by omega] at h1
        rw [h1]
        have h2 := tasksL_at ((List.range n).map T) (j / 3) (by simpa using hq) (j % 3) (by omega)
        rw [show j / 3 * 3 + j % 3 = j by omega, hu] at h2
        rw [h2]
        simp
    · intro t ht
      obtain ⟨i, hi, rfl⟩ := List.mem_map.1 ht
      exact (hT i (List.mem_range.1 hi)).2

/-- Whole numbers that came in, each within its kind. -/
theorem open_nums {k : IntKind} {t e : TypeId} (hs : Try.prog.underlying t = some (.slice e)) (he : Try.prog.underlying e = some (.int k)) (hc : Try.prog.cellsOf e = 1) {fuel : Nat} {A : Option Addr} {n c : Nat} {x : DataW H × List MemPlace}
    (h : DataW.trod enc Try.prog w base spare held fuel t [.slice A n c] = some x) :
    ∃ l : List Int, Rd w w.heap.size 1 A n (ints k l) ∧ (∀ t ∈ l, (Lit.int k t).wf = true) ∧ n ≤ maxLen := by
  rcases open_slice hs h with ⟨hcs, _⟩ | ⟨a, len, cap, m, n', D, Pl, hcs, hb, hl, hm, hmm, _, hx⟩
  · simp at hcs
    obtain ⟨rfl, rfl, rfl⟩ := hcs
    exact ⟨[], Rd.zero, by simp, Nat.zero_le _⟩
  · simp at hcs
    obtain ⟨rfl, rfl, rfl⟩ := hcs
    rw [hc] at hx
    have hnm : n ≤ m := by rw [hmm]; split <;> omega
    obtain ⟨T, hT⟩ := choose_lt (α := Int) (n := n) (p := fun i z => w.cell? (a.add i) = some (.int k z) ∧ (Lit.int k z).wf = true) (fun i hi => by
      obtain ⟨cs', h1, h2⟩ := hx i (by omega)
      obtain ⟨z, rfl, _, hz⟩ := DataW.trod_int he h2
      obtain ⟨_, _, hat⟩ := World.cells?_some h1
      have := hat 0 (by omega)
      rw [Nat.mul_one] at this
      refine ⟨z, ?_, hz⟩
      rw [add_add] at this
      simpa using this)
    refine ⟨(List.range n).map T, ⟨by simp, fun hn => ?_⟩, ?_, by omega⟩
    · have h0 := (hT 0 hn).1
      obtain ⟨b, off, sp⟩ := a
      have hsp : sp = none := by
        cases sp with
        | none => rfl
        | some s => simp [World.cell?, Addr.add] at h0; split at h0 <;> simp_all
      subst hsp
      refine ⟨b, off, rfl, ?_, fun j u hu => ?_⟩
      · have := World.block_lt_of_cell? w _ h0
        simpa [Addr.add_lit] using this
      · have hj : j < n := by have := (List.getElem?_eq_some_iff.1 hu).1; simpa using this
        have h1 := (hT j hj).1
        rw [Addr.add_lit] at h1
        rw [h1, ← hu]
        simp [hj]
    · intro t ht
      obtain ⟨i, hi, rfl⟩ := List.mem_map.1 ht
      exact (hT i (List.mem_range.1 hi)).2
end
end Go.Proofs.Ytcffjobefgecdaa
