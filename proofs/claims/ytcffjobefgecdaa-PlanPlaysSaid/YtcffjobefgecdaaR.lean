/- How a plan lies in memory. -/
import Derived.Test.YtcffjobefgecdaaS
import Derived.Test.YtcffjobefgecdaaMem
import Derived.Test.YtcffjobefgecdaaRows
namespace Go.Proofs.Ytcffjobefgecdaa
open Go.RowKit

/-- A task's three cells from a place on. -/
def TaskAt (cs : Array Value) (o : Nat) (t : PTask) : Prop := cs[o]? = some (.int .i64 t.ev) ∧ cs[o + 1]? = some (.int .i64 t.lo) ∧ cs[o + 2]? = some (.int .i64 t.rk)
def RunAt (cs : Array Value) (o : Nat) (r : PRun) : Prop := TaskAt cs o r.t ∧ cs[o + 3]? = some (.int .i64 r.first) ∧ cs[o + 4]? = some (.int .i64 r.count)
def LineAt (cs : Array Value) (o : Nat) (wv : Value) (x : PLine) : Prop := TaskAt cs o x.t ∧ cs[o + 3]? = some (.int .i64 x.next) ∧ cs[o + 4]? = some wv ∧ cs[o + 5]? = some (.int .i64 x.left)

/-- The jobs that wait, as a slice value. -/
def WaitAt (w : World) (v : Value) (rs : List PRun) : Prop :=
  (rs = [] ∧ ∃ A, v = .slice A 0 0) ∨
  ∃ g off c ds, v = .slice (some ⟨g, off, none⟩) rs.length c ∧ rs ≠ [] ∧ Bk w g 102 ds ∧ rs.length ≤ c ∧ c ≤ maxLen ∧ off + c * 5 ≤ ds.size ∧ (off = 0 ∧ ds.size = c * 5 ∨ c = rs.length) ∧ ∀ j (hj : j < rs.length), RunAt ds (off + j * 5) rs[j]

/-- The block of a slice that is not empty. -/
def blkOf : Value → Option Nat
  | .slice (some a) (_ + 1) _ => some a.block
  | _ => none

structure PlanAt (w : World) (p bl cap : Nat) (G : Nat → Value) (s : PSt) : Prop where
  hp : Bk w p 64 #[.slice (some ⟨bl, 0, none⟩) s.l.length cap, .int .i64 s.now]
  hb : ∃ cs, Bk w bl 68 cs ∧ s.l.length * 6 ≤ cs.size ∧ ∀ i (hi : i < s.l.length), LineAt cs (i * 6) (G i) s.l[i]
  hw : ∀ i (hi : i < s.l.length), WaitAt w (G i) s.l[i].wait
  ha : ∀ i j, i < s.l.length → j < s.l.length → i ≠ j → blkOf (G i) ≠ none → blkOf (G i) ≠ blkOf (G j)

/-- The blocks that belong to a plan. -/
def own (p bl : Nat) (G : Nat → Value) (n : Nat) (k : Nat) : Prop := k = p ∨ k = bl ∨ ∃ i, i < n ∧ blkOf (G i) = some k

/-- What a call leaves alone. -/
structure Fr (S : Nat → Prop) (w w' : World) : Prop where
  os : w'.os = w.os
  tape : w'.tape = w.tape
  output : w'.output = w.output
  size : w.heap.size ≤ w'.heap.size
  block : ∀ k, k < w.heap.size → ¬ S k → w'.heap[k]? = w.heap[k]?

theorem Fr.refl (S : Nat → Prop) (w : World) : Fr S w w := ⟨rfl, rfl, rfl, Nat.le_refl _, fun _ _ _ => rfl⟩
theorem Fr.trans {S T : Nat → Prop} {a b c : World} (h : Fr S a b) (k : Fr T b c) (hT : ∀ x, T x → S x ∨ a.heap.size ≤ x) : Fr S a c :=
  ⟨k.os.trans h.os, k.tape.trans h.tape, k.output.trans h.output, Nat.le_trans h.size k.size, fun i hi hn =>
    (k.block i (Nat.lt_of_lt_of_le hi h.size) (fun ht => by rcases hT i ht with h1 | h1; exact hn h1; omega)).trans (h.block i hi hn)⟩
theorem Fr.weaken {S T : Nat → Prop} {a b : World} (h : Fr S a b) (hT : ∀ x, S x → T x) : Fr T a b :=
  ⟨h.os, h.tape, h.output, h.size, fun i hi hn => h.block i hi (fun hs => hn (hT i hs))⟩
theorem Fr.of_below {a b : World} (h : Below a.heap.size a b) (S : Nat → Prop) : Fr S a b := ⟨h.os, h.tape, h.output, h.size, fun i hi _ => h.block i hi⟩
theorem Fr.below {S : Nat → Prop} {B : Nat} {a b : World} (h : Fr S a b) (hS : ∀ x, S x → B ≤ x) (hB : B ≤ a.heap.size) : Below B a b :=
  ⟨h.os, h.tape, h.output, h.size, fun k hk => h.block k (by omega) (fun hs => by have := hS k hs; omega)⟩
theorem Fr.bk {S : Nat → Prop} {a b : World} {g : Nat} {t : TypeId} {cs : Array Value} (h : Fr S a b) (hb : Bk a g t cs) (hg : ¬ S g) : Bk b g t cs := (h.block g hb.lt hg).trans hb
theorem Fr.alloc {S : Nat → Prop} {a b : World} (h : Fr S a b) (o : Obj) : Fr S a (b.alloc o) :=
  ⟨h.os, h.tape, h.output, Nat.le_trans h.size (by simp), fun k hk hn => (Below.heap_alloc b o k (by have := h.size; omega)).trans (h.block k hk hn)⟩
theorem Fr.drewN {S : Nat → Prop} {a b : World} (h : Fr S a b) (n : Nat) : Fr S a (b.drewN n) := ⟨h.os, h.tape, h.output, h.size, h.block⟩
theorem Fr.setCell {S : Nat → Prop} {a b : World} (h : Fr S a b) {p : Addr} (hp : S p.block ∨ a.heap.size ≤ p.block) (u : Value) : Fr S a (b.setCell p u) :=
  ⟨h.os, h.tape, h.output, by simpa [World.setCell] using h.size, fun k hk hn => (Below.heap_setCell b p u k (by
    rintro rfl
    rcases hp with hp | hp
    · exact hn hp
    · omega)).trans (h.block k hk hn)⟩

/-- Two worlds that hold the same in a plan's blocks. -/
theorem WaitAt.keep {w w' : World} {v : Value} {rs : List PRun} (h : WaitAt w v rs) (hk : ∀ g, blkOf v = some g → w'.heap[g]? = w.heap[g]?) : WaitAt w' v rs := by
  rcases h with h | ⟨g, off, c, ds, rfl, hne, hb, r⟩
  · exact .inl h
  · refine .inr ⟨g, off, c, ds, rfl, hne, (hk g ?_).trans hb, r⟩
    cases rs with
    | nil => exact absurd rfl hne
    | cons a t => rfl
theorem WaitAt.lt {w : World} {v : Value} {rs : List PRun} (h : WaitAt w v rs) : ∀ g, blkOf v = some g → g < w.heap.size ∧ ∃ ds, Bk w g 102 ds := by
  intro g hg
  rcases h with ⟨rfl, A, rfl⟩ | ⟨g', off, c, ds, rfl, hne, hb, r⟩
  · simp [blkOf] at hg
  · cases rs with
    | nil => exact absurd rfl hne
    | cons a t =>
      simp [blkOf] at hg
      subst hg
      exact ⟨hb.lt, ds, hb⟩
theorem PlanAt.keep {w w' : World} {p bl cap : Nat} {G : Nat → Value} {s : PSt} (h : PlanAt w p bl cap G s) (hk : ∀ g, own p bl G s.l.length g → w'.heap[g]? = w.heap[g]?) : PlanAt w' p bl cap G s := by
  obtain ⟨cs, hb, hs, hl⟩ := h.hb
  exact ⟨(hk p (.inl rfl)).trans h.hp, ⟨cs, (hk bl (.inr (.inl rfl))).trans hb, hs, hl⟩, fun i hi => (h.hw i hi).keep fun g hg => hk g (.inr (.inr ⟨i, hi, hg⟩)), h.ha⟩
theorem PlanAt.lt {w : World} {p bl cap : Nat} {G : Nat → Value} {s : PSt} (h : PlanAt w p bl cap G s) : ∀ g, own p bl G s.l.length g → g < w.heap.size := by
  rintro g (rfl | rfl | ⟨i, hi, hg⟩)
  · exact h.hp.lt
  · obtain ⟨cs, hb, _⟩ := h.hb; exact hb.lt
  · exact ((h.hw i hi).lt g hg).1
theorem PlanAt.fr {S : Nat → Prop} {w w' : World} {p bl cap : Nat} {G : Nat → Value} {s : PSt} (h : PlanAt w p bl cap G s) (hf : Fr S w w') (hd : ∀ g, own p bl G s.l.length g → ¬ S g) : PlanAt w' p bl cap G s :=
  h.keep fun g hg => hf.block g (h.lt g hg) (hd g hg)
theorem PlanAt.alloc {w : World} {p bl cap : Nat} {G : Nat → Value} {s : PSt} (h : PlanAt w p bl cap G s) (o : Obj) : PlanAt (w.alloc o) p bl cap G s :=
  h.keep fun g hg => Below.heap_alloc w o g (h.lt g hg)
theorem PlanAt.drewN {w : World} {p bl cap : Nat} {G : Nat → Value} {s : PSt} (h : PlanAt w p bl cap G s) (n : Nat) : PlanAt (w.drewN n) p bl cap G s := h.keep fun _ _ => rfl
theorem PlanAt.below {w w' : World} {p bl cap : Nat} {G : Nat → Value} {s : PSt} (h : PlanAt w p bl cap G s) (hb : Below w.heap.size w w') : PlanAt w' p bl cap G s :=
  h.keep fun g hg => hb.block g (h.lt g hg)
/-- A store elsewhere. -/
theorem PlanAt.far {w : World} {p bl cap : Nat} {G : Nat → Value} {s : PSt} (h : PlanAt w p bl cap G s) {a : Addr} (ha : ¬ own p bl G s.l.length a.block) (u : Value) : PlanAt (w.setCell a u) p bl cap G s :=
  h.keep fun g hg => Below.heap_setCell w a u g (by rintro rfl; exact ha hg)

/-- The cells of a line, as the walk asks for them. -/
theorem PlanAt.cells {w : World} {p bl cap : Nat} {G : Nat → Value} {s : PSt} (h : PlanAt w p bl cap G s) {i : Nat} (hi : i < s.l.length) :
    w.cell? ⟨bl, i * 6, none⟩ = some (.int .i64 s.l[i].t.ev) ∧ w.cell? ⟨bl, i * 6 + 1, none⟩ = some (.int .i64 s.l[i].t.lo) ∧ w.cell? ⟨bl, i * 6 + 2, none⟩ = some (.int .i64 s.l[i].t.rk) ∧
    w.cell? ⟨bl, i * 6 + 3, none⟩ = some (.int .i64 s.l[i].next) ∧ w.cell? ⟨bl, i * 6 + 4, none⟩ = some (G i) ∧ w.cell? ⟨bl, i * 6 + 5, none⟩ = some (.int .i64 s.l[i].left) := by
  obtain ⟨cs, hb, hs, hl⟩ := h.hb
  obtain ⟨⟨h0, h1, h2⟩, h3, h4, h5⟩ := hl i hi
  exact ⟨(hb.cell _).trans h0, (hb.cell _).trans h1, (hb.cell _).trans h2, (hb.cell _).trans h3, (hb.cell _).trans h4, (hb.cell _).trans h5⟩
theorem PlanAt.frozen {w : World} {p bl cap : Nat} {G : Nat → Value} {s : PSt} (h : PlanAt w p bl cap G s) (o : Nat) : w.frozen? ⟨bl, o, none⟩ = false := by
  obtain ⟨cs, hb, _⟩ := h.hb
  exact hb.frozen o
theorem PlanAt.head {w : World} {p bl cap : Nat} {G : Nat → Value} {s : PSt} (h : PlanAt w p bl cap G s) : w.cell? ⟨p, 0, none⟩ = some (.slice (some ⟨bl, 0, none⟩) s.l.length cap) ∧ w.cell? ⟨p, 1, none⟩ = some (.int .i64 s.now) :=
  ⟨h.hp.cell 0, h.hp.cell 1⟩
/-- The cells of a job that waits. -/
theorem WaitAt.cells {w : World} {v : Value} {rs : List PRun} (h : WaitAt w v rs) (hne : rs ≠ []) : ∃ g off c, v = .slice (some ⟨g, off, none⟩) rs.length c ∧ rs.length ≤ c ∧ blkOf v = some g ∧ (∀ o, w.frozen? ⟨g, o, none⟩ = false) ∧ ∀ j (hj : j < rs.length),
    w.cell? ⟨g, off + j * 5, none⟩ = some (.int .i64 rs[j].t.ev) ∧ w.cell? ⟨g, off + j * 5 + 1, none⟩ = some (.int .i64 rs[j].t.lo) ∧ w.cell? ⟨g, off + j * 5 + 2, none⟩ = some (.int .i64 rs[j].t.rk) ∧
    w.cell? ⟨g, off + j * 5 + 3, none⟩ = some (.int .i64 rs[j].first) ∧ w.cell? ⟨g, off + j * 5 + 4, none⟩ = some (.int .i64 rs[j].count) := by
  rcases h with ⟨rfl, _⟩ | ⟨g, off, c, ds, rfl, _, hb, hc, _, hs, ho, hr⟩
  · exact absurd rfl hne
  · refine ⟨g, off, c, rfl, hc, ?_, fun o => hb.frozen o, fun j hj => ?_⟩
    · cases rs with
      | nil => exact absurd rfl hne
      | cons a t => rfl
    · obtain ⟨⟨h0, h1, h2⟩, h3, h4⟩ := hr j hj
      exact ⟨(hb.cell _).trans h0, (hb.cell _).trans h1, (hb.cell _).trans h2, (hb.cell _).trans h3, (hb.cell _).trans h4⟩
theorem WaitAt.len {w : World} {v : Value} {rs : List PRun} (h : WaitAt w v rs) : ∃ A c, v = .slice A rs.length c := by
  rcases h with ⟨rfl, A, rfl⟩ | ⟨g, off, c, ds, rfl, _⟩
  · exact ⟨A, 0, rfl⟩
  · exact ⟨_, _, rfl⟩
end Go.Proofs.Ytcffjobefgecdaa
