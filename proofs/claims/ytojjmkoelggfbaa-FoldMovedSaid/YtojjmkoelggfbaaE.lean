/- Walks: the greatest common divisor's steps. -/
import Derived.Test.YtojjmkoelggfbaaD
import Derived.Deep.LoopGhost
import Derived.Deep.DeepMust
import Derived.BigRegion
namespace Go.Proofs.Ytojjmkoelggfbaa
open Go.RowKit

/-- Two rows of three. -/
structure Rows2 where
  (a b c d e f : Int)
def Rows2.next (s : Rows2) : Rows2 := { a := s.d, b := s.e, c := s.f, d := s.a - s.a.tdiv s.d * s.d, e := s.b - s.a.tdiv s.d * s.e, f := s.c - s.a.tdiv s.d * s.f }
def rowsAt (a b : Int) : Nat → Rows2
  | 0 => { a := a, b := 1, c := 0, d := b, e := 0, f := 1 }
  | k + 1 => (rowsAt a b k).next
def smallI (x : Int) : Bool := decide (-1000 ≤ x) && decide (x ≤ 1000)
/-- K steps come to the end, and all numbers on the way are small. -/
def eucOk (a b : Int) (K : Nat) : Bool := (List.range (K + 1)).all (fun k => smallI (rowsAt a b k).a && smallI (rowsAt a b k).b && smallI (rowsAt a b k).c && smallI (rowsAt a b k).d && smallI (rowsAt a b k).e && smallI (rowsAt a b k).f && smallI ((rowsAt a b k).a.tdiv (rowsAt a b k).d) && (decide (k < K) == ((rowsAt a b k).d != 0)))

structure SmallRows (s : Rows2) : Prop where
  a : -1000 ≤ s.a ∧ s.a ≤ 1000
  b : -1000 ≤ s.b ∧ s.b ≤ 1000
  c : -1000 ≤ s.c ∧ s.c ≤ 1000
  d : -1000 ≤ s.d ∧ s.d ≤ 1000
  e : -1000 ≤ s.e ∧ s.e ≤ 1000
  f : -1000 ≤ s.f ∧ s.f ≤ 1000
  q : -1000 ≤ s.a.tdiv s.d ∧ s.a.tdiv s.d ≤ 1000
theorem eucOk_at {a b : Int} {K : Nat} (h : eucOk a b K = true) (k : Nat) (hk : k ≤ K) : SmallRows (rowsAt a b k) ∧ (k < K ↔ (rowsAt a b k).d ≠ 0) := by
  have h1 := List.all_eq_true.1 h k (List.mem_range.2 (by omega))
  simp only [smallI, Bool.and_eq_true, decide_eq_true_eq, beq_iff_eq] at h1
  obtain ⟨⟨⟨⟨⟨⟨⟨h1, h2⟩, h3⟩, h4⟩, h5⟩, h6⟩, h7⟩, h8⟩ := h1
  refine ⟨⟨h1, h2, h3, h4, h5, h6, h7⟩, ?_⟩
  by_cases hk : k < K
  · simp [hk] at h8; simp [hk, h8]
  · simp [hk] at h8; simp [hk, h8]

theorem six {w : World} {g1 g2 : Nat} {t : TypeId} {a b c d e f : Value} (x1 x2 x3 y1 y2 y3 : Value) (h1 : Bk w g1 t #[a, b, c]) (h2 : Bk w g2 t #[d, e, f]) (hne : g1 ≠ g2) :
    Bk ((((((w.setCell ⟨g1, 0, none⟩ x1).setCell ⟨g1, 1, none⟩ x2).setCell ⟨g1, 2, none⟩ x3).setCell ⟨g2, 0, none⟩ y1).setCell ⟨g2, 1, none⟩ y2).setCell ⟨g2, 2, none⟩ y3) g1 t #[x1, x2, x3] ∧
    Bk ((((((w.setCell ⟨g1, 0, none⟩ x1).setCell ⟨g1, 1, none⟩ x2).setCell ⟨g1, 2, none⟩ x3).setCell ⟨g2, 0, none⟩ y1).setCell ⟨g2, 1, none⟩ y2).setCell ⟨g2, 2, none⟩ y3) g2 t #[y1, y2, y3] := by
  have p1 := (((((h1.put 0 x1).put 1 x2).put 2 x3).far (p := ⟨g2, 0, none⟩) hne y1).far (p := ⟨g2, 1, none⟩) hne y2).far (p := ⟨g2, 2, none⟩) hne y3
  have p2 := (((((h2.far (p := ⟨g1, 0, none⟩) hne.symm x1).far (p := ⟨g1, 1, none⟩) hne.symm x2).far (p := ⟨g1, 2, none⟩) hne.symm x3).put 0 y1).put 1 y2).put 2 y3
  simp at p1 p2
  exact ⟨p1, p2⟩
theorem six_far {w : World} {g1 g2 g : Nat} {t : TypeId} {cs : Array Value} (x1 x2 x3 y1 y2 y3 : Value) (h : Bk w g t cs) (n1 : g ≠ g1) (n2 : g ≠ g2) :
    Bk ((((((w.setCell ⟨g1, 0, none⟩ x1).setCell ⟨g1, 1, none⟩ x2).setCell ⟨g1, 2, none⟩ x3).setCell ⟨g2, 0, none⟩ y1).setCell ⟨g2, 1, none⟩ y2).setCell ⟨g2, 2, none⟩ y3) g t cs :=
  (((((h.far (p := ⟨g1, 0, none⟩) n1 x1).far (p := ⟨g1, 1, none⟩) n1 x2).far (p := ⟨g1, 2, none⟩) n1 x3).far (p := ⟨g2, 0, none⟩) n2 y1).far (p := ⟨g2, 1, none⟩) n2 y2).far (p := ⟨g2, 2, none⟩) n2 y3
theorem six_below {w0 w : World} {B g1 g2 : Nat} (x1 x2 x3 y1 y2 y3 : Value) (h : Below B w0 w) (n1 : B ≤ g1) (n2 : B ≤ g2) :
    Below B w0 ((((((w.setCell ⟨g1, 0, none⟩ x1).setCell ⟨g1, 1, none⟩ x2).setCell ⟨g1, 2, none⟩ x3).setCell ⟨g2, 0, none⟩ y1).setCell ⟨g2, 1, none⟩ y2).setCell ⟨g2, 2, none⟩ y3) :=
  (((((h.setCell (p := ⟨g1, 0, none⟩) n1 x1).setCell (p := ⟨g1, 1, none⟩) n1 x2).setCell (p := ⟨g1, 2, none⟩) n1 x3).setCell (p := ⟨g2, 0, none⟩) n2 y1).setCell (p := ⟨g2, 1, none⟩) n2 y2).setCell (p := ⟨g2, 2, none⟩) n2 y3

set_option maxHeartbeats 1000000 in
theorem euclid15 (a b : Int) (K : Nat) (w : World) (h : eucOk a b K = true) :
    Calls Try.prog 15 #[.int .i64 a, .int .i64 b] w fun e w' => e = .returned (.agg #[.int .i64 (rowsAt a b K).a, .int .i64 (rowsAt a b K).b, .int .i64 (rowsAt a b K).c]) ∧ Below w.heap.size w w' := by
  have H := Lib.hid h
  clear h
  go_enter Try.func15, Try.ntmps15
  go_wp2
  obtain ⟨W0, hW0⟩ : ∃ W0 : World, W0 = ((w.alloc (Obj.cells #[Value.int IntKind.i64 0, Value.int IntKind.i64 0, Value.int IntKind.i64 0] 42)).alloc (Obj.cells #[Value.int IntKind.i64 a, Value.int IntKind.i64 1, Value.int IntKind.i64 0] 42)).alloc (Obj.cells #[Value.int IntKind.i64 b, Value.int IntKind.i64 0, Value.int IntKind.i64 1] 42) := ⟨_, rfl⟩
  have b0 : Bk W0 w.heap.size 42 #[.int .i64 0, .int .i64 0, .int .i64 0] := by rw [hW0]; exact ((Bk.new _ _ _).alloc _).alloc _
  have b1 : Bk W0 (w.heap.size + 1) 42 #[.int .i64 a, .int .i64 1, .int .i64 0] := by rw [hW0]; have := (Bk.new (w.alloc (Obj.cells #[Value.int IntKind.i64 0, Value.int IntKind.i64 0, Value.int IntKind.i64 0] 42)) 42 #[.int .i64 a, .int .i64 1, .int .i64 0]).alloc (Obj.cells #[Value.int IntKind.i64 b, Value.int IntKind.i64 0, Value.int IntKind.i64 1] 42); simpa using this
  have b2 : Bk W0 (w.heap.size + 1 + 1) 42 #[.int .i64 b, .int .i64 0, .int .i64 1] := by rw [hW0]; have := Bk.new ((w.alloc (Obj.cells #[Value.int IntKind.i64 0, Value.int IntKind.i64 0, Value.int IntKind.i64 0] 42)).alloc (Obj.cells #[Value.int IntKind.i64 a, Value.int IntKind.i64 1, Value.int IntKind.i64 0] 42)) 42 #[.int .i64 b, .int .i64 0, .int .i64 1]; simpa using this
  have hb0 : Below w.heap.size w W0 := by rw [hW0]; exact (((Below.refl _ _).alloc (Nat.le_refl _) _).alloc (by simp) _).alloc (by simp; omega) _
  rw [← hW0]
  clear hW0
  go_loopg [7] K (fun q _ wr => q ≤ K ∧ ∃ s, s = rowsAt a b (K - q) ∧ Bk wr w.heap.size 42 #[.int .i64 0, .int .i64 0, .int .i64 0] ∧ Bk wr (w.heap.size + 1) 42 #[.int .i64 s.a, .int .i64 s.b, .int .i64 s.c] ∧
     Bk wr (w.heap.size + 1 + 1) 42 #[.int .i64 s.d, .int .i64 s.e, .int .i64 s.f] ∧ Below w.heap.size w wr)
  case atStart => exact ⟨Nat.le_refl _, _, rfl, b0, by simpa [rowsAt] using b1, by simpa [rowsAt] using b2, hb0⟩
  case round =>
    obtain ⟨hq, s, hs, c0, c1, c2, hb⟩ := hrel
    have c10 := c1.cell 0
    have c11 := c1.cell 1
    have c12 := c1.cell 2
    have c20 := c2.cell 0
    have c21 := c2.cell 1
    have c22 := c2.cell 2
    have f10 := c1.frozen 0
    have f11 := c1.frozen 1
    have f12 := c1.frozen 2
    have f20 := c2.frozen 0
    have f21 := c2.frozen 1
    have f22 := c2.frozen 2
    simp at c10 c11 c12 c20 c21 c22
    have c00 := c0.cell 0
    have c01 := c0.cell 1
    have c02 := c0.cell 2
    have f00 := c0.frozen 0
    have f01 := c0.frozen 1
    have f02 := c0.frozen 2
    simp at c00 c01 c02
    obtain ⟨hsm, hkd⟩ := eucOk_at H.out (K - gk) (by omega)
    rw [← hs] at hsm hkd
    clear b0 b1 b2 hb0
    by_cases hg : 0 < gk
    · obtain ⟨hsn, _⟩ := eucOk_at H.out (K - gk + 1) (by omega)
      have hnx : rowsAt a b (K - gk + 1) = s.next := by rw [hs]; rfl
      rw [hnx] at hsn
      have hne : s.d ≠ 0 := hkd.1 (by omega)
      have hd0 : (s.d != 0) = true := by simpa using hne
      obtain ⟨a1, a2⟩ := hsm.a
      obtain ⟨b1, b2⟩ := hsm.b
      obtain ⟨c1', c2'⟩ := hsm.c
      obtain ⟨q1, q2⟩ := hsm.q
      obtain ⟨d1, d2⟩ := hsn.d
      obtain ⟨e1, e2⟩ := hsn.e
      obtain ⟨f1, f2⟩ := hsn.f
      simp only [Rows2.next] at d1 d2 e1 e2 f1 f2
      have p1 : -2000 ≤ s.a.tdiv s.d * s.d := by omega
      have p2 : s.a.tdiv s.d * s.d ≤ 2000 := by omega
      have p3 : -2000 ≤ s.a.tdiv s.d * s.e := by omega
      have p4 : s.a.tdiv s.d * s.e ≤ 2000 := by omega
      have p5 : -2000 ≤ s.a.tdiv s.d * s.f := by omega
      have p6 : s.a.tdiv s.d * s.f ≤ 2000 := by omega
      have HS := Lib.hid hs
      have HX := Lib.hid hnx
      have HC1 := Lib.hid c1
      have HC2 := Lib.hid c2
      have HC0 := Lib.hid c0
      have HB := Lib.hid hb
      clear hs hnx hsn hsm hkd c00 c01 c02 f00 f01 f02 c0 c1 c2 hb
      go_wp2_with fail
      go_region
      go_wp2
      go_roundg (gk - 1)
      case measure => omega
      case rel =>
        have P := six (.int .i64 s.d) (.int .i64 s.e) (.int .i64 s.f) (.int .i64 (s.a - s.a.tdiv s.d * s.d)) (.int .i64 (s.b - s.a.tdiv s.d * s.e)) (.int .i64 (s.c - s.a.tdiv s.d * s.f)) HC1.out HC2.out (by omega)
        have P0 := six_far (.int .i64 s.d) (.int .i64 s.e) (.int .i64 s.f) (.int .i64 (s.a - s.a.tdiv s.d * s.d)) (.int .i64 (s.b - s.a.tdiv s.d * s.e)) (.int .i64 (s.c - s.a.tdiv s.d * s.f)) HC0.out (show w.heap.size ≠ w.heap.size + 1 by omega) (show w.heap.size ≠ w.heap.size + 1 + 1 by omega)
        have PB := six_below (.int .i64 s.d) (.int .i64 s.e) (.int .i64 s.f) (.int .i64 (s.a - s.a.tdiv s.d * s.d)) (.int .i64 (s.b - s.a.tdiv s.d * s.e)) (.int .i64 (s.c - s.a.tdiv s.d * s.f)) HB.out (show w.heap.size ≤ w.heap.size + 1 by omega) (show w.heap.size ≤ w.heap.size + 1 + 1 by omega)
        refine ⟨by omega, s.next, ?_, ?_, ?_, ?_, ?_⟩
        · rw [show K - (gk - 1) = K - gk + 1 by omega]; exact HX.out.symm
        · exact Bk.drew P0
        · exact Bk.drew P.1
        · exact Bk.drew P.2
        · exact Below.drew PB
    · have hz : s.d = 0 := by
        have : ¬ s.d ≠ 0 := fun h => by have := hkd.2 h; omega
        omega
      have hd0 : (s.d != 0) = false := by simp [hz]
      obtain rfl : gk = 0 := by omega
      have HS := Lib.hid hs
      clear hs hsm hkd hz
      go_wp2_with fail
      refine bodyPost_ret (v := .agg #[.int .i64 s.a, .int .i64 s.b, .int .i64 s.c]) ?_ rfl ⟨?_, ?_⟩
      · have hF : Bk (((wr.setCell ⟨w.heap.size, 0, none⟩ (.int .i64 s.a)).setCell ⟨w.heap.size, 1, none⟩ (.int .i64 s.b)).setCell ⟨w.heap.size, 2, none⟩ (.int .i64 s.c)) w.heap.size 42 #[.int .i64 s.a, .int .i64 s.b, .int .i64 s.c] := by
          have := ((c0.put 0 (.int .i64 s.a)).put 1 (.int .i64 s.b)).put 2 (.int .i64 s.c)
          simpa using this
        have q0 := hF.cell 0
        have q1 := hF.cell 1
        have q2 := hF.cell 2
        simp at q0 q1 q2
        simp [results, Try.results15, go_sem, q0, q1, q2]
      · rw [HS.out]; rfl
      · exact ((hb.setCell (p := ⟨w.heap.size, 0, none⟩) (Nat.le_refl _) _).setCell (p := ⟨w.heap.size, 1, none⟩) (Nat.le_refl _) _).setCell (p := ⟨w.heap.size, 2, none⟩) (Nat.le_refl _) _
end Go.Proofs.Ytojjmkoelggfbaa
