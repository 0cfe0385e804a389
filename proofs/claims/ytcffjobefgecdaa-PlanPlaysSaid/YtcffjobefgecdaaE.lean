/- Two tasks, two stretches held against each other. -/
import Derived.Test.YtcffjobefgecdaaA
import Derived.Laws.StructEq
namespace Go.Proofs.Ytcffjobefgecdaa
open Go.RowKit

/-- Are two tasks the same? (Behind a name that the walk does not open.) -/
def eqT (a b c a' b' c' : Int) : Bool := a == a' && (b == b' && c == c')
theorem eqT_true {t u : PTask} : eqT t.ev t.lo t.rk u.ev u.lo u.rk = true ↔ t = u := by
  obtain ⟨a, b, c⟩ := t
  obtain ⟨a', b', c'⟩ := u
  simp [eqT]
set_option maxRecDepth 100000 in
theorem eq26 (a b c a' b' c' : Int) (w : World) : (Op.equalIn 10000 26 (.agg #[.int .i64 a, .int .i64 b, .int .i64 c]) (.agg #[.int .i64 a', .int .i64 b', .int .i64 c'])).run Try.prog w = .ok (eqT a b c a' b' c') w := by
  have u3 := Try.underlying3
  have a3 := Try.isAgg3
  have z3 := Try.sizeOf3
  have u2 := Try.underlying2
  have a2 := Try.isAgg2
  have z2 := Try.sizeOf2
  have hS : Try.prog.underlying 26 = some (.struct (Try.prog.fieldsOf 26)) := by kernel_rfl
  rw [show (10000 : Nat) = 9999 + 1 from rfl, run_equalIn_agg w 9999 26 _ _ hS (by kernel_rfl)]
  simp only [Program.fieldsOf, Try.underlying26]
  go_simp
  unfold eqT
  by_cases h1 : a = a' <;> by_cases h2 : b = b' <;> by_cases h3 : c = c' <;> simp [h1, h2, h3]
set_option maxRecDepth 100000 in
theorem eq42 (a b c a' b' c' : Int) (d d' : Bool) (w : World) : (Op.equalIn 10000 42 (.agg #[.int .i64 a, .int .i64 b, .int .i64 c, .bool d]) (.agg #[.int .i64 a', .int .i64 b', .int .i64 c', .bool d'])).run Try.prog w = .ok (a == a' && (b == b' && (c == c' && d == d'))) w := by
  have u3 := Try.underlying3
  have a3 := Try.isAgg3
  have z3 := Try.sizeOf3
  have u2 := Try.underlying2
  have a2 := Try.isAgg2
  have z2 := Try.sizeOf2
  have u4 := Try.underlying4
  have a4 := Try.isAgg4
  have z4 := Try.sizeOf4
  have hS : Try.prog.underlying 42 = some (.struct (Try.prog.fieldsOf 42)) := by kernel_rfl
  rw [show (10000 : Nat) = 9999 + 1 from rfl, run_equalIn_agg w 9999 42 _ _ hS (by kernel_rfl)]
  simp only [Program.fieldsOf, Try.underlying42]
  go_simp
  by_cases h1 : a = a' <;> by_cases h2 : b = b' <;> by_cases h3 : c = c' <;> cases d <;> cases d' <;> simp [h1, h2, h3]
@[go_sem high] theorem bin26 (a b c a' b' c' : Int) (w : World) : (binOp .eql 26 (.agg #[.int .i64 a, .int .i64 b, .int .i64 c]) (.agg #[.int .i64 a', .int .i64 b', .int .i64 c'])).run Try.prog w = .ok (.bool (eqT a b c a' b' c')) w := by
  simp only [binOp]
  simp [Op.equal, Op.maxDepth, eq26]
/-- Are two slots the same? -/
def eqS (a b c a' b' c' : Int) (d d' : Bool) : Bool := a == a' && (b == b' && (c == c' && d == d'))
@[go_sem high] theorem bin42 (a b c a' b' c' : Int) (d d' : Bool) (w : World) : (binOp .eql 42 (.agg #[.int .i64 a, .int .i64 b, .int .i64 c, .bool d]) (.agg #[.int .i64 a', .int .i64 b', .int .i64 c', .bool d'])).run Try.prog w = .ok (.bool (eqS a b c a' b' c' d d')) w := by
  simp only [binOp]
  simp [Op.equal, Op.maxDepth, eq42, eqS]
@[go_sem high] theorem nbin42 (a b c a' b' c' : Int) (d d' : Bool) (w : World) : (binOp .neq 42 (.agg #[.int .i64 a, .int .i64 b, .int .i64 c, .bool d]) (.agg #[.int .i64 a', .int .i64 b', .int .i64 c', .bool d'])).run Try.prog w = .ok (.bool (!eqS a b c a' b' c' d d')) w := by
  simp only [binOp]
  simp [Op.equal, Op.maxDepth, eq42, eqS]
@[go_sem high] theorem nbin26 (a b c a' b' c' : Int) (w : World) : (binOp .neq 26 (.agg #[.int .i64 a, .int .i64 b, .int .i64 c]) (.agg #[.int .i64 a', .int .i64 b', .int .i64 c'])).run Try.prog w = .ok (.bool (!eqT a b c a' b' c')) w := by
  simp only [binOp]
  simp [Op.equal, Op.maxDepth, eq26]
end Go.Proofs.Ytcffjobefgecdaa
