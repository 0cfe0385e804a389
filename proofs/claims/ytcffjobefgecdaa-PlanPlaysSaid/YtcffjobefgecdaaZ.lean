/- The walk of ticks: which task runs at each tick. -/
import Derived.Test.YtcffjobefgecdaaY
namespace Go.Proofs.Ytcffjobefgecdaa
open Go.RowKit

theorem info3 : (Try.prog.info? 3).map (fun i => (i.zero, i.size, i.bytes)) = some (some (.int .i64 0), 1, 8) := by kernel_rfl

/-- The task of a tick, -1: none. -/
noncomputable def wt (L : List AL) (q : Nat) : Int := match Wat L q with
  | some i => i
  | none => -1
def fillAt (E q : Nat) : List Int := (List.range E).map fun k => if k < q then -1 else 0
noncomputable def rowAt (L : List AL) (E q : Nat) : List Int := (List.range E).map fun k => if k < q then wt L k else -1
def intsA (l : List Int) : Array Value := (ints .i64 l).toArray
theorem intsA_set (l : List Int) (q : Nat) (x : Int) : (intsA l).setIfInBounds q (.int .i64 x) = intsA (l.set q x) := by
  unfold intsA ints
  rw [List.map_set]
  simp
theorem intsA_at (l : List Int) (q : Nat) (hq : q < l.length) : (intsA l)[q]? = some (.int .i64 l[q]) := by
  unfold intsA ints
  simp [hq]
theorem fill_len (E q : Nat) : (fillAt E q).length = E := by simp [fillAt]
theorem row_len (L : List AL) (E q : Nat) : (rowAt L E q).length = E := by simp [rowAt]
theorem fill_set {E q : Nat} : (fillAt E q).set q (-1) = fillAt E (q + 1) := by
  refine List.ext_getElem (by simp [fillAt]) fun k h1 h2 => ?_
  simp only [fillAt, List.getElem_set, List.getElem_map, List.getElem_range]
  by_cases e : q = k
  · subst e; simp
  · rw [if_neg e]
    by_cases h : k < q
    · rw [if_pos h, if_pos (by omega)]
    · rw [if_neg h, if_neg (by omega)]
theorem row_set {L : List AL} {E q : Nat} {x : Int} (hx : wt L q = x) : (rowAt L E q).set q x = rowAt L E (q + 1) := by
  subst hx
  refine List.ext_getElem (by simp [rowAt]) fun k h1 h2 => ?_
  simp only [rowAt, List.getElem_set, List.getElem_map, List.getElem_range]
  by_cases e : q = k
  · subst e; simp
  · rw [if_neg e]
    by_cases h : k < q
    · rw [if_pos h, if_pos (by omega)]
    · rw [if_neg h, if_neg (by omega)]
theorem row_idle {L : List AL} {E n m : Nat} (hid : ∀ q, n ≤ q → q < m → Wat L q = none) (hnm : n ≤ m) : rowAt L E n = rowAt L E m := by
  unfold rowAt
  refine List.map_congr_left fun k _ => ?_
  by_cases h : k < n
  · rw [if_pos h, if_pos (by omega)]
  · rw [if_neg h]
    by_cases h2 : k < m
    · rw [if_pos h2]
      unfold wt
      rw [hid k (by omega) h2]
    · rw [if_neg h2]
theorem fill_row (L : List AL) (E : Nat) : fillAt E E = rowAt L E 0 := by
  unfold fillAt rowAt
  refine List.map_congr_left fun k hk => ?_
  rw [if_pos (List.mem_range.1 hk), if_neg (by omega)]
theorem made_fill (E : Nat) : madeCells (Value.int .i64 0).cells (E * 1) = intsA (fillAt E 0) := by
  unfold madeCells intsA ints fillAt
  refine Array.ext (by simp) fun i h1 h2 => ?_
  simp [Value.cells, Nat.mod_one]

theorem Told.split {L : List AL} {n m : Nat} {l : List PSlot} {j : Nat} (h : Told L n m (l.drop j)) (hj : j < l.length) : ∃ f t i : Nat, n ≤ f ∧ (∀ q, n ≤ q → q < f → Wat L q = none) ∧ f < t ∧ t ≤ m ∧ l[j].task = i ∧ l[j].frm = f ∧ l[j].to = t ∧ (∀ q, f ≤ q → q < t → wt L q = i) ∧ i < L.length ∧ Told L t m (l.drop (j + 1)) := by
  rw [List.drop_eq_getElem_cons hj] at h
  cases h with
  | cons nf hid ft hi e1 e2 e3 hr hl => exact ⟨_, _, _, nf, hid, ft, hl.le, e1, e2, e3, fun q h1 h2 => by unfold wt; rw [hr q h1 h2], hi, hl⟩
theorem Told.done {L : List AL} {n m : Nat} (h : Told L n m []) : n ≤ m ∧ ∀ q, n ≤ q → q < m → Wat L q = none := by
  cases h with
  | nil h hid => exact ⟨h, hid⟩

theorem Rd.slot {w : World} {B n k : Nat} {A : Option Addr} {l : List PSlot} (h : Rd w B 4 A n (slotsL l)) (hk : k < n) :
    ∃ b off, ∃ hl : k < l.length, A = some ⟨b, off, none⟩ ∧ b < B ∧ w.cell? ⟨b, off + k * 4, none⟩ = some (.int .i64 l[k].task) ∧ w.cell? ⟨b, off + k * 4 + 1, none⟩ = some (.int .i64 l[k].frm) ∧ w.cell? ⟨b, off + k * 4 + 2, none⟩ = some (.int .i64 l[k].to) ∧ w.cell? ⟨b, off + k * 4 + 3, none⟩ = some (.bool l[k].late) := by
  obtain ⟨b, off, e, hb, hc⟩ := h.2 (by omega)
  have hlen := h.1
  rw [slotsL_len] at hlen
  have hl : k < l.length := by omega
  refine ⟨b, off, hl, e, hb, ?_, ?_, ?_, ?_⟩
  · have := hc (k * 4 + 0) _ (slotsL_at l k hl 0 (by omega))
    simpa using this
  · have := hc (k * 4 + 1) _ (slotsL_at l k hl 1 (by omega))
    simpa [Nat.add_assoc] using this
  · have := hc (k * 4 + 2) _ (slotsL_at l k hl 2 (by omega))
    simpa [Nat.add_assoc] using this
  · have := hc (k * 4 + 3) _ (slotsL_at l k hl 3 (by omega))
    simpa [Nat.add_assoc] using this

set_option maxRecDepth 100000 in
set_option maxHeartbeats 4000000 in
theorem ticks21 (L : List AL) (B : Nat) (A : Option Addr) (n c E : Nat) (l : List PSlot) (w : World) (h : Rd w B 4 A n (slotsL l)) (hB : B ≤ w.heap.size) (hT : Told L 0 E l) (hE : E ≤ 1000) (h1 : 1 ≤ E) :
    Calls Try.prog 21 #[.slice A n c, .int .i64 E] w fun e w' => e = .returned (.tuple #[.slice (some ⟨w.heap.size, 0, none⟩) E E, .bool true]) ∧ Bk w' w.heap.size 3 (intsA (rowAt L E E)) ∧ Below w.heap.size w w' := by
  obtain ⟨i3, hi, hz, hsz, hby⟩ := info_parts info3
  have hmk := fun W => run_make_rowN (P := Try.prog) 55 3 i3 _ Try.underlying55 hi hz .i64 .i64 E E (Nat.le_refl _) (by rw [hby]; omega) (by omega) W
  rw [hsz, made_fill] at hmk
  have hnl : l.length = n := by have := h.1; rw [slotsL_len] at this; omega
  have hn : n ≤ 1000 := by have := hT.len; omega
  have HNL := Lib.hid hnl
  have HTO := Lib.hid hT
  have H := Lib.hid h
  clear hi hz hsz hby hnl hT h
  obtain ⟨cs, hcs⟩ : ∃ cs, intsA (fillAt E 0) = cs := ⟨_, rfl⟩
  rw [hcs] at hmk
  have HCS := Lib.hid hcs
  clear hcs
  go_enter Try.func21, Try.ntmps21
  go_wp2_with fail
  go_loopw [7] (fun i wr => ∃ k : Nat, k ≤ E ∧ i = .int .i64 k ∧ Bk wr w.heap.size 3 (intsA (fillAt E k)) ∧ Below w.heap.size w wr) (fun i _ => E - (intOf i).toNat)
  case atStart => exact ⟨0, by omega, rfl, by rw [HCS.out]; exact Bk.new w 3 _, (Below.refl _ _).alloc (Nat.le_refl _) _⟩
  case round =>
    obtain ⟨k, hk, rfl, hbk, hbel⟩ := hrel
    have HBK := Lib.hid hbk
    have HBEL := Lib.hid hbel
    by_cases hlt : k < E
    · have c0 := (hbk.cell k).trans (intsA_at _ k (by rw [fill_len]; exact hlt))
      have f0 := hbk.frozen k
      clear hbk hbel
      go_wp2_with fail
      go_roundw
      case rel => exact ⟨k + 1, by omega, by go_num, by have := HBK.out.put k (.int .i64 (-1)); rw [intsA_set, fill_set] at this; exact this, HBEL.out.setCell (p := ⟨w.heap.size, k, none⟩) (Nat.le_refl _) _⟩
      case measure => simp [intOf]; omega
    · obtain rfl : k = E := by omega
      clear hbk hbel
      have hrow := HBK.out
      rw [fill_row L] at hrow
      have HR := Lib.hid hrow
      clear hrow HBK
      go_wp2_with fail
      go_loopw [8, 9, 10] (fun a i _ wq => ∃ j q : Nat, j ≤ n ∧ i = .int .i64 j ∧ a = .int .i64 q ∧ Told L q k (l.drop j) ∧ Bk wq w.heap.size 3 (intsA (rowAt L k q)) ∧ Below w.heap.size w wq) (fun _ i _ _ => n - (intOf i).toNat)
      case atStart => exact ⟨0, 0, by omega, rfl, rfl, HTO.out, HR.out, HBEL.out⟩
      case round =>
        obtain ⟨j, q, hj, rfl, rfl, htold, hbk, hbel⟩ := hrel
        by_cases hjn : j < n
        · obtain ⟨b, off, hjl, rfl, hb, x0, x1, x2, x3⟩ := (H.out.below (hbel.mono hB)).slot hjn
          obtain ⟨f, t, i, s1, s2, s3, s4, s5, s6, s7, s8, s9, s10⟩ := htold.split hjl
          have HE5 := Lib.hid s5
          have HE7 := Lib.hid s7
          rw [s5] at x0
          rw [s6] at x1
          rw [s7] at x2
          have HBK := Lib.hid (show Bk _ _ _ (intsA (rowAt L k f)) by rw [← row_idle s2 s1]; exact hbk)
          have HBEL2 := Lib.hid hbel
          have HN := Lib.hid s10
          have HW := Lib.hid s8
          have d1 : decide ((f : Int) < q) = false := decide_eq_false (by omega)
          have d2 : decide ((t : Int) ≤ f) = false := decide_eq_false (by omega)
          have d3 : decide ((k : Int) < t) = false := decide_eq_false (by omega)
          clear htold hbk hbel s2 s5 s6 s7 s8 s10
          go_wp2_with fail
          go_quiet (fail)
          go_wp2_with fail
          go_loopw [10] (fun kk wz => ∃ m : Nat, f ≤ m ∧ m ≤ t ∧ kk = .int .i64 m ∧ Bk wz w.heap.size 3 (intsA (rowAt L k m)) ∧ Below w.heap.size w wz) (fun kk _ => t - (intOf kk).toNat)
          case atStart => exact ⟨f, by omega, by omega, rfl, HBK.out.drewN _, HBEL2.out.trans ⟨rfl, rfl, rfl, Nat.le_refl _, fun _ _ => rfl⟩⟩
          case round =>
            obtain ⟨m, m1, m2, rfl, hbk3, hbel3⟩ := hrel
            obtain ⟨b', off', hjl', hbo, hb', x0, x1, x2, x3⟩ := (H.out.below (hbel3.mono hB)).slot hjn
            injection hbo with hbo
            injection hbo with e1 e2 e3
            subst e1 e2
            rw [HE5.out] at x0
            rw [HE7.out] at x2
            have HBK3 := Lib.hid hbk3
            have HBEL3 := Lib.hid hbel3
            by_cases hmt : m < t
            · have c0 := (hbk3.cell m).trans (intsA_at _ m (by rw [row_len]; omega))
              have f0 := hbk3.frozen m
              clear hbk3 hbel3
              go_wp2_with fail
              go_roundw
              case rel => exact ⟨m + 1, by omega, by omega, by go_num, by have := HBK3.out.put m (.int .i64 i); rw [intsA_set, row_set (HW.out m m1 hmt)] at this; exact this, HBEL3.out.setCell (p := ⟨w.heap.size, m, none⟩) (Nat.le_refl _) _⟩
              case measure => simp [intOf]; omega
            · obtain rfl : m = t := by omega
              clear hbk3 hbel3
              go_wp2_with fail
              go_roundw
              case rel => exact ⟨j + 1, m, by omega, by go_num, rfl, HN.out, HBK3.out, HBEL3.out⟩
              case measure => simp [intOf]; omega
        · obtain rfl : j = n := by omega
          have hd : l.drop j = [] := List.drop_of_length_le (by rw [HNL.out]; exact Nat.le_refl _)
          rw [hd] at htold
          obtain ⟨g1, g2⟩ := htold.done
          have HBK := Lib.hid (show Bk _ _ _ (intsA (rowAt L k k)) by rw [← row_idle g2 g1]; exact hbk)
          have HBEL2 := Lib.hid hbel
          clear htold hbk hbel hd g1 g2
          go_wp2_with fail
          go_ret2
          exact ⟨rfl, HBK.out, HBEL2.out⟩
end Go.Proofs.Ytcffjobefgecdaa
