/- The walk of few: some tasks that may be, brought into what is small. -/
import Derived.Test.YtcffjobefgecdaaX
import Derived.Test.YtcffjobefgecdaaT5
namespace Go.Proofs.Ytcffjobefgecdaa
open Go.RowKit

theorem info26 : (Try.prog.info? 26).map (fun i => (i.zero, i.size, i.bytes)) = some (some (.agg #[.int .i64 0, .int .i64 0, .int .i64 0]), 3, 24) := by kernel_rfl

def few1 (most : Int) (t : PTask) : PTask := ⟨t.ev % most + 1, t.lo % (t.ev % most + 1) + 1, t.rk⟩
def fewS (most : Int) (l : List PTask) : List PTask := (l.take 12).map (few1 most)
theorem few1_may {most : Int} (h0 : 1 ≤ most) (h1 : most ≤ 100) (t : PTask) : 1 ≤ (few1 most t).ev ∧ (few1 most t).ev ≤ most ∧ 1 ≤ (few1 most t).lo ∧ (few1 most t).lo ≤ (few1 most t).ev := by
  have a := Int.emod_nonneg t.ev (show most ≠ 0 by omega)
  have b := Int.emod_lt_of_pos t.ev (show 0 < most by omega)
  have c := Int.emod_nonneg t.lo (show t.ev % most + 1 ≠ 0 by omega)
  have d := Int.emod_lt_of_pos t.lo (show 0 < t.ev % most + 1 by omega)
  simp only [few1]
  omega
theorem fewS_may {most : Int} (h0 : 1 ≤ most) (h1 : most ≤ 100) (l : List PTask) : ∀ t ∈ fewS most l, 1 ≤ t.ev ∧ t.ev ≤ most ∧ 1 ≤ t.lo ∧ t.lo ≤ t.ev := by
  intro t ht
  obtain ⟨u, _, rfl⟩ := List.mem_map.1 ht
  exact few1_may h0 h1 u
theorem fewS_len (most : Int) (l : List PTask) : (fewS most l).length = min 12 l.length := by simp [fewS]
theorem fewS_take (most : Int) (l : List PTask) (k : Nat) (hk : k < l.length) (h12 : k < 12) : fewS most (l.take (k + 1)) = fewS most (l.take k) ++ [few1 most l[k]] := by
  unfold fewS
  rw [List.take_take, List.take_take, show min 12 (k + 1) = k + 1 by omega, show min 12 k = k by omega, List.take_succ_eq_append_getElem hk, List.map_append]
  rfl
theorem tasksL_snoc (l : List PTask) (x : PTask) : tasksL (l ++ [x]) = tasksL l ++ taskL x := by simp [tasksL]
theorem rem_twice {x m : Int} (h : 1 ≤ m) : (x.tmod m + m) % m = x % m ∧ -m < x.tmod m ∧ x.tmod m < m := by
  have h1 : -m < x.tmod m := Int.lt_tmod_of_pos x (show 0 < m by omega)
  have h2 : x.tmod m < m := Int.tmod_lt_of_pos x (show 0 < m by omega)
  refine ⟨?_, h1, h2⟩
  rw [Int.add_emod_right]
  have := Int.mul_tdiv_add_tmod x m
  have h3 : x.tmod m = x + m * (-(x.tdiv m)) := by rw [Int.mul_neg]; omega
  rw [h3, Int.add_mul_emod_self_left]

def TB (t : PTask) : Prop := -9223372036854775808 ≤ t.ev ∧ t.ev ≤ 9223372036854775807 ∧ -9223372036854775808 ≤ t.lo ∧ t.lo ≤ 9223372036854775807 ∧ -9223372036854775808 ≤ t.rk ∧ t.rk ≤ 9223372036854775807

set_option maxRecDepth 100000 in
set_option maxHeartbeats 2000000 in
theorem few20 (B : Nat) (A : Option Addr) (n c : Nat) (l : List PTask) (most : Int) (w : World) (h : Rd w B 3 A n (tasksL l)) (hB : B ≤ w.heap.size) (hn : n ≤ 9223372036854775807) (h0 : 1 ≤ most) (h1 : most ≤ 100) (ht : ∀ t ∈ l, TB t) :
    Calls Try.prog 20 #[.slice A n c, .int .i64 most] w fun e w' => ∃ v, e = .returned v ∧ w'.ownsRow w.heap.size 26 3 v (fewS most l).length (tasksL (fewS most l)) ∧ Below w.heap.size w w' := by
  obtain ⟨i26, hi26, hz26, hsz26, hby26⟩ := info_parts info26
  have HI := Lib.hid hi26
  have HZ := Lib.hid hz26
  have HS := Lib.hid hsz26
  have HB := Lib.hid hby26
  have hlen : l.length = n := by have := h.1; rw [tasksL_len] at this; omega
  have HL := Lib.hid hlen
  have HT := Lib.hid ht
  have H := Lib.hid h
  clear hi26 hz26 hsz26 hby26 hlen ht h
  go_enter Try.func20, Try.ntmps20
  go_wp2_with fail
  go_loopw [5, 6, 7, 8] (fun v i _ _ wr => ∃ k : Nat, k ≤ n ∧ k ≤ 12 ∧ i = .int .i64 k ∧ wr.ownsRow w.heap.size 26 3 v (fewS most (l.take k)).length (tasksL (fewS most (l.take k))) ∧ Below w.heap.size w wr) (fun _ i _ _ _ => n - (intOf i).toNat)
  case atStart => exact ⟨0, by omega, by omega, rfl, by simpa [fewS, tasksL] using World.ownsRow_nil _ _ _ _, Below.refl _ _⟩
  case round =>
    obtain ⟨k, hk, hk12, rfl, hown, hbel⟩ := hrel
    by_cases hlt : k < n ∧ k < 12
    · obtain ⟨g1, g2⟩ := hlt
      obtain ⟨b, off, hkl, rfl, hb, c0, c1, c2⟩ := (H.out.below (hbel.mono hB)).task g1
      obtain ⟨t1, t2, t3, t4, t5, t6⟩ := HT.out _ (List.getElem_mem hkl)
      have hsz := hbel.size
      have HO := Lib.hid hown
      have HBEL := Lib.hid hbel
      clear hown hbel
      have hlenk : (fewS most (l.take k)).length = k := by rw [fewS_len]; simp; omega
      have HK := Lib.hid hlenk
      have htk := fewS_take most l k hkl g2
      have hmay := few1_may h0 h1 l[k]
      have HTK := Lib.hid htk
      clear htk hlenk
      generalize hlk : l[k] = t at *
      obtain ⟨ev, lo, rk⟩ := t
      obtain ⟨r1, r2, r3⟩ := rem_twice (x := ev) h0
      simp only [few1] at hmay
      obtain ⟨m1, m2, m3, m4⟩ := hmay
      obtain ⟨E, hE⟩ : ∃ E, ev % most + 1 = E := ⟨_, rfl⟩
      rw [hE] at m1 m2 m3 m4
      obtain ⟨q1, q2, q3⟩ := rem_twice (x := lo) m1
      simp only at c0 c1 c2 t1 t2 t3 t4 t5 t6
      have HE := Lib.hid hE
      clear hlk
      go_wp2_with (at_builtin; refine wpList_append_own _ rfl _ _ 22 rfl w.heap.size 26 i26 _ 3 24 Try.underlying22 HI.out HZ.out HS.out HB.out rfl (by decide) _ _ _ rfl (HO.out.alloc _) ⟨wr.heap.size, 0, none⟩ 1 1 [.int .i64 E, .int .i64 (lo % E + 1), .int .i64 rk] rfl rfl (cell_newL _ _ _) (by simp [Value.oneCell']) (by have := HK.out; simp only [maxLen]; omega) (by have := HK.out; omega) (by simp; omega) ?_)
      intro v' w3 hown3 hgr _
      have R1 : w3.ownsRow w.heap.size 26 3 v' (fewS most (l.take (k + 1))).length (tasksL (fewS most (l.take (k + 1)))) := by
        rw [HTK.out, List.length_append, tasksL_snoc]
        simp only [few1, HE.out]
        exact hown3
      have R2 : Below w.heap.size w w3 := (HBEL.out.alloc hsz _).grown hgr (by simp; omega) (fun q hq => (HO.out.lt q hq).1)
      have HR1 := Lib.hid R1
      have HR2 := Lib.hid R2
      clear hown3 hgr R1 R2
      go_wp2_with fail
      go_roundw
      case rel => exact ⟨k + 1, by omega, by omega, by go_num, HR1.out, HR2.out⟩
      case measure => simp [intOf]; omega
    · have e : fewS most (l.take k) = fewS most l := by
        unfold fewS
        rw [List.take_take]
        congr 1
        have := HL.out
        by_cases h5 : k = 12
        · rw [h5]; rfl
        · rw [List.take_of_length_le (by omega), List.take_of_length_le (by omega)]
      rw [e] at hown
      have HO := Lib.hid hown
      have HBEL := Lib.hid hbel
      clear hown hbel e
      by_cases g1 : k < n
      · obtain rfl : k = 12 := by omega
        go_wp2_with fail
        go_ret
        exact ⟨_, rfl, HO.out, HBEL.out⟩
      · go_wp2_with fail
        go_ret
        exact ⟨_, rfl, HO.out, HBEL.out⟩
end Go.Proofs.Ytcffjobefgecdaa
