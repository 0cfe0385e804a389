/- Walks: the pairs of remainders and moduli. -/
import Derived.Test.YtojjmkoelggfbaaB
import Derived.StillTailTactics
import Derived.Deep.RegionHeld3
import Derived.Deep.AppendLies
namespace Go.Proofs.Ytojjmkoelggfbaa
open Go.RowKit

/-- The pairs, where the moduli are such as may be. -/
def pairsS (r m : List Int) : List (Int × Int) := (r.zip m).map fun p => (p.1 % p.2, p.2)

theorem pairs_take (r m : List Int) (k : Nat) (h : k < r.length) (h' : k < m.length) :
    pcells (pairsS (r.take (k + 1)) (m.take (k + 1))) = pcells (pairsS (r.take k) (m.take k)) ++ [.int .i64 (r[k] % m[k]), .int .i64 m[k]] := by
  unfold pairsS pcells
  rw [List.take_succ_eq_append_getElem h, List.take_succ_eq_append_getElem h', List.zip_append (by simp; omega), List.map_append, List.flatMap_append]
  rfl

theorem info41 : (Try.prog.info? 41).map (fun i => (i.zero, i.size, i.bytes)) = some (some (.agg #[.int .i64 0, .int .i64 0]), 2, 16) := by kernel_rfl

set_option maxHeartbeats 400000 in
theorem ready10 (B : Nat) (A A' : Option Addr) (n c c' : Nat) (r m : List Int) (w : World) (h : Rd w B 1 A n (ints .i64 r)) (h' : Rd w B 1 A' n (ints .i64 m)) (hn : n ≤ 8) (hB : B ≤ w.heap.size)
    (hm : ∀ k ∈ m, 1 ≤ k ∧ k ≤ 1099511627776) :
    Calls Try.prog 10 #[.slice A n c, .slice A' n c'] w fun e w' => ∃ v, e = .returned (.tuple #[v, .int .i64 0]) ∧ w'.ownsRow w.heap.size 41 2 v n (pcells (pairsS r m)) ∧ Below w.heap.size w w' := by
  obtain ⟨i0, hi0, hz0, hz1, hz2⟩ := info_parts info41
  have HM := Lib.hid hm
  clear hm
  go_enter Try.func10, Try.ntmps10
  go_wp2
  go_loopw [7, 8, 17] (fun v _ i wr => ∃ k : Nat, k ≤ n ∧ i = .int .i64 k ∧ wr.ownsRow w.heap.size 41 2 v k (pcells (pairsS (r.take k) (m.take k))) ∧ Below w.heap.size w wr) (fun _ _ i _ => n - (intOf i).toNat)
  case atStart => exact ⟨0, by omega, rfl, by simpa [pairsS, pcells] using World.ownsRow_nil _ _ _ _, Below.refl _ _⟩
  case round =>
    obtain ⟨k, hk, rfl, hown, hbel⟩ := hrel
    by_cases hlt : k < n
    · obtain ⟨b, off, rfl, hb, hz, hc⟩ := (h.below (hbel.mono hB)).atInt hlt
      obtain ⟨b', off', rfl, hb', hz', hc'⟩ := (h'.below (hbel.mono hB)).atInt hlt
      obtain ⟨g1, g2⟩ := HM.out m[k] (List.getElem_mem hz')
      have av : u7.ownBlock ≠ some b := fun e => by have := (hown.lt _ e).1; omega
      have av' : u7.ownBlock ≠ some b' := fun e => by have := (hown.lt _ e).1; omega
      have hsz := hbel.size
      go_wp2
      go_region_held3 (fun w' => w'.cell? ⟨b, off + k, none⟩ = some (.int .i64 r[k]) ∧ w'.cell? ⟨b', off' + k, none⟩ = some (.int .i64 m[k]))
        (first
          | go_keep
          | (go_split_ands
             refine ⟨?_, ?_⟩
             · (rw [hgrow.cell_far _ (by simp; omega) (Ne.symm av)]; assumption)
             · (rw [hgrow.cell_far _ (by simp; omega) (Ne.symm av')]; assumption)))
        (first
          | (go_at_call 14; refine (modulo14 _ _ _ (by omega) (by omega)).mono ?_; rintro e w1 ⟨rfl, rfl⟩)
          | (refine step_append_lies _ (by rfl) _ _ _ (by rfl) w.heap.size 41 i0 _ 2 16 Try.underlying33 hi0 hz0 hz1 hz2 rfl (by omega) u7 k (pcells (pairsS (r.take k) (m.take k))) (by rfl) ((hown.alloc _).drew) ⟨wr.heap.size, 0, none⟩ 1 1 [.int .i64 (r[k] % m[k]), .int .i64 m[k]] (by rfl) (by rfl) (World.news_of_block (cs := #[.int .i64 (r[k] % m[k]), .int .i64 m[k]]) (t := 41) (fr := (0, 0)) (heap_alloc_new wr _)) (by simp [Value.oneCell']) (by omega) (by simp only [maxLen]; omega) (by omega) (by simp; omega) (wr.heap.size + 1) (by simp) ?_; intro gg cap w1 hown1 hgrow hat hlt'))
      have R1 : w1.ownsRow w.heap.size 41 2 (.slice (some ⟨gg, 0, none⟩) (k + 1) cap) (k + 1) (pcells (pairsS (r.take (k + 1)) (m.take (k + 1)))) := by
        rw [pairs_take r m k hz hz']
        exact hown1
      have R2 : Below w.heap.size w w1 := ((hbel.alloc hsz _).drew).grown hgrow (by simp; omega) (fun q hq => (hown.lt q hq).1)
      clear hown1 hgrow hown hbel hc hc'
      go_wp2
      go_roundw
      case rel => exact ⟨k + 1, by omega, by go_num, R1, R2⟩
      case measure => simp [intOf]; omega
    · obtain rfl : k = n := by omega
      have e1 : r.take k = r := List.take_of_length_le (by rw [h.lenInt]; omega)
      have e2 : m.take k = m := List.take_of_length_le (by rw [h'.lenInt]; omega)
      rw [e1, e2] at hown
      go_wp2
      go_ret2
      exact ⟨_, rfl, hown, hbel⟩
end Go.Proofs.Ytojjmkoelggfbaa
