/- The walk of stretches: two lists held against each other, the first of which is the caller's own and is turned. -/
import Derived.Test.YtcffjobefgecdaaRo
import Derived.Maps.AppendAt
namespace Go.Proofs.Ytcffjobefgecdaa
open Go.RowKit

theorem grown_new {a b c : World} {r r2 : Option Nat} (h : a.grownBy b r) (k : b.grownBy c r2) (hr : r2 = r ∨ ∀ x, r2 = some x → a.heap.size ≤ x) : a.grownBy c r :=
  ⟨k.os.trans h.os, k.tape.trans h.tape, k.output.trans h.output, Nat.le_trans h.size k.size, fun i hi hne => by
    refine (k.block i (Nat.lt_of_lt_of_le hi h.size) ?_).trans (h.block i hi hne)
    rcases hr with rfl | hr
    · exact hne
    · intro e
      have := hr i e.symm
      omega⟩
theorem grown_drew {a b : World} {r : Option Nat} (h : a.grownBy b r) (n : Nat) : a.grownBy (b.drewN n) r := ⟨h.os, h.tape, h.output, h.size, h.block⟩
theorem grown_alloc {a b : World} {r : Option Nat} (h : a.grownBy b r) (o : Obj) : a.grownBy (b.alloc o) r := grown_new (r2 := none) h (World.grownBy_alloc b o none) (.inr fun x hx => by cases hx)
theorem grown_set {a b : World} {g : Nat} (h : a.grownBy b (some g)) (o : Nat) (u : Value) : a.grownBy (b.setCell ⟨g, o, none⟩ u) (some g) :=
  ⟨h.os, h.tape, h.output, by simpa [World.setCell] using h.size, fun k hk hn => (Below.heap_setCell b ⟨g, o, none⟩ u k (by rintro rfl; exact hn rfl)).trans (h.block k hk hn)⟩

theorem own_drewN {w : World} {base sz n : Nat} {e : TypeId} {v : Value} {xs : List Value} (h : w.ownsRow base e sz v n xs) (k : Nat) : (w.drewN k).ownsRow base e sz v n xs := h
def PStretch (w : World) (va : Value) (e : Ending) (w' : World) : Prop := e = .returned (.bool true) ∧ w.grownBy w' va.ownBlock

set_option maxRecDepth 100000 in
set_option maxHeartbeats 4000000 in
theorem stretches22 (base B c : Nat) (va : Value) (A : Option Addr) (xs : List PSlot) (w : World) (ha : w.ownsRow base 42 4 va xs.length (slotsL xs)) (hbase : base ≤ w.heap.size) (hb : Rd w B 4 A xs.length (slotsL xs)) (hne : ∀ b off, A = some ⟨b, off, none⟩ → va.ownBlock ≠ some b) (hlen : xs.length ≤ 65536) :
    Calls Try.prog 22 #[va, .slice A xs.length c] w (PStretch w va) := by
  obtain ⟨i42, hi42, hz42, hsz42, hby42⟩ := info_parts info42
  have HI := Lib.hid hi42
  have HZ := Lib.hid hz42
  have HS := Lib.hid hsz42
  have HBY := Lib.hid hby42
  clear hi42 hz42 hsz42 hby42
  obtain ⟨A1, c1, rfl, _⟩ := Rd.own ha
  obtain ⟨n, hn⟩ : ∃ n, xs.length = n := ⟨_, rfl⟩
  obtain ⟨row, hrow⟩ : ∃ row, (Value.slice A1 n c1).ownBlock = row := ⟨_, rfl⟩
  rw [hn] at ha hb hne hlen ⊢
  rw [hrow] at hne
  have HA := Lib.hid ha
  have HB := Lib.hid hb
  have HNE := Lib.hid hne
  have HN := Lib.hid hn
  have HROW := Lib.hid hrow
  clear ha hb hne hn hrow
  go_enter Try.func22, Try.ntmps22
  go_wp2_with fail
  go_loopw [5] (fun i wr => ∃ (k : Nat) (zs : List Value), k ≤ n ∧ i = .int .i64 k ∧ wr.ownsRow base 42 4 (.slice A1 n c1) n zs ∧ (∀ j, 4 * k ≤ j → zs[j]? = (slotsL xs)[j]?) ∧ w.grownBy wr row) (fun i _ => n - (intOf i).toNat)
  case atStart => exact ⟨0, slotsL xs, by omega, rfl, HA.out, fun _ _ => rfl, World.grownBy.refl _ _⟩
  case round =>
    obtain ⟨k, zs, hk, rfl, hown, hzs, hgr⟩ := hrel
    by_cases hlt : k < n
    · obtain ⟨g, hg⟩ : ∃ g, A1 = some ⟨g, 0, none⟩ := by
        rcases hown.2 with ⟨h1, _⟩ | ⟨g, cap, cur, h1, _⟩
        · injection h1 with _ h2 _; omega
        · injection h1 with h1 _ _; exact ⟨g, h1⟩
      subst hg
      have hrw : some g = row := HROW.out
      subst hrw
      have hkl : k < xs.length := by rw [HN.out]; exact hlt
      have cell : ∀ q, q < 4 → wr.cell? ⟨g, k * 4 + q, none⟩ = (slotL xs[k])[q]? := fun q hq => by
        rw [hown.cellAt (k * 4 + q) (by omega), hzs _ (by omega), slotsL_at xs k hkl q hq]
      have a0 := cell 0 (by omega)
      have a1 := cell 1 (by omega)
      have a2 := cell 2 (by omega)
      have a3 := cell 3 (by omega)
      simp at a0 a1 a2 a3
      have z0 := hown.frozenAt (k * 4)
      have z1 := hown.frozenAt (k * 4 + 1)
      have z2 := hown.frozenAt (k * 4 + 2)
      have z3 := hown.frozenAt (k * 4 + 3)
      obtain ⟨b, off, hbl, rfl, hbB, b0, b1, b2, b3⟩ := HB.out.slot hlt
      have hng := HNE.out b off rfl
      have nb : ∀ q, some (⟨b, q, none⟩ : Addr).block ≠ some g := fun q e => hng (by rw [show some g = some b from e.symm])
      have b0 := hgr.cell b0 (nb _)
      have b1 := hgr.cell b1 (nb _)
      have b2 := hgr.cell b2 (nb _)
      have b3 := hgr.cell b3 (nb _)
      have hgne : ¬ g = b := fun e => hng (by rw [e])
      have HOWN := Lib.hid hown
      have HZS := Lib.hid hzs
      have HGR := Lib.hid hgr
      generalize xs[k] = x at a0 a1 a2 a3 b0 b1 b2 b3
      obtain ⟨tk, fr, tt, lt⟩ := x
      simp only at a0 a1 a2 a3 b0 b1 b2 b3
      clear cell hown hzs hgr nb hng
      go_wp2_with fail
      go_quiet (fail)
      go_wp2_with fail
      go_roundw
      case rel =>
        refine ⟨k + 1, _, by omega, by go_num, ((((((((own_drewN HOWN.out _).stored (k * 4) _).1).stored (k * 4 + 1) _).1).stored (k * 4 + 2) _).1).stored (k * 4 + 3) _).1, fun j hj => ?_, grown_set (grown_set (grown_set (grown_set (grown_drew HGR.out _) _ _) _ _) _ _) _ _⟩
        rw [List.getElem?_set_ne (by omega), List.getElem?_set_ne (by omega), List.getElem?_set_ne (by omega), List.getElem?_set_ne (by omega)]
        exact HZS.out j (by omega)
      case measure => simp [intOf]; omega
    · have HOWN := Lib.hid hown
      have HGR := Lib.hid hgr
      clear hown hzs hgr
      obtain ⟨wo, hwo⟩ : ∃ wo : World, wr = wo := ⟨_, rfl⟩
      subst hwo
      go_wp2_with fail
      go_loopw [0, 6] (fun v i wq => ∃ (j : Nat) (ys : List Value) (A2 : Option Addr) (c2 : Nat), j ≤ 9 ∧ i = .int .i64 j ∧ v = .slice A2 (n + j) c2 ∧ wq.ownsRow base 42 4 v (n + j) ys ∧ w.grownBy wq row ∧ (v.ownBlock = row ∨ ∀ x, v.ownBlock = some x → w.heap.size ≤ x)) (fun _ i _ => 9 - (intOf i).toNat)
      case atStart => exact ⟨0, zs, A1, c1, by omega, rfl, rfl, HOWN.out, HGR.out, .inl HROW.out⟩
      case round =>
        obtain ⟨j, ys, A2, c2, hj, rfl, rfl, hown, hgr, hblk⟩ := hrel
        have HO := Lib.hid hown
        have HG := Lib.hid hgr
        have HBL := Lib.hid hblk
        have hsz := hgr.size
        clear hown hgr hblk
        by_cases hj9 : j < 9
        · go_wp2_with (at_builtin; refine wpList_append_own_at _ rfl _ _ 45 rfl base 42 i42 _ 4 32 Try.underlying45 HI.out HZ.out HS.out HBY.out rfl (by decide) _ _ _ rfl (HO.out.alloc _) ⟨wr.heap.size, 0, none⟩ 1 1 [.int .i64 (-8), .int .i64 0, .int .i64 0, .bool false] rfl rfl (cell_newL _ _ _) (by simp [Value.oneCell']) (by simp only [maxLen]; omega) (by omega) (by simp; omega) ?_)
          intro v' w3 hown3 hgr3 _ hbl3
          have hsz3 : w.heap.size ≤ w3.heap.size := by have := hgr3.size; simp at this; omega
          obtain ⟨A3, c3, rfl, _⟩ := Rd.own hown3
          have HO3 := Lib.hid hown3
          have hbl4 : (Value.slice A3 (n + j + 1) c3).ownBlock = row ∨ ∀ x, (Value.slice A3 (n + j + 1) c3).ownBlock = some x → w.heap.size ≤ x := by
            rcases hbl3 with h | h
            · rw [h]; exact HBL.out
            · refine .inr fun x hx => ?_
              rw [h] at hx
              injection hx with hx
              omega
          have HB3 := Lib.hid hbl4
          have HG3 := Lib.hid (grown_new (grown_alloc HG.out _) hgr3 HBL.out)
          clear hown3 hgr3 hbl3 hbl4
          go_wp2_with fail
          go_roundw
          case rel => exact ⟨j + 1, _, A3, c3, by omega, by go_num, rfl, HO3.out, HG3.out, HB3.out⟩
          case measure => simp [intOf]; omega
        · obtain rfl : j = 9 := by omega
          go_wp2_with fail
          go_ret
          exact ⟨ret_bool (by simp), by rw [HROW.out]; exact HG.out⟩
end Go.Proofs.Ytcffjobefgecdaa
