/- The walk of late: jobs that wait behind late ones; a Set just at a release; a load too great; the last tick. -/
import Derived.Test.YtcffjobefgecdaaFa
namespace Go.Proofs.Ytcffjobefgecdaa
open Go.RowKit

section
variable {w W : World} {ps : List (PSt × Nat)}
def UntilIs (w W : World) (ps : List (PSt × Nat)) (xs : List PSlot) (e : Ending) (W' : World) : Prop :=
  ∃ v, e = .returned v ∧ W'.ownsRow W.heap.size 42 4 v xs.length (slotsL xs) ∧ Many w W' ps ∧ Kp W W' ∧ ∀ k, v.ownBlock = some k → k < W'.heap.size
theorem until_is {K i p : Nat} {s s' : PSt} {xs : List PSlot} {tick : Int} (h : Many w W ps) (hi : ps[i]? = some (s, p)) (hok : StOk K s) (hus : untilS s tick = (s', xs)) (hK : K ≤ 1000000000) :
    Calls Try.prog 18 #[.pointer (some ⟨p, 0, none⟩), .int .i64 tick] W (UntilIs w W (ps.set i (s', p)) xs) := by
  have hun := until_many h hi tick hok hK
  rw [hus] at hun
  refine hun.mono ?_
  rintro e W' ⟨v, rfl, h1, h2, h3⟩
  exact ⟨v, rfl, h1, h2, h3, fun k hk => (h1.lt k hk).2⟩
theorem Rd.slotsNew (w : World) (l : List PSlot) : Rd (w.alloc (.cells (slotsL l).toArray 42)) (w.heap.size + 1) 4 (some ⟨w.heap.size, 0, none⟩) l.length (slotsL l) :=
  ⟨slotsL_len l, fun _ => ⟨w.heap.size, 0, rfl, Nat.lt_succ_self _, fun j u hu => by
    rw [(Bk.new w 42 (slotsL l).toArray).cell, Nat.zero_add]
    simpa using hu⟩⟩
def SameIs (w W : World) (ps : List (PSt × Nat)) (va : Value) (e : Ending) (W' : World) : Prop := e = .returned (.bool true) ∧ Many w W' ps ∧ W.grownBy W' va.ownBlock
theorem same_lit {base c : Nat} {va : Value} {xs : List PSlot} (h : Many w W ps) (ho : W.ownsRow base 42 4 va xs.length (slotsL xs)) (hb : w.heap.size ≤ base) (hbW : base ≤ W.heap.size) (hlen : xs.length ≤ 65536) :
    Calls Try.prog 22 #[va, .slice (some ⟨W.heap.size, 0, none⟩) xs.length c] (W.alloc (.cells (slotsL xs).toArray 42)) (SameIs w W ps va) := by
  refine (stretches22 base (W.heap.size + 1) c va _ xs _ (ho.alloc _) (by simp; omega) (Rd.slotsNew W xs) (fun b off e hv => ?_) hlen).mono ?_
  · injection e with e
    injection e with e1 e2
    have := (ho.lt b hv).2
    omega
  · rintro e W' ⟨rfl, hg⟩
    exact ⟨rfl, (h.alloc _).grown (ho.alloc _) hb hg, (grown_alloc (World.grownBy.refl W va.ownBlock) (.cells (slotsL xs).toArray 42)).trans hg⟩
theorem same_row {base b2 c : Nat} {va : Value} {A : Option Addr} {xs : List PSlot} (h : Many w W ps) (ho : W.ownsRow base 42 4 va xs.length (slotsL xs)) (h2 : W.ownsRow b2 42 4 (.slice A xs.length c) xs.length (slotsL xs)) (hlt : ∀ k, va.ownBlock = some k → k < b2) (hb : w.heap.size ≤ base) (hbW : base ≤ W.heap.size) (hlen : xs.length ≤ 65536) :
    Calls Try.prog 22 #[va, .slice A xs.length c] W (SameIs w W ps va) := by
  obtain ⟨A', c', e', hrd⟩ := Rd.own h2
  injection e' with e1 e2 e3
  subst e1
  refine (stretches22 base W.heap.size c va _ xs W ho hbW hrd (fun b off e hv => ?_) hlen).mono ?_
  · subst e
    have h3 := (h2.lt b rfl).1
    have := hlt b hv
    omega
  · rintro e W' ⟨rfl, hg⟩
    exact ⟨rfl, h.grown ho hb hg, hg⟩
theorem new_is {l : List PTask} (h : Many w W ps) (hl : newR l = 0) (hlen : l.length ≤ 1000) :
    Calls Try.prog 10 #[.slice (some ⟨W.heap.size, 0, none⟩) l.length l.length] (W.alloc (.cells (tasksL l).toArray 26)) (NewMany w (W.alloc (.cells (tasksL l).toArray 26)) ps l) :=
  new_many (h.alloc _) hl (Rd.tasksNew W l) (by simp) hlen
theorem keep_other {W' : World} {b1 n1 : Nat} {v va : Value} {xs : List Value} (ho : W.ownsRow b1 42 4 v n1 xs) (hg : W.grownBy W' va.ownBlock) (hlt : ∀ k, va.ownBlock = some k → k < b1) : W'.ownsRow b1 42 4 v n1 xs := by
  refine ho.kept hg ?_
  cases hv : v.ownBlock with
  | none => exact .inl rfl
  | some k =>
    refine .inr fun e => ?_
    have := (ho.lt k hv).1
    have := hlt k e.symm
    omega
end

/-! The closed values. -/
abbrev lP : List PTask := [⟨4, 4, 0⟩, ⟨1, 1, 0⟩]
abbrev lQ : List PTask := [⟨2, 1, 0⟩]
abbrev lR : List PTask := [⟨1099511627689, 1, 0⟩, ⟨8388593, 1, 0⟩]
abbrev lU : List PTask := [⟨6, 6, 0⟩, ⟨2, 1, 0⟩]
def lp1 : PSt := (untilS (newS lP) 7).1
def lp2 : PSt := (untilS lp1 12).1
def lq1 : PSt := (untilS (newS lQ) 2).1
def lq2 : PSt := (setS lq1 0 ⟨5, 1, 0⟩).1
def lq3 : PSt := (untilS lq2 12).1
def lu1 : PSt := (untilS (newS lU) 8).1
def lu2 : PSt := (setS lu1 0 ⟨1000, 1, 0⟩).1
def lu3 : PSt := (untilS lu2 30).1
abbrev xA : List PSlot := [⟨1, 0, 1, false⟩, ⟨1, 1, 2, false⟩, ⟨1, 2, 3, false⟩, ⟨0, 3, 7, true⟩]
abbrev xB : List PSlot := [⟨1, 7, 8, true⟩, ⟨1, 8, 9, true⟩, ⟨1, 9, 10, true⟩, ⟨1, 10, 11, true⟩, ⟨0, 11, 12, true⟩]
abbrev xD : List PSlot := [⟨0, 2, 3, false⟩, ⟨0, 4, 5, false⟩, ⟨0, 9, 10, false⟩]
abbrev xL : List PSlot := [⟨1, 8, 9, true⟩, ⟨1, 9, 10, true⟩, ⟨1, 10, 11, true⟩, ⟨0, 11, 17, true⟩, ⟨1, 17, 18, true⟩, ⟨1, 18, 19, true⟩, ⟨1, 19, 20, true⟩, ⟨1, 20, 21, true⟩, ⟨1, 21, 22, true⟩, ⟨1, 22, 23, true⟩, ⟨1, 23, 24, false⟩, ⟨1, 24, 25, false⟩, ⟨0, 25, 26, false⟩, ⟨1, 26, 27, false⟩, ⟨1, 28, 29, false⟩]
def xU8 : List PSlot := (untilS (newS lU) 8).2
def xQ2 : List PSlot := (untilS (newS lQ) 2).2
theorem la_p1 : untilS (newS lP) 7 = (lp1, xA) := by decide +kernel
theorem la_p2 : untilS lp1 12 = (lp2, xB) := by decide +kernel
theorem la_q1 : untilS (newS lQ) 2 = (lq1, xQ2) := rfl
theorem la_q2 : (setS lq1 0 ⟨5, 1, 0⟩).2 = 0 := by decide +kernel
theorem la_q3 : untilS lq2 12 = (lq3, xD) := by decide +kernel
theorem la_r : loadS (newS lR) = (0, 0) := by decide +kernel
theorem la_u1 : untilS (newS lU) 8 = (lu1, xU8) := rfl
theorem la_u3 : untilS lu2 30 = (lu3, xL) := by decide +kernel
theorem okP0 : StOk 1 (newS lP) := newS_ok (by decide) (by decide)
theorem okP1 : StOk 1 lp1 := untilS_ok 7 okP0
theorem okQ0 : StOk 1 (newS lQ) := newS_ok (by decide) (by decide)
theorem okQ1 : StOk 1 lq1 := untilS_ok 2 okQ0
theorem okQ2 : StOk 2 lq2 := setS_ok 0 ⟨5, 1, 0⟩ okQ1
theorem okR0 : StOk 1 (newS lR) := newS_ok (by decide) (by decide)
theorem okU0 : StOk 1 (newS lU) := newS_ok (by decide) (by decide)
theorem okU1 : StOk 1 lu1 := untilS_ok 8 okU0
theorem okU2 : StOk 2 lu2 := setS_ok 0 ⟨1000, 1, 0⟩ okU1
theorem okS : ∀ i, i ≤ 17 → StOk 1 (sCall i) := by
  intro i
  induction i with
  | zero => intro _; rw [s_zero]; exact newS_ok (by decide) (by decide)
  | succ i ih =>
    intro hi
    have := untilS_ok sEnd (ih (by omega))
    rwa [s_calls i (by omega)] at this

theorem xL_a (k : Nat) (hk : k < 3) : xL.take (k + 1) = xL.take k ++ [⟨1, 8 + k, 8 + k + 1, true⟩] := by
  rcases (by omega : k = 0 ∨ k = 1 ∨ k = 2) with rfl | rfl | rfl <;> decide
theorem xL_b (k : Nat) (hk : k < 8) : xL.take (4 + k + 1) = xL.take (4 + k) ++ [⟨1, 17 + k, 17 + k + 1, decide ((17 : Int) + k < 23)⟩] := by
  rcases (by omega : k = 0 ∨ k = 1 ∨ k = 2 ∨ k = 3 ∨ k = 4 ∨ k = 5 ∨ k = 6 ∨ k = 7) with rfl | rfl | rfl | rfl | rfl | rfl | rfl | rfl <;> decide
theorem own_snoc {w : World} {base n : Nat} {v : Value} {l l' : List PSlot} {x : PSlot} (h : w.ownsRow base 42 4 v (n + 1) (slotsL l ++ slotL x)) (e : l' = l ++ [x]) : w.ownsRow base 42 4 v (n + 1) (slotsL l') := by
  rw [e, slotsL_snoc]
  exact h

set_option maxRecDepth 100000 in
set_option maxHeartbeats 8000000 in
theorem late24 (w : World) : Calls Try.prog 24 #[] w fun e W' => e = .returned (.bool true) ∧ Below w.heap.size w W' := by
  go_enter Try.func24, Try.ntmps24
  go_wp2_with fail
  refine (new_is (Many.zero w) (l := lP) (by decide) (by decide)).mono ?_
  rintro e W1 ⟨p, rfl, hM, hb⟩
  have HM1 := Lib.hid (show Many w W1 [(newS lP, p)] from hM)
  clear hM hb
  go_wp2_with fail
  refine (new_is HM1.out (l := lQ) (by decide) (by decide)).mono ?_
  rintro e W2 ⟨q, rfl, hM, hb⟩
  have HM2 := Lib.hid (show Many w W2 [(newS lP, p), (newS lQ, q)] from hM)
  clear hM hb
  go_wp2_with fail
  refine (new_is HM2.out (l := lR) (by decide) (by decide)).mono ?_
  rintro e W3 ⟨r, rfl, hM, hb⟩
  have HM3 := Lib.hid (show Many w W3 [(newS lP, p), (newS lQ, q), (newS lR, r)] from hM)
  clear hM hb
  go_wp2_with fail
  refine (new_is HM3.out (l := [sT]) (by decide) (by decide)).mono ?_
  rintro e W4 ⟨s, rfl, hM, hb⟩
  have HM4 := Lib.hid (show Many w W4 [(newS lP, p), (newS lQ, q), (newS lR, r), (sCall 0, s)] from hM)
  have hz4 : w.heap.size ≤ W4.heap.size := hM.base.size
  clear hM hb
  go_wp2_with fail
  refine (until_is HM4.out (i := 0) rfl okP0 la_p1 (by omega)).mono ?_
  rintro e W5 ⟨va, rfl, ho, hM, hk, hlt⟩
  have HM5 := Lib.hid (show Many w W5 [(lp1, p), (newS lQ, q), (newS lR, r), (sCall 0, s)] from hM)
  have HA5 := Lib.hid ho
  have HLA := Lib.hid hlt
  have hz5 : W4.heap.size ≤ W5.heap.size := hk.1
  clear hM ho hk hlt
  go_wp2_with fail
  refine (until_is HM5.out (i := 0) rfl okP1 la_p2 (by omega)).mono ?_
  rintro e W6 ⟨vb, rfl, ho, hM, hk, hlt⟩
  have HM6 := Lib.hid (show Many w W6 [(lp2, p), (newS lQ, q), (newS lR, r), (sCall 0, s)] from hM)
  have HA6 := Lib.hid (hk.row HA5.out (by decide) (by decide) (by decide))
  have HB6 := Lib.hid ho
  have hz6 : W5.heap.size ≤ W6.heap.size := hk.1
  clear hM ho hk hlt
  go_wp2_with fail
  refine (same_lit (xs := xA) HM6.out HA6.out hz4 (by omega) (by decide)).mono ?_
  rintro e W7 ⟨rfl, hM, hg⟩
  have HM7 := Lib.hid hM
  have HB7 := Lib.hid (keep_other HB6.out hg HLA.out)
  have hz7 : W6.heap.size ≤ W7.heap.size := hg.size
  clear hM hg
  go_wp2_with fail
  refine (same_lit (xs := xB) HM7.out HB7.out (by omega) (by omega) (by decide)).mono ?_
  rintro e W8 ⟨rfl, hM, hg⟩
  have HM8 := Lib.hid hM
  clear hM hg
  go_wp2_with fail
  refine (until_is HM8.out (i := 1) rfl okQ0 la_q1 (by omega)).mono ?_
  rintro e W9 ⟨vq, rfl, ho, hM, hk, hlt⟩
  have HM9 := Lib.hid (show Many w W9 [(lp2, p), (lq1, q), (newS lR, r), (sCall 0, s)] from hM)
  clear hM ho hk hlt
  go_wp2_with fail
  have hset := set_many HM9.out (i := 1) rfl 0 ⟨5, 1, 0⟩ okQ1 (by omega) (by omega) (by omega)
  rw [la_q2] at hset
  refine hset.mono ?_
  rintro e W10 ⟨rfl, hM, hk⟩
  have HM10 := Lib.hid (show Many w W10 [(lp2, p), (lq2, q), (newS lR, r), (sCall 0, s)] from hM)
  clear hM hk hset
  go_wp2_with fail
  refine (until_is HM10.out (i := 1) rfl okQ2 la_q3 (by omega)).mono ?_
  rintro e W11 ⟨vd, rfl, ho, hM, hk, hlt⟩
  have HM11 := Lib.hid (show Many w W11 [(lp2, p), (lq3, q), (newS lR, r), (sCall 0, s)] from hM)
  have HD11 := Lib.hid ho
  have hz11 := HM10.out.base.size
  have hz12 := hk.1
  clear hM ho hk hlt
  go_wp2_with fail
  refine (same_lit (xs := xD) HM11.out HD11.out hz11 hz12 (by decide)).mono ?_
  rintro e W12 ⟨rfl, hM, hg⟩
  have HM12 := Lib.hid hM
  clear hM hg
  go_wp2_with fail
  have hld := load_many HM12.out (i := 2) rfl okR0
  rw [la_r] at hld
  refine hld.mono ?_
  rintro e W13 ⟨rfl, hM, hk⟩
  have HM13 := Lib.hid hM
  clear hM hk hld
  go_wp2_with fail
  go_loopw [18] (fun i wr => ∃ k : Nat, k ≤ 17 ∧ i = .int .i64 k ∧ Many w wr [(lp2, p), (lq3, q), (newS lR, r), (sCall k, s)]) (fun i _ => 17 - (intOf i).toNat)
  case atStart => exact ⟨0, by omega, rfl, HM13.out⟩
  case round =>
    obtain ⟨k, hk, rfl, hM⟩ := hrel
    have HMk := Lib.hid hM
    clear hM
    by_cases hlt : k < 17
    · have hun := until_many HMk.out (i := 3) rfl sEnd (okS k (by omega)) (by omega)
      rw [s_calls k hlt] at hun
      go_wp2_with fail
      refine hun.mono ?_
      rintro e W14 ⟨v, rfl, _, hM, _⟩
      have HM14 := Lib.hid (show Many w W14 [(lp2, p), (lq3, q), (newS lR, r), (sCall (k + 1), s)] from hM)
      clear hM hun
      go_wp2_with fail
      go_roundw
      case rel => exact ⟨k + 1, by omega, by go_num, HM14.out⟩
      case measure => simp [intOf]; omega
    · obtain rfl : k = 17 := by omega
      obtain ⟨wo, hwo⟩ : ∃ wo : World, wr = wo := ⟨_, rfl⟩
      subst hwo
      have hnx := next_many HMk.out (i := 3) rfl (okS 17 (by omega)) (by omega)
      rw [s_next] at hnx
      go_wp2_with fail
      refine hnx.mono ?_
      rintro e W15 ⟨rfl, hM, hk⟩
      have HM15 := Lib.hid (show Many w W15 [(lp2, p), (lq3, q), (newS lR, r), (sCall 17, s)] from hM)
      clear hM hk hnx
      go_wp2_with fail
      refine calls_gen (fun W => ∃ W16, W = W16.alloc (.cells (tasksL lU).toArray 26) ∧ Many w W16 [(lp2, p), (lq3, q), (newS lR, r), (sCall 17, s)] ∧ W16.heap.size = W15.heap.size + 1) ?_ ?_
      · exact ⟨_, rfl, HM15.out.alloc _, by simp⟩
      rintro W17 ⟨W16, rfl, hM16, hz16⟩
      rw [← hz16]
      refine (new_is hM16 (l := lU) (by decide) (by decide)).mono ?_
      rintro e W18 ⟨u, rfl, hM, hb⟩
      have HM18 := Lib.hid (show Many w W18 [(lp2, p), (lq3, q), (newS lR, r), (sCall 17, s), (newS lU, u)] from hM)
      clear hM hb hM16
      go_wp2_with fail
      refine (until_is HM18.out (i := 4) rfl okU0 la_u1 (by omega)).mono ?_
      rintro e W19 ⟨v8, rfl, ho, hM, hk, hlt⟩
      have HM19 := Lib.hid (show Many w W19 [(lp2, p), (lq3, q), (newS lR, r), (sCall 17, s), (lu1, u)] from hM)
      clear hM ho hk hlt
      go_wp2_with fail
      refine (set_many HM19.out (i := 4) rfl 0 ⟨1000, 1, 0⟩ okU1 (by omega) (by omega) (by omega)).mono ?_
      rintro e W20 ⟨rfl, hM, hk⟩
      have HM20 := Lib.hid (show Many w W20 [(lp2, p), (lq3, q), (newS lR, r), (sCall 17, s), (lu2, u)] from hM)
      clear hM hk
      go_wp2_with fail
      refine (until_is HM20.out (i := 4) rfl okU2 la_u3 (by omega)).mono ?_
      rintro e W21 ⟨vl, rfl, ho, hM, hk, hlt⟩
      have HM21 := Lib.hid (show Many w W21 [(lp2, p), (lq3, q), (newS lR, r), (sCall 17, s), (lu3, u)] from hM)
      have HL21 := Lib.hid ho
      have HLL := Lib.hid hlt
      have hz20 := HM20.out.base.size
      have hz21 := HM21.out.base.size
      have hz22 : W20.heap.size ≤ W21.heap.size := hk.1
      clear hM ho hk hlt
      go_wp2_with fail
      obtain ⟨i42, hi42, hz42, hsz42, hby42⟩ := info_parts info42
      have HI := Lib.hid hi42
      have HZ := Lib.hid hz42
      have HS := Lib.hid hsz42
      have HBY := Lib.hid hby42
      clear hi42 hz42 hsz42 hby42
      go_loopw [24, 25] (fun v i wr => ∃ (k : Nat) (y : Int), Hid (y = 8 + k) ∧ k ≤ 3 ∧ 8 ≤ y ∧ y ≤ 11 ∧ 11 - y = 3 - k ∧ i = .int .i64 y ∧ Many w wr [(lp2, p), (lq3, q), (newS lR, r), (sCall 17, s), (lu3, u)] ∧ wr.ownsRow W20.heap.size 42 4 vl 15 (slotsL xL) ∧ wr.ownsRow W21.heap.size 42 4 v k (slotsL (xL.take k)) ∧ W21.heap.size ≤ wr.heap.size) (fun _ i _ => 11 - (intOf i).toNat)
      case atStart => exact ⟨0, 8, Lib.hid (by rfl), by omega, by omega, by omega, by omega, rfl, HM21.out, HL21.out, World.ownsRow_nil _ _ _ _, Nat.le_refl _⟩
      case round =>
        obtain ⟨k, y, hy, hk, hy1, hy2, hy3, rfl, hM, hL, hO, hz⟩ := hrel
        have HMr := Lib.hid hM
        have HLr := Lib.hid hL
        have HOr := Lib.hid hO
        clear hM hL hO
        by_cases hlt : y < 11
        · go_wp2_with (at_builtin; refine wpList_append_own _ rfl _ _ 45 rfl W21.heap.size 42 i42 _ 4 32 Try.underlying45 HI.out HZ.out HS.out HBY.out rfl (by decide) _ _ _ rfl (HOr.out.alloc _) ⟨wr.heap.size, 0, none⟩ 1 1 [.int .i64 1, .int .i64 y, .int .i64 (y + 1), .bool true] rfl rfl (cell_newL _ _ _) (by simp [Value.oneCell']) (by simp only [maxLen]; omega) (by omega) (by simp; omega) ?_)
          intro v' w3 ho3 hg3 _
          have HM3' := Lib.hid ((HMr.out.alloc _).grown (HOr.out.alloc _) (by omega) hg3)
          have HL3' := Lib.hid (own_other (HLr.out.alloc _) (HOr.out.alloc _) hg3 HLL.out)
          have HO3' := Lib.hid (own_snoc (l' := xL.take (k + 1)) (x := ⟨1, y, y + 1, true⟩) ho3 (by rw [hy.out]; exact xL_a k (by omega)))
          have hz3 := hg3.size
          clear ho3 hg3
          go_wp2_with fail
          go_roundw
          case rel => exact ⟨k + 1, y + 1, Lib.hid (by rw [hy.out]; omega), by omega, by omega, by omega, by omega, rfl, HM3'.out, HL3'.out, HO3'.out, by simp at hz3; omega⟩
          case measure => simp [intOf]; omega
        · obtain rfl : k = 3 := by omega
          obtain rfl : y = 11 := by omega
          go_wp2_with (at_builtin; refine wpList_append_own _ rfl _ _ 45 rfl W21.heap.size 42 i42 _ 4 32 Try.underlying45 HI.out HZ.out HS.out HBY.out rfl (by decide) _ _ _ rfl (HOr.out.alloc _) ⟨wr.heap.size, 0, none⟩ 1 1 [.int .i64 0, .int .i64 11, .int .i64 17, .bool true] rfl rfl (cell_newL _ _ _) (by simp [Value.oneCell']) (by simp only [maxLen]; omega) (by omega) (by simp; omega) ?_)
          intro v' w3 ho3 hg3 _
          have HM3' := Lib.hid ((HMr.out.alloc _).grown (HOr.out.alloc _) (by omega) hg3)
          have HL3' := Lib.hid (own_other (HLr.out.alloc _) (HOr.out.alloc _) hg3 HLL.out)
          have HO3' := Lib.hid (own_snoc (l' := xL.take 4) (x := ⟨0, 11, 17, true⟩) ho3 (by decide))
          have hz3 : W21.heap.size ≤ w3.heap.size := by have := hg3.size; simp at this; omega
          clear ho3 hg3
          go_wp2_with fail
          obtain ⟨wo, hwo⟩ : ∃ wo : World, wr = wo := ⟨_, rfl⟩
          subst hwo
          go_loopw [24, 26] (fun v i wr => ∃ (k : Nat) (y : Int), Hid (y = 17 + k) ∧ k ≤ 8 ∧ 17 ≤ y ∧ y ≤ 25 ∧ 25 - y = 8 - k ∧ i = .int .i64 y ∧ Many w wr [(lp2, p), (lq3, q), (newS lR, r), (sCall 17, s), (lu3, u)] ∧ wr.ownsRow W20.heap.size 42 4 vl 15 (slotsL xL) ∧ wr.ownsRow W21.heap.size 42 4 v (4 + k) (slotsL (xL.take (4 + k))) ∧ W21.heap.size ≤ wr.heap.size) (fun _ i _ => 25 - (intOf i).toNat)
          case atStart => exact ⟨0, 17, Lib.hid (by rfl), by omega, by omega, by omega, by omega, rfl, HM3'.out, HL3'.out, HO3'.out, hz3⟩
          case round =>
            obtain ⟨k, y, hy, hk, hy1, hy2, hy3, rfl, hM, hL, hO, hz⟩ := hrel
            have HMr := Lib.hid hM
            have HLr := Lib.hid hL
            have HOr := Lib.hid hO
            clear hM hL hO
            by_cases hlt : y < 25
            · go_wp2_with (at_builtin; refine wpList_append_own _ rfl _ _ 45 rfl W21.heap.size 42 i42 _ 4 32 Try.underlying45 HI.out HZ.out HS.out HBY.out rfl (by decide) _ _ _ rfl (HOr.out.alloc _) ⟨wr.heap.size, 0, none⟩ 1 1 [.int .i64 1, .int .i64 y, .int .i64 (y + 1), .bool (decide (y < 23))] rfl rfl (cell_newL _ _ _) (by simp [Value.oneCell']) (by simp only [maxLen]; omega) (by omega) (by simp; omega) ?_)
              intro v' w4 ho4 hg4 _
              have HM4' := Lib.hid ((HMr.out.alloc _).grown (HOr.out.alloc _) (by omega) hg4)
              have HL4' := Lib.hid (own_other (HLr.out.alloc _) (HOr.out.alloc _) hg4 HLL.out)
              have HO4' := Lib.hid (own_snoc (l' := xL.take (4 + k + 1)) (x := ⟨1, y, y + 1, decide (y < 23)⟩) ho4 (by rw [hy.out]; exact xL_b k (by omega)))
              have hz4' : W21.heap.size ≤ w4.heap.size := by have := hg4.size; simp at this; omega
              clear ho4 hg4
              go_wp2_with fail
              go_roundw
              case rel => exact ⟨k + 1, y + 1, Lib.hid (by rw [hy.out]; omega), by omega, by omega, by omega, by omega, rfl, HM4'.out, HL4'.out, HO4'.out, hz4'⟩
              case measure => simp [intOf]; omega
            · obtain rfl : k = 8 := by omega
              go_wp2_with (at_builtin; refine wpList_append_own _ rfl _ _ 45 rfl W21.heap.size 42 i42 _ 4 32 Try.underlying45 HI.out HZ.out HS.out HBY.out rfl (by decide) _ _ _ rfl (HOr.out.alloc _) ⟨wr.heap.size, 0, none⟩ 3 3 [.int .i64 0, .int .i64 25, .int .i64 26, .bool false, .int .i64 1, .int .i64 26, .int .i64 27, .bool false, .int .i64 1, .int .i64 28, .int .i64 29, .bool false] rfl rfl (cell_newL _ _ _) (by simp [Value.oneCell']) (by simp only [maxLen]; omega) (by omega) (by simp; omega) ?_)
              intro v' w4 ho4 hg4 _
              have HM4' := Lib.hid ((HMr.out.alloc _).grown (HOr.out.alloc _) (by omega) hg4)
              have HL4' := Lib.hid (own_other (HLr.out.alloc _) (HOr.out.alloc _) hg4 HLL.out)
              have ho5 : w4.ownsRow W21.heap.size 42 4 v' xL.length (slotsL xL) := ho4
              have hz4' : W21.heap.size ≤ w4.heap.size := by have := hg4.size; simp at this; omega
              obtain ⟨A5, c5, rfl, _⟩ := Rd.own ho5
              have HO5 := Lib.hid ho5
              clear ho4 hg4 ho5
              go_wp2_with fail
              refine (same_row (xs := xL) HM4'.out HL4'.out HO5.out HLL.out hz20 (by omega) (by decide)).mono ?_
              rintro e W22 ⟨rfl, hM, hg⟩
              have hnm := now_many hM (i := 3) rfl
              rw [s_now] at hnm
              have HM22 := Lib.hid hM
              have HNM := Lib.hid hnm
              clear hM hg hnm
              go_wp2_with fail
              refine HNM.out.mono ?_
              rintro e W23 ⟨rfl, rfl⟩
              go_wp2_with fail
              go_ret
              exact ⟨rfl, HM22.out.base⟩
end Go.Proofs.Ytcffjobefgecdaa
