/- The walk of far: one that has more to do than it can, a long way off. -/
import Derived.Test.YtcffjobefgecdaaSt
import Derived.Test.YtcffjobefgecdaaT6
namespace Go.Proofs.Ytcffjobefgecdaa
open Go.RowKit

theorem Many.pick {w W : World} {ps : List (PSt × Nat)} {i : Nat} {s : PSt} {p : Nat} (h : Many w W ps) (hi : ps[i]? = some (s, p)) : Many w W [(s, p)] := by
  obtain ⟨h0, E, h1, h2⟩ := h
  refine ⟨h0, fun _ => E i, fun j s' p' hj => ?_, fun j k s' p' s2 p2 hj hk hne => ?_⟩
  · cases j with
    | zero => simp at hj; obtain ⟨rfl, rfl⟩ := hj; exact h1 i _ _ hi
    | succ j => simp at hj
  · cases j with
    | zero =>
      cases k with
      | zero => exact absurd rfl hne
      | succ k => simp at hk
    | succ j => simp at hj
theorem far_ok : StOk 1 (uSt 0) := newS_ok (l := [uT0, uT1]) (by decide) (by decide)
theorem far_okW : StOk 1 (wSt 0) := newS_ok (l := [wT]) (by decide) (by decide)
abbrev vL : List PTask := [⟨1099511627776, 1099511627776, 0⟩, ⟨1099511627776, 1099511627776, 1⟩]
def vSt1 : PSt := (nextS (newS vL)).1
def vSt2 : PSt := (nextS vSt1).1
theorem v_next1 : nextS (newS vL) = (vSt1, ⟨1, 0, 1099511627776, false⟩, 0) := by decide +kernel
theorem v_next2 : nextS vSt1 = (vSt2, ⟨0, 1099511627776, 2199023255552, true⟩, 0) := by decide +kernel
theorem v_load : loadS vSt2 = (2, 1) := by decide +kernel
theorem v_ok0 : StOk 1 (newS vL) := newS_ok (by decide) (by decide)
theorem v_ok1 : StOk 1 vSt1 := nextS_ok v_ok0
theorem v_ok2 : StOk 1 vSt2 := nextS_ok v_ok1

set_option maxRecDepth 100000 in
set_option maxHeartbeats 4000000 in
theorem far23 (w W : World) (p : Nat) (h : Many w W [(uSt 0, p)]) : Calls Try.prog 23 #[.pointer (some ⟨p, 0, none⟩)] W fun e W' => e = .returned (.bool true) ∧ Below w.heap.size w W' := by
  have H := Lib.hid h
  clear h
  go_enter Try.func23, Try.ntmps23
  go_wp2_with fail
  have hun := until_many H.out (i := 0) rfl 70000 far_ok (by omega)
  obtain ⟨xs, hxs, hxl, hx5⟩ : ∃ xs : List PSlot, untilS (uSt 0) 70000 = (uSt 65536, xs) ∧ xs.length = 65536 ∧ ∀ h : 65535 < xs.length, xs[65535] = ⟨1, 65535, 65536, false⟩ := by
    refine ⟨_, u_until, by rw [List.length_map, List.length_range], fun h => ?_⟩
    rw [List.getElem_map, List.getElem_range]
    rfl
  rw [hxs] at hun
  have hnow : (uSt 65536).now = 65536 := rfl
  obtain ⟨us, hus⟩ : ∃ us, uSt 65536 = us := ⟨_, rfl⟩
  rw [hus] at hun hnow
  have HX5 := Lib.hid hx5
  have HXL := Lib.hid hxl
  clear hxs hus hx5
  refine hun.mono ?_
  rintro e W1 ⟨v, rfl, hown, hM1, _⟩
  obtain ⟨A1, c1, rfl, hrd⟩ := Rd.own hown
  obtain ⟨b, off, hl, rfl, hb, x0, x1, x2, x3⟩ := hrd.slot (k := 65535) (by rw [hxl]; omega)
  rw [HX5.out] at x0 x1 x2 x3
  simp only at x0 x1 x2 x3
  have HM1 := Lib.hid (show Many w W1 [(us, p)] from hM1)
  have hnm := now_many HM1.out (i := 0) rfl
  rw [hnow] at hnm
  have HNM := Lib.hid hnm
  rw [hxl]
  clear hown hM1 hrd hun hxl hnow hnm
  go_wp2_with fail
  refine HNM.out.mono ?_
  rintro e W2 ⟨rfl, rfl⟩
  clear HNM
  go_wp2_with fail
  refine (new_many (HM1.out.alloc _) (l := vL) (by decide) (Rd.tasksNew W2 vL) (by simp) (by decide)).mono ?_
  rintro e W3 ⟨pv, rfl, hM3, _⟩
  have HM3 := Lib.hid (show Many w W3 [(us, p), (newS vL, pv)] from hM3)
  clear hM3
  go_wp2_with fail
  refine (new_many (HM3.out.alloc _) (l := [wT]) (by decide) (Rd.tasksNew W3 [wT]) (by simp) (by decide)).mono ?_
  rintro e W4 ⟨pw, rfl, hM4, _⟩
  have HM4 := Lib.hid (show Many w W4 [(us, p), (newS vL, pv), (wSt 0, pw)] from hM4)
  clear hM4
  go_wp2_with fail
  have hn1 := next_many HM4.out (i := 1) rfl v_ok0 (by omega)
  rw [v_next1] at hn1
  refine hn1.mono ?_
  rintro e W5 ⟨rfl, hM5, _⟩
  have HM5 := Lib.hid (show Many w W5 [(us, p), (vSt1, pv), (wSt 0, pw)] from hM5)
  clear hM5 hn1
  go_wp2_with fail
  refine calls_gen (fun W => Many w W [(us, p), (vSt1, pv), (wSt 0, pw)] ∧ Bk W W5.heap.size 42 (slotCells ⟨1, 0, 1099511627776, false⟩)) ?_ ?_
  · exact ⟨HM5.out.alloc _, Bk.new W5 _ _⟩
  rintro W6 ⟨hM6, hk6⟩
  have hn2 := next_many hM6 (i := 1) rfl v_ok1 (by omega)
  rw [v_next2] at hn2
  refine hn2.mono ?_
  rintro e W7 ⟨rfl, hM7, hkp⟩
  have HM7 := Lib.hid (show Many w W7 [(us, p), (vSt2, pv), (wSt 0, pw)] from hM7)
  have HK7 := Lib.hid (hkp.slots hk6)
  clear hM7 hn2 hM6 hk6 hkp HM5
  go_wp2_with fail
  refine calls_gen (fun W => Many w W [(us, p), (vSt2, pv), (wSt 0, pw)] ∧ Bk W W5.heap.size 42 (slotCells ⟨1, 0, 1099511627776, false⟩) ∧ Bk W W7.heap.size 42 (slotCells ⟨0, 1099511627776, 2199023255552, true⟩)) ?_ ?_
  · exact ⟨HM7.out.alloc _, HK7.out.alloc _, Bk.new W7 _ _⟩
  rintro W8 ⟨hM8, hk8, hj8⟩
  have hld := load_many hM8 (i := 1) rfl v_ok2
  rw [v_load] at hld
  refine hld.mono ?_
  rintro e W9 ⟨rfl, hM9, hkp⟩
  have HM9 := Lib.hid hM9
  have hk9 := hkp.slots hk8
  have hj9 := hkp.slots hj8
  have x0 := hk9.cell 0
  have x1 := hk9.cell 1
  have x2 := hk9.cell 2
  have x3 := hk9.cell 3
  have y0 := hj9.cell 0
  have y1 := hj9.cell 1
  have y2 := hj9.cell 2
  have y3 := hj9.cell 3
  simp at x0 x1 x2 x3 y0 y1 y2 y3
  clear hM9 hld hM8 hk8 hj8 hkp hk9 hj9 HM7 HK7
  go_wp2_with fail
  obtain ⟨ys, hys, hyl, hy1⟩ : ∃ ys : List PSlot, untilS (wSt 0) 1152921504606846981 = (wSt 65536, ys) ∧ ys.length = 65536 ∧ ∀ h : 1 < ys.length, ys[1] = ⟨0, 1099511627776, 1099511627777, false⟩ := by
    refine ⟨_, w_until, by rw [List.length_map, List.length_range], fun h => ?_⟩
    rw [List.getElem_map, List.getElem_range]
    rfl
  have hun := until_many HM9.out (i := 2) rfl 1152921504606846981 far_okW (by omega)
  have hok := untilS_ok 1152921504606846981 far_okW
  rw [hys] at hun hok
  obtain ⟨ws, hws⟩ : ∃ ws, wSt 65536 = ws := ⟨_, rfl⟩
  rw [hws] at hun hok
  have HY1 := Lib.hid hy1
  have HYL := Lib.hid hyl
  have HOK := Lib.hid hok
  clear hys hws hy1 hyl hok
  refine hun.mono ?_
  rintro e W10 ⟨v, rfl, hown, hM10, _⟩
  have HM10 := Lib.hid (show Many w W10 [(us, p), (vSt2, pv), (ws, pw)] from hM10)
  have HO10 := Lib.hid hown
  clear hown hM10 hun
  go_wp2_with fail
  refine (until_many HM10.out (i := 2) rfl 1152921504606846976 HOK.out (by omega)).mono ?_
  rintro e W11 ⟨v2, rfl, _, hM11, hkp⟩
  have HM11 := Lib.hid hM11
  obtain ⟨A2, c2, rfl, hrd⟩ := Rd.own (hkp.row HO10.out (by decide) (by decide) (by decide))
  obtain ⟨b2, off2, hl2, rfl, hb2, u0, u1, u2, u3⟩ := hrd.slot (k := 1) (by rw [HYL.out]; omega)
  rw [HY1.out] at u1
  simp only at u1
  rw [HYL.out]
  clear hM11 hkp hrd u0 u2 u3
  go_wp2_with fail
  go_ret
  exact ⟨rfl, HM11.out.base⟩
end Go.Proofs.Ytcffjobefgecdaa
