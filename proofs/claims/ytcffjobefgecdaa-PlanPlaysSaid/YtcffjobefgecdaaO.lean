/- The walk of wakes: what the document says of two tasks. -/
import Derived.Test.YtcffjobefgecdaaX
import Derived.Test.YtcffjobefgecdaaL
import Derived.Test.YtcffjobefgecdaaN
namespace Go.Proofs.Ytcffjobefgecdaa
open Go.RowKit

abbrev wkL : List PTask := [⟨4, 1, 0⟩, ⟨6, 2, 0⟩]
def wk0 : PSt := newS wkL
def wk1 : PSt := ⟨[⟨⟨4, 1, 0⟩, 4, [], 0⟩, ⟨⟨6, 2, 0⟩, 6, [⟨⟨6, 2, 0⟩, 0, 1⟩], 2⟩], 1⟩
def wk2 : PSt := ⟨[⟨⟨4, 1, 0⟩, 8, [], 0⟩, ⟨⟨6, 2, 0⟩, 12, [⟨⟨6, 2, 0⟩, 6, 1⟩], 1⟩], 7⟩
def wk3 : PSt := (setS wk2 0 ⟨9, 2, 0⟩).1
theorem wk_new : newR wkL = 0 := by decide
theorem wk_next : nextS wk0 = (wk1, ⟨0, 0, 1, false⟩, 0) := by decide
theorem wk_until : untilS wk1 7 = (wk2, [⟨1, 1, 3, false⟩, ⟨0, 4, 5, false⟩, ⟨1, 6, 7, false⟩]) := by decide +kernel
theorem wk_load : loadS wk2 = (7, 12) := by decide +kernel
theorem wk_set : (setS wk2 0 ⟨9, 2, 0⟩).2 = 0 := by decide
theorem wk_set2 : (setS wk3 2 ⟨1, 1, 0⟩).2 = 240 := by decide
theorem wk_now : wk3.now = 7 := by decide
theorem wk_ok0 : StOk 1 wk0 := newS_ok (by decide) (by decide)
theorem wk_ok1 : StOk 1 wk1 := by have := nextS_ok wk_ok0; rw [wk_next] at this; exact this
theorem wk_ok2 : StOk 1 wk2 := by have := untilS_ok 7 wk_ok1; rw [wk_until] at this; exact this
theorem wk_ok3 : StOk 2 wk3 := setS_ok 0 ⟨9, 2, 0⟩ wk_ok2

theorem Rd.tasksNew (w : World) (l : List PTask) : Rd (w.alloc (.cells (tasksL l).toArray 26)) (w.heap.size + 1) 3 (some ⟨w.heap.size, 0, none⟩) l.length (tasksL l) :=
  ⟨tasksL_len l, fun _ => ⟨w.heap.size, 0, rfl, Nat.lt_succ_self _, fun j u hu => by
    rw [(Bk.new w 26 (tasksL l).toArray).cell, Nat.zero_add]
    simpa using hu⟩⟩

theorem below_to' {B : Nat} {w w1 w2 : World} (h : Below B w w1) (h2 : Below B w1 w2) : Below B w w2 := h.trans h2
@[go_sem] theorem eqS_self (a b c : Int) (d : Bool) : eqS a b c a b c d d = true := by simp [eqS]
theorem Bk.relI {W W' : World} {p bl cap : Nat} {G : Nat → Value} {s s' : PSt} {b : Nat} {cs : Array Value} (hk : Bk W b 42 cs) (hp : PlanAt W p bl cap G s) (hl : s'.l.length = s.l.length) (hr : RelI W p bl cap G s' W') : Bk W' b 42 cs :=
  hr.fr.bk hk (by rw [hl]; exact hp.not_own hk (by decide) (by decide) (by decide))
/-- A plan of the call's own. -/
def Mine (w : World) (s : PSt) (p : Nat) (W : World) : Prop := ∃ bl cap G, PlanAt W p bl cap G s ∧ (∀ x, own p bl G s.l.length x → w.heap.size ≤ x) ∧ Below w.heap.size w W
theorem Mine.below {w W W' : World} {s : PSt} {p : Nat} (h : Mine w s p W) (hb : Below W.heap.size W W') : Mine w s p W' := by
  obtain ⟨bl, cap, G, h1, h2, h3⟩ := h
  exact ⟨bl, cap, G, h1.below hb, h2, below_to h3 hb h3.size⟩
theorem Mine.rel {w W W' : World} {s s' : PSt} {p bl cap : Nat} {G : Nat → Value} (h2 : ∀ x, own p bl G s.l.length x → w.heap.size ≤ x) (h3 : Below w.heap.size w W) (hl : s'.l.length = s.l.length) (hr : RelI W p bl cap G s' W') : Mine w s' p W' := by
  obtain ⟨⟨G', hp, ho⟩, hf⟩ := hr
  have hz := h3.size
  rw [hl] at hf
  have hs := fun x hx => (ho x hx)
  refine ⟨bl, cap, G', hp, fun x hx => ?_, below_to' h3 (hf.below (B := w.heap.size) h2 hz)⟩
  rcases hs x hx with h | h
  · rw [hl] at h; exact h2 x h
  · omega
theorem Mine.relX {w W W' : World} {s s' : PSt} {p bl : Nat} {G : Nat → Value} (h2 : ∀ x, own p bl G s.l.length x → w.heap.size ≤ x) (h3 : Below w.heap.size w W) (hl : s'.l.length = s.l.length) (hr : RelX W p bl G s' W') : Mine w s' p W' := by
  obtain ⟨bl', cap', G', hp, ho, hf⟩ := hr
  have hz := h3.size
  rw [hl] at hf
  refine ⟨bl', cap', G', hp, fun x hx => ?_, below_to' h3 (hf.below (B := w.heap.size) h2 hz)⟩
  rcases ho x hx with h | h
  · rw [hl] at h; exact h2 x h
  · omega

set_option maxHeartbeats 4000000 in
theorem wakes9 (w : World) : Calls Try.prog 9 #[] w fun e w' => e = .returned (.bool true) ∧ Below w.heap.size w w' := by
  go_enter Try.func9, Try.ntmps9
  go_wp2_with fail
  refine (new10 (w.heap.size + 1) _ 2 wkL _ (Rd.tasksNew w wkL) (by simp) (by decide)).mono ?_
  rintro e W1 ⟨hb1, ⟨h, _⟩ | ⟨_, p, bl, hp0, hbl0, rfl, hp1⟩⟩
  · exact absurd wk_new h
  have M1 : Mine w wk0 p W1 := ⟨bl, 2, _, hp1, fun x hx => by
    rcases hx with rfl | rfl | ⟨i, _, hx⟩
    · have : (w.alloc (.cells (tasksL wkL).toArray 26)).heap.size = w.heap.size + 1 := by simp
      have := hp0
      simp at this
      omega
    · have := hbl0
      simp at this
      omega
    · simp [blkOf] at hx, (((Below.refl _ _).alloc (Nat.le_refl _) _).trans (hb1.mono (by simp)))⟩
  clear hp1 hb1 hp0 hbl0
  have HM1 := Lib.hid M1
  clear M1
  go_wp2_with fail
  obtain ⟨bl1, cap1, G1, hp, ho, hb⟩ := HM1.out
  refine (next17 p bl1 cap1 1 G1 wk0 W1 hp wk_ok0 (by omega)).mono ?_
  rintro e W2 ⟨rfl, hr⟩
  rw [wk_next] at hr ⊢
  dsimp only at hr ⊢
  have HM2 := Lib.hid (Mine.relX (s := wk0) (s' := wk1) ho hb (by decide) hr)
  clear hr hp ho hb
  go_wp2_with fail
  refine calls_gen (fun W => Mine w wk1 p W ∧ Bk W W2.heap.size 42 (slotCells ⟨0, 0, 1, false⟩)) ?_ ?_
  · exact ⟨HM2.out.below ((Below.refl _ _).alloc (Nat.le_refl _) _), Bk.new W2 _ _⟩
  rintro W3 ⟨M3, hk3⟩
  obtain ⟨bl3, cap3, G3, hp, ho, hb⟩ := M3
  refine (until18 p bl3 cap3 1 G3 wk1 7 W3 hp wk_ok1 (by omega)).mono ?_
  rintro e W4 ⟨v, rfl, hown, hr⟩
  rw [wk_until] at hown hr
  dsimp only at hown hr
  have hk4 := hk3.relI (s' := wk2) hp (by decide) hr
  have HM4 := Lib.hid (Mine.rel (s := wk1) (s' := wk2) ho hb (by decide) hr)
  have HK4 := Lib.hid hk4
  have HO4 := Lib.hid hown
  clear hr hp ho hb hk3 hk4 hown
  go_wp2_with fail
  obtain ⟨bl4, cap4, G4, hp, ho, hb⟩ := HM4.out
  refine (load13 p bl4 cap4 1 G4 wk2 W4 hp wk_ok2).mono ?_
  rintro e W5 ⟨rfl, q5, rfl⟩
  rw [wk_load]
  dsimp only
  have HM5 := Lib.hid (⟨bl4, cap4, G4, hp.drewN q5, ho, ⟨hb.os, hb.tape, hb.output, hb.size, hb.block⟩⟩ : Mine w wk2 p (W4.drewN q5))
  clear hp ho hb
  go_wp2_with fail
  obtain ⟨bl5, cap5, G5, hp, ho, hb⟩ := HM5.out
  refine (set19 p bl5 cap5 1 G5 wk2 0 ⟨9, 2, 0⟩ (W4.drewN q5) hp wk_ok2 (by omega) (by omega) (by omega)).mono ?_
  rintro e W6 ⟨rfl, hr⟩
  rw [wk_set]
  have hr' : RelI (W4.drewN q5) p bl5 cap5 G5 wk3 W6 := hr
  have hk6 := (HK4.out.drewN q5).relI (s' := wk3) hp (by decide) hr'
  have ho6 := RelI.row (s2 := wk3) hp (by decide) hr' (show (W4.drewN q5).ownsRow W3.heap.size 42 4 v _ _ from HO4.out)
  have HM6 := Lib.hid (Mine.rel (s := wk2) (s' := wk3) ho hb (by decide) hr')
  clear hr hr' hp ho hb
  obtain ⟨A6, c6, rfl, hrd⟩ := Rd.own ho6
  obtain ⟨b6, o6, rfl, hlt6, hc6⟩ := hrd.2 (by decide)
  have x0 := hc6 0 _ rfl
  have x1 := hc6 1 _ rfl
  have x2 := hc6 2 _ rfl
  have x3 := hc6 3 _ rfl
  have x8 := hc6 8 _ rfl
  have x9 := hc6 9 _ rfl
  have x10 := hc6 10 _ rfl
  have x11 := hc6 11 _ rfl
  have y0 := hk6.cell 0
  have y1 := hk6.cell 1
  have y2 := hk6.cell 2
  have y3 := hk6.cell 3
  simp at x0 y0 y1 y2 y3
  clear hc6 hrd ho6 hk6
  go_wp2_with fail
  obtain ⟨bl7, cap7, G7, hp, ho, hb⟩ := HM6.out
  refine (now15 p bl7 cap7 G7 wk3 W6 hp).mono ?_
  rintro e W7 ⟨rfl, rfl⟩
  rw [wk_now]
  clear hp ho hb
  go_wp2_with fail
  obtain ⟨bl8, cap8, G8, hp, ho, hb⟩ := HM6.out
  refine (set19 p bl8 cap8 2 G8 wk3 2 ⟨1, 1, 0⟩ _ hp wk_ok3 (by omega) (by omega) (by omega)).mono ?_
  rintro e W8 ⟨rfl, hr⟩
  rw [wk_set2]
  have HM8 := Lib.hid (Mine.rel (s := wk3) (s' := (setS wk3 2 ⟨1, 1, 0⟩).1) ho hb (by decide) hr)
  clear hr hp ho hb
  go_wp2_with fail
  go_ret
  obtain ⟨_, _, _, _, _, hb⟩ := HM8.out
  exact ⟨rfl, hb⟩
end Go.Proofs.Ytcffjobefgecdaa
