/- The document's plan called, whole: with tasks or without. -/
import Derived.Test.YtcffjobefgecdaaRx
import Derived.Test.YtcffjobefgecdaaRw
import Derived.Test.YtcffjobefgecdaaRp
import Derived.Test.YtcffjobefgecdaaMa
namespace Go.Proofs.Ytcffjobefgecdaa.Ref
open Go.RowKit

theorem untilGo_cnt (t : Int) : ∀ (m : Nat) (s : PSt), (untilGo t m s).2.length ≤ m
  | 0, _ => Nat.le_refl _
  | m + 1, s => by
    rw [untilGo]
    split
    · generalize stretch s t = st
      obtain ⟨s', o⟩ := st
      cases o with
      | none => simp
      | some x =>
        have := untilGo_cnt t m (done s' (cutAt t x))
        show (cutAt t x :: (untilGo t m (done s' (cutAt t x))).2).length ≤ m + 1
        simp
        omega
    · simp
theorem untilS_cnt (s : PSt) (tick : Int) : (untilS s tick).2.length ≤ 65536 := by
  have := untilGo_cnt (if endT < tick then endT else tick) mostN s
  unfold untilS
  simp only
  generalize (if endT < tick then endT else tick) = t at *
  split
  · exact this
  · exact this
theorem untilS_e (s : PSt) (tick : Int) (h : s.l = []) : untilS s tick = ({ s with now := if s.now < (if endT < tick then endT else tick) then (if endT < tick then endT else tick) else s.now }, []) := by
  obtain ⟨l, now⟩ := s
  obtain rfl : l = [] := h
  unfold untilS
  simp only
  generalize (if endT < tick then endT else tick) = t
  have hu : untilGo t mostN ⟨[], now⟩ = (⟨[], now⟩, []) := by
    by_cases hn : now < t
    · show untilGo t (65535 + 1) ⟨[], now⟩ = _
      have hs : stretch ⟨[], now⟩ t = (⟨[], now⟩, none) := by
        have hf : ¬ (0 : Int) ≤ (firstJ (release now ⟨[], now⟩).l).task := by simp [release, firstJ, firstTo]
        have hm : minTo (release now ⟨[], now⟩).l t (release now ⟨[], now⟩).l.length = t := by simp [release, minTo]
        unfold stretch
        rw [if_neg hf, if_pos hm]
        rfl
      exact untilGo_none (s := ⟨[], now⟩) hn hs
    · exact untilGo_stop hn
  rw [hu]
  simp [mostN]
set_option maxRecDepth 100000 in
set_option maxHeartbeats 4000000 in
theorem until29_e (p : Nat) (now tick t : Int) (ht : (if (1152921504606846976 : Int) < tick then 1152921504606846976 else tick) = t) (w : World) (h : Bk w p 71 #[.slice none 0 0, .int .i64 now]) :
    Calls Try.prog 29 #[.pointer (some ⟨p, 0, none⟩), .int .i64 tick] w fun e w' => e = .returned (.slice none 0 0) ∧ w' = w.setCell ⟨p, 1, none⟩ (.int .i64 (if now < t then t else now)) := by
  have d0 := h.cell 0
  have d1 := h.cell 1
  have z1 := h.frozen 1
  simp at d0 d1
  clear h
  go_enter Try.func29, Try.ntmps29
  go_upto_region 4 with fail
  clear ht
  go_wp2_with fail
  go_loopg [6, 7, 8, 9] 0 (fun _ v _ _ _ wr => v = .slice none 0 0 ∧ wr = w)
  case atStart => exact ⟨rfl, rfl⟩
  case round =>
    obtain ⟨rfl, rfl⟩ := hrel
    by_cases hmx : now < t
    · go_wp2_with fail
      go_ret
      exact ⟨rfl, rfl⟩
    · have hmx' : t ≤ now := by omega
      go_wp2_with fail
      go_ret
      exact ⟨rfl, rfl⟩

/-- What is no document's plan's stays. -/
def KR (B : Nat) (W W' : World) : Prop := Below B W W' ∧ ∀ g t cs, t ≠ 71 → t ≠ 74 → t ≠ 108 → Bk W g t cs → Bk W' g t cs
theorem KR.below {B : Nat} {W W' : World} (h : Below W.heap.size W W') (hB : B ≤ W.heap.size) : KR B W W' := ⟨h.mono hB, fun _ _ _ _ _ _ hb => hb.below h hb.lt⟩
theorem RefAt.size {B q : Nat} {W : World} {s : PSt} (h : RefAt B W q s) : B ≤ W.heap.size := by
  obtain ⟨h0, ⟨_, h1⟩ | ⟨_, bl, cap, G, h1, _⟩⟩ := h
  · have := h1.lt; omega
  · have := h1.lt q (.inl rfl); omega
theorem ref_typed {W : World} {p bl cap : Nat} {G : Nat → Value} {s : PSt} (h : PlanAt W p bl cap G s) : ∀ g, own p bl G s.l.length g → ∃ t cs, (t = 71 ∨ t = 74 ∨ t = 108) ∧ Bk W g t cs := by
  rintro g (rfl | rfl | ⟨i, hi, hx⟩)
  · exact ⟨71, _, .inl rfl, h.hp⟩
  · obtain ⟨cs, hb, _⟩ := h.hb
    exact ⟨74, cs, .inr (.inl rfl), hb⟩
  · obtain ⟨_, ds, hd⟩ := (h.hw i hi).lt g hx
    exact ⟨108, ds, .inr (.inr rfl), hd⟩
theorem RefAt.keep {B q : Nat} {W W' : World} {s : PSt} (h : RefAt B W q s) (hk : ∀ g t cs, (t = 71 ∨ t = 74 ∨ t = 108) → Bk W g t cs → Bk W' g t cs) : RefAt B W' q s := by
  obtain ⟨h0, ⟨h2, h1⟩ | ⟨h2, bl, cap, G, h1, h3⟩⟩ := h
  · exact ⟨h0, .inl ⟨h2, hk _ _ _ (.inl rfl) h1⟩⟩
  · refine ⟨h0, .inr ⟨h2, bl, cap, G, h1.keep fun g hg => ?_, h3⟩⟩
    obtain ⟨t, cs, ht, hb⟩ := ref_typed h1 g hg
    exact (hk g t cs ht hb).trans hb.symm
theorem RefAt.below {B q : Nat} {W W' : World} {s : PSt} (h : RefAt B W q s) (hb : Below W.heap.size W W') : RefAt B W' q s := h.keep fun _ _ _ _ hk => hk.below hb hk.lt
theorem RefAt.kp {B q : Nat} {W W' : World} {s : PSt} (h : RefAt B W q s) (hk : Kp W W') : RefAt B W' q s := h.keep fun g t cs ht hb => hk.2 g t cs (by rcases ht with rfl | rfl | rfl <;> decide) (by rcases ht with rfl | rfl | rfl <;> decide) (by rcases ht with rfl | rfl | rfl <;> decide) hb
theorem plan_typed {W : World} {p bl cap : Nat} {G : Nat → Value} {s : PSt} (h : Ytcffjobefgecdaa.PlanAt W p bl cap G s) : ∀ g, own p bl G s.l.length g → ∃ t cs, (t = 64 ∨ t = 68 ∨ t = 102) ∧ Bk W g t cs := by
  rintro g (rfl | rfl | ⟨i, hi, hx⟩)
  · exact ⟨64, _, .inl rfl, h.hp⟩
  · obtain ⟨cs, hb, _⟩ := h.hb
    exact ⟨68, cs, .inr (.inl rfl), hb⟩
  · obtain ⟨_, ds, hd⟩ := (h.hw i hi).lt g hx
    exact ⟨102, ds, .inr (.inr rfl), hd⟩
theorem many_keep {w W W' : World} {ps : List (PSt × Nat)} (h : Many w W ps) (hb : Below w.heap.size W W') (hk : ∀ g t cs, (t = 64 ∨ t = 68 ∨ t = 102) → Bk W g t cs → Bk W' g t cs) : Many w W' ps := by
  obtain ⟨h0, E, h1, h2⟩ := h
  refine ⟨h0.trans hb, E, fun i s p hi => ?_, h2⟩
  obtain ⟨hp, ho⟩ := h1 i s p hi
  refine ⟨hp.keep fun g hg => ?_, ho⟩
  obtain ⟨t, cs, ht, hbk⟩ := plan_typed hp g hg
  exact (hk g t cs ht hbk).trans hbk.symm
theorem many_kr {w W W' : World} {ps : List (PSt × Nat)} (h : Many w W ps) (hk : KR w.heap.size W W') : Many w W' ps :=
  many_keep h hk.1 fun g t cs ht hb => hk.2 g t cs (by rcases ht with rfl | rfl | rfl <;> decide) (by rcases ht with rfl | rfl | rfl <;> decide) (by rcases ht with rfl | rfl | rfl <;> decide) hb
theorem RelX.kr {B : Nat} {W W' : World} {p bl cap : Nat} {G : Nat → Value} {s s' : PSt} (hp : PlanAt W p bl cap G s) (ho : ∀ x, own p bl G s.l.length x → B ≤ x) (hl : s'.l.length = s.l.length) (h : RelX W p bl G s' W') (h0 : 0 < s.l.length) :
    RefAt B W' p s' ∧ KR B W W' := by
  obtain ⟨bl', cap', G', h1, h2, h3⟩ := h
  rw [hl] at h2 h3
  have hB : B ≤ W.heap.size := by have := ho p (.inl rfl); have := hp.lt p (.inl rfl); omega
  refine ⟨⟨ho p (.inl rfl), .inr ⟨by omega, bl', cap', G', h1, fun x hx => ?_⟩⟩, h3.below ho hB, fun g t cs t1 t2 t3 hb => h3.bk hb (hp.not_own hb t1 t2 t3)⟩
  rw [hl] at hx
  rcases h2 x hx with h | h
  · exact ho x h
  · omega
theorem RelI.toX {W W' : World} {p bl cap : Nat} {G : Nat → Value} {s : PSt} (h : RelI W p bl cap G s W') : RelX W p bl G s W' := by
  obtain ⟨⟨G', hp, ho⟩, hf⟩ := h
  exact ⟨bl, cap, G', hp, ho, hf⟩

section
variable {B q K : Nat} {W : World} {s : PSt}
theorem ref_next (h : RefAt B W q s) (hok : StOk K s) (hK : K ≤ 1000000000) :
    Calls Try.prog 27 #[.pointer (some ⟨q, 0, none⟩)] W fun e W' => e = .returned (.tuple #[slotV (nextS s).2.1, .int .i64 (nextS s).2.2]) ∧ RefAt B W' q (nextS s).1 ∧ KR B W W' := by
  have hB := h.size
  have h' := h
  obtain ⟨h0, ⟨h2, h1⟩ | ⟨h2, bl, cap, G, h1, h3⟩⟩ := h
  · have e : nextS s = (s, ⟨0, 0, 0, false⟩, 240) := by unfold nextS; rw [if_pos h2]
    rw [e]
    refine (next27_e q s.now W h1).mono ?_
    rintro _ W' ⟨rfl, hb⟩
    exact ⟨rfl, h'.below hb, KR.below hb hB⟩
  · refine (next27 q bl cap K G s W h1 hok hK h2).mono ?_
    rintro _ W' ⟨rfl, hr⟩
    exact ⟨rfl, RelX.kr h1 h3 (nextS_len hok) hr h2⟩
theorem ref_set (h : RefAt B W q s) (task : Int) (t : PTask) (hok : StOk K s) (hK : K ≤ 1000000000) (ht0 : -9223372036854775808 ≤ task) (ht1 : task ≤ 9223372036854775807) :
    Calls Try.prog 28 #[.pointer (some ⟨q, 0, none⟩), .int .i64 task, taskV t] W fun e W' => e = .returned (.int .i64 (setS s task t).2) ∧ RefAt B W' q (setS s task t).1 ∧ KR B W W' := by
  have hB := h.size
  have h' := h
  obtain ⟨h0, ⟨h2, h1⟩ | ⟨h2, bl, cap, G, h1, h3⟩⟩ := h
  · have e : setS s task t = (s, 240) := by
      unfold setS
      rw [if_pos]
      rw [h2]
      simp
      omega
    rw [e]
    refine (set28_e q s.now task t W h1).mono ?_
    rintro _ W' ⟨rfl, hb⟩
    exact ⟨rfl, h'.below hb, KR.below hb hB⟩
  · refine (set28 q bl cap K G s task t W h1 hok hK ht0 ht1).mono ?_
    rintro _ W' ⟨rfl, hr⟩
    exact ⟨rfl, RelX.kr h1 h3 (setS_len s task t) (RelI.toX hr) h2⟩
theorem ref_load (h : RefAt B W q s) (hok : StOk K s) :
    Calls Try.prog 14 #[.pointer (some ⟨q, 0, none⟩)] W fun e W' => e = .returned (.tuple #[.int .i64 (loadS s).1, .int .i64 (loadS s).2]) ∧ Below W.heap.size W W' := by
  obtain ⟨h0, ⟨h2, h1⟩ | ⟨h2, bl, cap, G, h1, h3⟩⟩ := h
  · have e : loadS s = (0, 1) := by
      unfold loadS
      rw [h2]
      rfl
    rw [e]
    exact load14_e q s.now W h1
  · exact load14 q bl cap K G s W h1 hok
theorem ref_now (h : RefAt B W q s) : Calls Try.prog 16 #[.pointer (some ⟨q, 0, none⟩)] W fun e W' => e = .returned (.int .i64 s.now) ∧ W' = W := by
  obtain ⟨h0, ⟨h2, h1⟩ | ⟨h2, bl, cap, G, h1, h3⟩⟩ := h
  · exact now16_e q s.now W h1
  · exact now16 q bl cap G s W h1
def ruPost (B : Nat) (W : World) (q : Nat) (r : PSt × List PSlot) (e : Ending) (W' : World) : Prop :=
  ∃ v, e = .returned v ∧ W'.ownsRow W.heap.size 42 4 v r.2.length (slotsL r.2) ∧ RefAt B W' q r.1 ∧ KR B W W'
theorem ref_until (h : RefAt B W q s) (tick : Int) (hok : StOk K s) (hK : K ≤ 1000000000) :
    Calls Try.prog 29 #[.pointer (some ⟨q, 0, none⟩), .int .i64 tick] W (ruPost B W q (untilS s tick)) := by
  have hB := h.size
  obtain ⟨h0, ⟨h2, h1⟩ | ⟨h2, bl, cap, G, h1, h3⟩⟩ := h
  · rw [untilS_e s tick h2]
    refine (until29_e q s.now tick (if endT < tick then endT else tick) rfl W h1).mono ?_
    generalize (if s.now < (if endT < tick then endT else tick) then (if endT < tick then endT else tick) else s.now) = y
    rintro _ W' ⟨rfl, rfl⟩
    refine ⟨_, rfl, World.ownsRow_nil _ _ _ _, ⟨h0, .inl ⟨h2, by simpa using h1.put 1 _⟩⟩, (Below.refl _ _).setCell (p := ⟨q, 1, none⟩) h0 _, fun g t cs t1 t2 t3 hb => ?_⟩
    refine hb.far (p := ⟨q, 1, none⟩) ?_ _
    rintro rfl
    unfold Bk at hb h1
    rw [h1] at hb
    injection hb with hb
    injection hb with _ hb
    exact t1 hb.symm
  · refine (until29 q bl cap K G s tick W h1 hok hK h2).mono ?_
    rintro _ W' ⟨v, rfl, ho, hr⟩
    obtain ⟨r1, r2⟩ := RelX.kr h1 h3 (untilS_len tick hok) (RelI.toX hr) h2
    exact ⟨v, rfl, ho, r1, r2⟩
end
end Go.Proofs.Ytcffjobefgecdaa.Ref
