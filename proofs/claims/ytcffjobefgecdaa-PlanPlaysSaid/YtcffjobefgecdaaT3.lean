/- What Until and Next tell, in ticks. Plain laws. -/
import Derived.Test.YtcffjobefgecdaaT2
namespace Go.Proofs.Ytcffjobefgecdaa

/-- The stretches of the ticks from n to m. -/
inductive Told (L : List AL) : Nat → Nat → List PSlot → Prop
  | nil {n m : Nat} (h : n ≤ m) (hid : ∀ q, n ≤ q → q < m → Wat L q = none) : Told L n m []
  | cons {n f t m i : Nat} {x : PSlot} {l : List PSlot} (nf : n ≤ f) (hid : ∀ q, n ≤ q → q < f → Wat L q = none) (ft : f < t) (hi : i < L.length) (e1 : x.task = i) (e2 : x.frm = f) (e3 : x.to = t)
      (hr : ∀ q, f ≤ q → q < t → Wat L q = some i) (hl : Told L t m l) : Told L n m (x :: l)
theorem Told.le {L : List AL} {n m : Nat} {l : List PSlot} (h : Told L n m l) : n ≤ m := by
  induction h with
  | nil h _ => exact h
  | cons nf _ ft _ _ _ _ _ _ ih => omega
theorem Told.idle {L : List AL} {k n m : Nat} {l : List PSlot} (h : Told L n m l) (hk : k ≤ n) (hid : ∀ q, k ≤ q → q < n → Wat L q = none) : Told L k m l := by
  cases h with
  | nil h h2 => exact .nil (by omega) fun q h1 h3 => if hq : q < n then hid q h1 hq else h2 q (by omega) h3
  | cons nf h2 ft hi e1 e2 e3 hr hl => exact .cons (by omega) (fun q h1 h3 => if hq : q < n then hid q h1 hq else h2 q (by omega) h3) ft hi e1 e2 e3 hr hl
theorem Told.append {L : List AL} {n m k : Nat} {a b : List PSlot} (h : Told L n m a) (g : Told L m k b) : Told L n k (a ++ b) := by
  induction h with
  | nil h hid => exact g.idle h hid
  | cons nf hid ft hi e1 e2 e3 hr _ ih => exact .cons nf hid ft hi e1 e2 e3 hr (ih g)
theorem Told.len {L : List AL} {n m : Nat} {l : List PSlot} (h : Told L n m l) : l.length ≤ m - n := by
  induction h with
  | nil h hid => simp
  | cons nf hid ft hi e1 e2 e3 hr hl ih => have := hl.le; simp only [List.length_cons]; omega

/-- A stretch whose late is as due tells. -/
def LateOk (L : List AL) (x : PSlot) : Prop := ∃ f i : Nat, ∃ hi : i < (Lat L f).length, x.frm = f ∧ x.task = i ∧ ((Lat L f)[i]).a ≤ f ∧ x.to ≤ f + ((Lat L f)[i]).t.lo - ((Lat L f)[i]).u ∧ (x.late = true → ((Lat L f)[i]).a + ((Lat L f)[i]).t.ev < x.to)

theorem untilGo_ticks {L : List AL} {t : Int} : ∀ (k : Nat) {s : PSt} {n : Nat}, TS L s n → (t - n).toNat ≤ k →
    ∃ m : Nat, n ≤ m ∧ ((m : Int) ≤ t ∨ m = n) ∧ TS L (untilGo t k s).1 m ∧ Told L n m (untilGo t k s).2 ∧ (∀ x ∈ (untilGo t k s).2, LateOk L x) ∧ (∀ q : Nat, m ≤ q → (q : Int) ≤ t → Lat L q = Lat L m ∧ ((q : Int) < t → Wat L q = none)) := by
  intro k
  induction k with
  | zero =>
    intro s n h hk
    refine ⟨n, Nat.le_refl n, .inr rfl, h, .nil (Nat.le_refl n) (fun q h1 h2 => by omega), fun x hx => (nomatch hx), fun q h1 h2 => ?_⟩
    obtain rfl : q = n := by omega
    exact ⟨rfl, fun h3 => by omega⟩
  | succ k ih =>
    intro s n h hk
    by_cases hn : (n : Int) < t
    · rcases stretch_ticks h hn with ⟨e, hts, hid⟩ | ⟨f, x, d, hft, e, hr⟩
      · have hu : untilGo t (k + 1) s = ((stretch s t).1, []) := by
          have : stretch s t = ((stretch s t).1, none) := by rw [← e]
          rw [untilGo, if_pos (by rw [h.now]; exact hn), this]
        rw [hu]
        exact ⟨n, Nat.le_refl n, .inr rfl, hts, .nil (Nat.le_refl n) (fun q h1 h2 => by omega), fun x hx => (nomatch hx), hid⟩
      · have hu : untilGo t (k + 1) s = ((untilGo t k (done (stretch s t).1 (cutAt t (x, d)))).1, cutAt t (x, d) :: (untilGo t k (done (stretch s t).1 (cutAt t (x, d)))).2) := by
          have : stretch s t = ((stretch s t).1, some (x, d)) := by rw [← e]
          rw [untilGo, if_pos (by rw [h.now]; exact hn), this]
        rw [hu]
        obtain ⟨hlt, hle, hy1, hy2⟩ : (f : Int) < (cutAt t (x, d)).to ∧ (cutAt t (x, d)).to ≤ x.to ∧ (cutAt t (x, d)).task = x.task ∧ (cutAt t (x, d)).frm = x.frm := by
          unfold cutAt
          have := hr.lt
          by_cases hc : t < x.to
          · rw [if_pos hc]; exact ⟨hft, by show t ≤ x.to; omega, rfl, rfl⟩
          · rw [if_neg hc]; exact ⟨this, Int.le_refl _, rfl, rfl⟩
        have htt : (cutAt t (x, d)).to ≤ t := cut_to
        obtain ⟨T, hT⟩ : ∃ T : Nat, (cutAt t (x, d)).to = T := ⟨(cutAt t (x, d)).to.toNat, by omega⟩
        have hnx := hr.next _ hy1 hy2 hlt hle
        rw [hT, Int.toNat_natCast] at hnx
        have hnf := hr.nf
        obtain ⟨m, m1, m2, m3, m4, m5, m6⟩ := ih hnx (by omega)
        obtain ⟨i, hi, l1, l2, l3, l4, l5⟩ := hr.lim
        refine ⟨m, by omega, .inl (by omega), m3, ?_, ?_, m6⟩
        · refine .cons (i := i) hnf hr.idle (by omega) (by rwa [Lat_len] at hi) (by rw [hy1, l1]) (by rw [hy2, hr.frm]) hT (fun q h1 h2 => l5 q h1 (by omega)) m4
        · intro y hy
          rcases List.mem_cons.1 hy with rfl | hy
          · refine ⟨f, i, hi, by rw [hy2, hr.frm], by rw [hy1, l1], l3, by omega, fun hlate => ?_⟩
            unfold cutAt at hlate ⊢
            by_cases hc : t < x.to
            · simp only [if_pos hc] at hlate ⊢
              have := of_decide_eq_true hlate
              omega
            · simp only [if_neg hc] at hlate ⊢
              rw [hr.late] at hlate
              have := of_decide_eq_true hlate
              omega
          · exact m5 y hy
    · rw [untilGo, if_neg (by rw [h.now]; exact hn)]
      refine ⟨n, Nat.le_refl n, .inr rfl, h, .nil (Nat.le_refl n) (fun q h1 h2 => by omega), fun x hx => (nomatch hx), fun q h1 h2 => ?_⟩
      obtain rfl : q = n := by omega
      exact ⟨rfl, fun h3 => by omega⟩

theorem TS.later {L : List AL} {s : PSt} {n m : Nat} (h : TS L s n) (hm : n ≤ m) (e : Lat L m = Lat L n) : TS L { s with now := m } m :=
  ⟨rfl, fun x hx => (h.good x hx).mono (by omega), h.abs.trans e.symm⟩

/-- Until: the stretches of all ticks up to one. -/
theorem untilS_ticks {L : List AL} {s : PSt} {n : Nat} (tick : Int) (h : TS L s n) (ht : tick ≤ 1152921504606846976) (hs : tick - n < 65536) :
    ∃ m : Nat, n ≤ m ∧ (m : Int) = max (n : Int) tick ∧ TS L (untilS s tick).1 m ∧ Told L n m (untilS s tick).2 ∧ ∀ x ∈ (untilS s tick).2, LateOk L x := by
  have ht' : (if endT < tick then endT else tick) = tick := by unfold endT; rw [if_neg (by omega)]
  obtain ⟨m, m1, m2, m3, m4, m5, m6⟩ := untilGo_ticks (t := tick) 65536 h (by omega)
  have hlen := m4.len
  unfold untilS
  simp only [ht', mostN]
  rw [if_pos (by omega)]
  simp only
  by_cases hnow : (untilGo tick 65536 s).1.now < tick
  · rw [if_pos hnow]
    have hm := m3.now
    obtain ⟨T, rfl⟩ : ∃ T : Nat, tick = T := ⟨tick.toNat, by omega⟩
    have h6 := m6 T (by omega) (by omega)
    refine ⟨T, by omega, by omega, m3.later (by omega) h6.1, ?_, m5⟩
    have := m4.append (.nil (m := T) (by omega) fun q h1 h2 => (m6 q h1 (by omega)).2 (by omega))
    rwa [List.append_nil] at this
  · rw [if_neg hnow]
    have hm := m3.now
    refine ⟨m, m1, by omega, ?_, m4, m5⟩
    exact m3

theorem nextS_ticks {L : List AL} {s : PSt} {n b c : Nat} (h : TS L s n) (hl : s.l ≠ []) (hnb : n ≤ b) (hn : ∀ y ∈ Lat L n, y.a ≤ b) (he : ∀ m, ∀ y ∈ Lat L m, 0 ≤ y.u ∧ y.t.lo ≤ c) (hb : b + c ≤ 1000000000) :
    ∃ m, n ≤ m ∧ TS L (nextS s).1 m ∧ (nextS s).2.2 = 0 ∧ LateOk L (nextS s).2.1 ∧ Told L n m [(nextS s).2.1] ∧ m ≤ b + c := by
  have hlim : (n : Int) < endT := by unfold endT; omega
  obtain ⟨x0, hx0⟩ : ∃ x, x ∈ Lat L n := by
    rw [← h.abs]
    obtain ⟨x, xs, hx⟩ := List.exists_cons_of_ne_nil hl
    exact ⟨absL x, by rw [hx]; simp⟩
  have h1 := hn x0 hx0
  have hbusy : Lat L b = Lat L n → Wat L b = none → False := by
    intro hsame hq
    obtain ⟨i, hi⟩ := best_exists (q := (b : Int)) (l := Lat L b) ⟨x0, by rw [hsame]; exact hx0, h1⟩
    have h4 := who_best hi
    unfold Wat at hq
    rw [hq] at h4
    cases h4
  unfold nextS
  rw [if_neg hl]
  rcases stretch_ticks h hlim with ⟨e, hts, hid⟩ | ⟨f, x, d, hft, e, hr⟩
  · exfalso
    have h0 := hid b hnb (by unfold endT; omega)
    exact hbusy h0.1 (h0.2 (by unfold endT; omega))
  · have : stretch s endT = ((stretch s endT).1, some (x, d)) := by rw [← e]
    rw [this]
    simp only
    obtain ⟨i, hi, l1, l2, l3, l4, l5⟩ := hr.lim
    have hu := he f _ (List.getElem_mem hi)
    have hfb : f ≤ b := by
      by_cases hf : f ≤ b
      · exact hf
      · exfalso
        exact hbusy (same_idle hnb fun q h1 h2 => hr.idle q h1 (by omega)) (hr.idle b hnb (by omega))
    have hto : x.to ≤ b + c := by omega
    rw [if_neg (by unfold endT; omega)]
    have hlt := hr.lt
    obtain ⟨T, hT⟩ : ∃ T : Nat, x.to = T := ⟨x.to.toNat, by omega⟩
    have hnx := hr.next x rfl rfl hlt (Int.le_refl _)
    rw [hT, Int.toNat_natCast] at hnx
    have hnf := hr.nf
    refine ⟨T, by omega, hnx, rfl, ?_, ?_, by omega⟩
    · exact ⟨f, i, hi, hr.frm, l1, l3, l4, fun hlate => by
        have hlate' : x.late = true := hlate
        rw [hr.late] at hlate'
        have := of_decide_eq_true hlate'
        show _ < x.to
        omega⟩
    · exact .cons (i := i) hnf hr.idle (by omega) (by rwa [Lat_len] at hi) l1 hr.frm hT (fun q h1 h2 => l5 q h1 (by omega)) (.nil (Nat.le_refl _) fun q h1 h2 => by omega)
end Go.Proofs.Ytcffjobefgecdaa
