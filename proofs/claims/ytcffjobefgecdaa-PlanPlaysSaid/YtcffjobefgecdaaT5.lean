/- What Load tells: at most one means that all tasks together take at most the whole. Plain laws. -/
import Derived.Test.YtcffjobefgecdaaT4
import Derived.Test.YtcffjobefgecdaaL
namespace Go.Proofs.Ytcffjobefgecdaa

/-- A common multiple of all Everys. -/
def comM : List PTask → Nat
  | [] => 1
  | t :: l => t.ev.toNat * comM l
theorem comM_pos {l : List PTask} (h : ∀ t ∈ l, 1 ≤ t.ev) : 0 < comM l := by
  induction l with
  | nil => exact Nat.one_pos
  | cons t l ih =>
    have h1 := h t (.head _)
    exact Nat.mul_pos (by omega) (ih fun t ht => h t (.tail _ ht))
theorem comM_dvd {l : List PTask} {t : PTask} (h : t ∈ l) : t.ev.toNat ∣ comM l := by
  induction l with
  | nil => cases h
  | cons a l ih =>
    rcases List.mem_cons.1 h with rfl | h
    · exact Nat.dvd_mul_right _ _
    · exact Nat.dvd_trans (ih h) (Nat.dvd_mul_left _ _)
/-- The first k tasks' shares of a common multiple. -/
def shareTo (M : Nat) (l : List PLine) : Nat → Nat
  | 0 => 0
  | k + 1 => match l[k]? with
    | some x => shareTo M l k + x.t.lo.toNat * (M / x.t.ev.toNat)
    | none => shareTo M l k

theorem loadStep_share {n d n' d' M S : Nat} {t : PTask} (h : loadStep n d t = some (n', d')) (he : 1 ≤ t.ev) (hd : 1 ≤ d) (hM : t.ev.toNat ∣ M) (hS : S * d = n * M) :
    (S + t.lo.toNat * (M / t.ev.toNat)) * d' = n' * M := by
  unfold loadStep at h
  simp only at h
  split at h
  · injection h with h
    injection h with h1 h2
    have hev : 1 ≤ t.ev.toNat := by omega
    generalize t.ev.toNat = ev at *
    generalize t.lo.toNat = lo at *
    have hg : 0 < Nat.gcd d ev := Nat.gcd_pos_of_pos_left _ hd
    obtain ⟨dg, hdg⟩ := Nat.gcd_dvd_left d ev
    obtain ⟨eg, heg⟩ := Nat.gcd_dvd_right d ev
    generalize Nat.gcd d ev = g at *
    have e1 : d / g = dg := by rw [hdg]; exact Nat.mul_div_cancel_left _ hg
    have e2 : ev / g = eg := by rw [heg]; exact Nat.mul_div_cancel_left _ hg
    rw [e1, e2] at h1 h2
    have hp : 0 < dg * ev := by
      refine Nat.mul_pos ?_ hev
      rcases Nat.eq_zero_or_pos dg with h0 | h0
      · rw [h0, Nat.mul_zero] at hdg; omega
      · exact h0
    obtain ⟨c, hc⟩ := hM
    rw [hc, Nat.mul_div_cancel_left _ hev]
    have hg2 : 0 < Nat.gcd (dg * ev) (n * eg + lo * dg) := Nat.gcd_pos_of_pos_left _ hp
    obtain ⟨p, hp1⟩ := Nat.gcd_dvd_left (dg * ev) (n * eg + lo * dg)
    obtain ⟨q, hq1⟩ := Nat.gcd_dvd_right (dg * ev) (n * eg + lo * dg)
    generalize Nat.gcd (dg * ev) (n * eg + lo * dg) = G at *
    rw [hp1, Nat.mul_div_cancel_left _ hg2] at h2
    rw [hq1, Nat.mul_div_cancel_left _ hg2] at h1
    subst h1 h2
    -- (S + lo * c) * p = q * (ev * c); G * p = dg * ev, G * q = n * eg + lo * dg, S * d = n * ev * c
    have key : (S + lo * c) * (dg * ev) * g = (n * eg + lo * dg) * (ev * c) * g := by
      have a1 : S * (dg * ev) * g = n * (ev * c) * ev := by
        rw [← hc]
        calc S * (dg * ev) * g = S * (g * dg) * ev := by rw [Nat.mul_assoc S, Nat.mul_assoc S]; congr 1; rw [Nat.mul_comm (dg * ev) g, Nat.mul_assoc]
          _ = S * d * ev := by rw [← hdg]
          _ = n * M * ev := by rw [hS]
      have a2 : n * eg * (ev * c) * g = n * (ev * c) * ev := by
        calc n * eg * (ev * c) * g = n * (ev * c) * (g * eg) := by
              rw [Nat.mul_assoc n eg, Nat.mul_assoc n, Nat.mul_assoc n]; congr 1
              rw [Nat.mul_comm eg (ev * c), Nat.mul_assoc, Nat.mul_comm eg g]
          _ = n * (ev * c) * ev := by rw [← heg]
      have a3 : lo * c * (dg * ev) * g = lo * dg * (ev * c) * g := by
        congr 1
        rw [Nat.mul_assoc lo, Nat.mul_assoc lo]
        congr 1
        rw [Nat.mul_comm c (dg * ev), Nat.mul_assoc]
      rw [Nat.add_mul, Nat.add_mul, a1, a3, Nat.add_mul, Nat.add_mul, a2]
    have key2 : (S + lo * c) * (G * p) = (G * q) * (ev * c) := by
      rw [← hp1, ← hq1]
      exact Nat.eq_of_mul_eq_mul_right hg key
    refine Nat.eq_of_mul_eq_mul_left hg2 ?_
    calc G * ((S + lo * c) * p) = (S + lo * c) * (G * p) := by rw [← Nat.mul_assoc, Nat.mul_comm G, Nat.mul_assoc]
      _ = (G * q) * (ev * c) := key2
      _ = G * (q * (ev * c)) := by rw [Nat.mul_assoc]
  · cases h
theorem loadTo_share {l : List PLine} (hm : ∀ x ∈ l, mayB x.t = true) {M : Nat} (hM : ∀ x ∈ l, x.t.ev.toNat ∣ M) : ∀ (k : Nat) {n d : Nat}, loadTo l k = some (n, d) → 1 ≤ d ∧ shareTo M l k * d = n * M := by
  intro k
  induction k with
  | zero =>
    intro n d h
    injection h with h
    injection h with h1 h2
    subst h1 h2
    exact ⟨Nat.le_refl 1, by simp [shareTo]⟩
  | succ k ih =>
    intro n d h
    rw [loadTo] at h
    cases hr : loadTo l k with
    | none => simp [hr] at h
    | some r =>
      obtain ⟨n0, d0⟩ := r
      cases hx : l[k]? with
      | none => simp [hr, hx] at h
      | some x =>
        simp only [hr, hx] at h
        obtain ⟨i1, i2⟩ := ih hr
        have hmx := may_spec (hm x (List.mem_of_getElem? hx))
        refine ⟨(loadStep_ok h hmx.1 i1).2.1, ?_⟩
        have e : shareTo M l (k + 1) = shareTo M l k + x.t.lo.toNat * (M / x.t.ev.toNat) := by rw [shareTo, hx]
        rw [e]
        exact loadStep_share h hmx.1 i1 (hM x (List.mem_of_getElem? hx)) i2

def shareL (M : Nat) : List PTask → Nat
  | [] => 0
  | t :: l => t.lo.toNat * (M / t.ev.toNat) + shareL M l
theorem shareL_append (M : Nat) (a b : List PTask) : shareL M (a ++ b) = shareL M a + shareL M b := by
  induction a with
  | nil => simp [shareL]
  | cons t a ih => simp only [List.cons_append, shareL, ih]; omega
theorem shareTo_eq (M : Nat) (l : List PLine) : ∀ k, shareTo M l k = shareL M ((l.take k).map (·.t)) := by
  intro k
  induction k with
  | zero => simp [shareTo, shareL]
  | succ k ih =>
    by_cases hk : k < l.length
    · rw [shareTo, List.getElem?_eq_getElem hk, List.take_succ_eq_append_getElem hk, List.map_append, shareL_append]
      simp only [ih, List.map_cons, List.map_nil, shareL, Nat.add_zero]
    · rw [shareTo, List.getElem?_eq_none (by omega)]
      simp only
      rw [ih, List.take_of_length_le (by omega), List.take_of_length_le (by omega)]

theorem util_of_share {l : List PTask} (hm : ∀ t ∈ l, mayB t = true) {M : Nat} (hM : 0 < M) (hd : ∀ t ∈ l, t.ev.toNat ∣ M) (h : shareL M l ≤ M) : Util (ini l) := by
  intro x hx
  have key : ∀ l : List PTask, (∀ t ∈ l, mayB t = true) → (∀ t ∈ l, t.ev.toNat ∣ M) → (M : Int) * sumI (l.map fun t => (x / t.ev) * t.lo) ≤ x * shareL M l := by
    intro l
    induction l with
    | nil => intro _ _; simp [sumI, shareL]
    | cons t l ih =>
      intro hm hd
      have h1 := ih (fun t ht => hm t (.tail _ ht)) (fun t ht => hd t (.tail _ ht))
      obtain ⟨a1, a2, a3, a4⟩ := may_spec (hm t (.head _))
      obtain ⟨c, hc⟩ := hd t (.head _)
      have hev : 0 < t.ev.toNat := by omega
      have h2 : (M : Int) * ((x / t.ev) * t.lo) ≤ x * ((t.lo.toNat * (M / t.ev.toNat) : Nat) : Int) := by
        rw [hc, Nat.mul_div_cancel_left _ hev]
        have e1 : ((t.lo.toNat * c : Nat) : Int) = t.lo * c := by rw [Int.natCast_mul]; congr 1; omega
        have e2 : ((t.ev.toNat * c : Nat) : Int) = t.ev * c := by rw [Int.natCast_mul]; congr 1; omega
        rw [e1, e2]
        have h3 : (x / t.ev) * t.ev ≤ x := Int.ediv_mul_le x (by omega)
        have h4 : 0 ≤ t.lo * (c : Int) := Int.mul_nonneg (by omega) (by omega)
        have h5 := Int.mul_le_mul_of_nonneg_right h3 h4
        have e3 : t.ev * (c : Int) * (x / t.ev * t.lo) = x / t.ev * t.ev * (t.lo * c) := by
          rw [Int.mul_comm (t.ev * (c : Int)), Int.mul_assoc, Int.mul_assoc, ← Int.mul_assoc t.lo, Int.mul_comm t.lo t.ev, Int.mul_assoc t.ev t.lo]
        omega
      simp only [List.map_cons, sumI, shareL, Int.mul_add, Int.natCast_add]
      omega
  have h1 := key l hm hd
  have e : (ini l).map (fun y => (x / y.t.ev) * y.t.lo) = l.map fun t => (x / t.ev) * t.lo := by unfold ini; rw [List.map_map]; rfl
  rw [e]
  have h2 : x * (shareL M l : Int) ≤ x * M := Int.mul_le_mul_of_nonneg_left (by omega) hx
  have h3 : (M : Int) * sumI (l.map fun t => (x / t.ev) * t.lo) ≤ M * x := by rw [Int.mul_comm (M : Int) x]; omega
  exact Int.le_of_mul_le_mul_left h3 (by omega)

/-- A load of at most one. -/
theorem util_of_load {l : List PTask} (hm : ∀ t ∈ l, mayB t = true) (h1 : 1 ≤ (loadS (newS l)).2) (h2 : (loadS (newS l)).1 ≤ (loadS (newS l)).2) : Util (ini l) := by
  have hpos := comM_pos (l := l) fun t ht => (may_spec (hm t ht)).1
  have hd : ∀ t ∈ l, t.ev.toNat ∣ comM l := fun t ht => comM_dvd ht
  unfold loadS at h1 h2
  cases hr : loadTo (newS l).l (newS l).l.length with
  | none => simp [hr] at h1
  | some r =>
    obtain ⟨n, d⟩ := r
    simp only [hr] at h1 h2
    obtain ⟨i1, i2⟩ := loadTo_share (l := (newS l).l) (M := comM l) (fun x hx => by
      obtain ⟨t, ht, rfl⟩ := List.mem_map.1 hx
      exact hm t ht) (fun x hx => by
      obtain ⟨t, ht, rfl⟩ := List.mem_map.1 hx
      exact hd t ht) _ hr
    rw [shareTo_eq, List.take_of_length_le (Nat.le_refl _)] at i2
    have e : (newS l).l.map (·.t) = l := by simp [newS, Function.comp_def]
    rw [e] at i2
    refine util_of_share hm hpos hd ?_
    have h3 : shareL (comM l) l * d ≤ comM l * d := by
      rw [i2, Nat.mul_comm]
      exact Nat.mul_le_mul_left _ (by omega)
    exact Nat.le_of_mul_le_mul_right h3 i1

/-- A plan that was just made. -/
theorem ts_new {l : List PTask} (hm : ∀ t ∈ l, mayB t = true) : TS (ini l) (newS l) 0 := by
  refine ⟨rfl, fun x hx => ?_, ?_⟩
  · obtain ⟨t, ht, rfl⟩ := List.mem_map.1 hx
    obtain ⟨a1, a2, a3, a4⟩ := may_spec (hm t ht)
    exact ⟨hm t ht, by show (0 : Int) ≤ 0 + t.ev; omega, .inl rfl⟩
  · show ((newS l).l).map absL = ini l
    simp only [newS, ini, List.map_map]
    rfl
end Go.Proofs.Ytcffjobefgecdaa
