/- Ticks: which task runs at each tick; stretches are ticks side by side. Plain laws, no program. -/
import Derived.Test.YtcffjobefgecdaaQ
namespace Go.Proofs.Ytcffjobefgecdaa

/-- A line, seen by the first job that is not done: its release, how much of it is done. -/
structure AL where
  t : PTask
  a : Int
  u : Int
def aJob (i : Nat) (y : AL) : PJob := ⟨y.a + y.t.ev, y.t.rk, i⟩

theorem beforeB_spec (j k : PJob) : beforeB j k = true ↔ j.due < k.due ∨ (j.due = k.due ∧ (k.rank < j.rank ∨ (j.rank = k.rank ∧ j.task < k.task))) := by
  unfold beforeB
  by_cases h1 : j.due = k.due
  · by_cases h2 : j.rank = k.rank
    · simp [h1, h2]
    · simp [h1, h2]
  · simp [h1]
theorem before_trans {a b c : PJob} (h1 : beforeB a b = true) (h2 : beforeB b c = true) : beforeB a c = true := by
  rw [beforeB_spec] at *
  omega
theorem before_total {a b : PJob} (h : a.task ≠ b.task) : beforeB a b = true ∨ beforeB b a = true := by
  rw [beforeB_spec, beforeB_spec]
  omega
theorem before_asymm {a b : PJob} (h1 : beforeB a b = true) (h2 : beforeB b a = true) : False := by
  rw [beforeB_spec] at *
  omega
theorem before_due {a b : PJob} (h1 : beforeB a b = true) : a.due ≤ b.due := by
  rw [beforeB_spec] at h1
  omega

/-- Line i runs at a tick. -/
structure Best (q : Int) (l : List AL) (i : Nat) : Prop where
  hi : i < l.length
  pend : l[i].a ≤ q
  first : ∀ k (hk : k < l.length), k ≠ i → l[k].a ≤ q → beforeB (aJob i l[i]) (aJob k l[k]) = true
theorem Best.uniq {q : Int} {l : List AL} {i k : Nat} (h : Best q l i) (g : Best q l k) : i = k := by
  by_cases e : i = k
  · exact e
  · exact (before_asymm (h.first k g.hi (Ne.symm e) g.pend) (g.first i h.hi e h.pend)).elim

open Classical in
noncomputable def who (q : Int) (l : List AL) : Option Nat := if h : ∃ i, Best q l i then some (Classical.choose h) else none
theorem who_best {q : Int} {l : List AL} {i : Nat} (h : Best q l i) : who q l = some i := by
  have hx : ∃ i, Best q l i := ⟨i, h⟩
  unfold who
  rw [dif_pos hx]
  exact congrArg some ((Classical.choose_spec hx).uniq h)
theorem who_some {q : Int} {l : List AL} {i : Nat} (h : who q l = some i) : Best q l i := by
  unfold who at h
  by_cases hx : ∃ i, Best q l i
  · rw [dif_pos hx] at h
    injection h with h
    rw [← h]
    exact Classical.choose_spec hx
  · rw [dif_neg hx] at h
    cases h
theorem who_idle {q : Int} {l : List AL} (h : ∀ y ∈ l, q < y.a) : who q l = none := by
  cases hw : who q l with
  | none => rfl
  | some i =>
    have := who_some hw
    have h1 := this.pend
    have h2 := h _ (List.getElem_mem this.hi)
    omega

theorem best_exists {q : Int} {l : List AL} (h : ∃ y ∈ l, y.a ≤ q) : ∃ i, Best q l i := by
  have key : ∀ k, (∀ i, i < k → ∀ hi : i < l.length, q < l[i].a) ∨ ∃ i, ∃ hi : i < l.length, i < k ∧ l[i].a ≤ q ∧ ∀ j (hj : j < l.length), j < k → j ≠ i → l[j].a ≤ q → beforeB (aJob i l[i]) (aJob j l[j]) = true := by
    intro k
    induction k with
    | zero => exact .inl fun i hi => by omega
    | succ k ih =>
      by_cases hk : k < l.length
      · by_cases hp : l[k].a ≤ q
        · rcases ih with ih | ⟨i, hi, hik, h1, h2⟩
          · refine .inr ⟨k, hk, by omega, hp, fun j hj hjk hne hjp => ?_⟩
            have := ih j (by omega) hj
            omega
          · rcases before_total (a := aJob i l[i]) (b := aJob k l[k]) (by show (i : Int) ≠ k; omega) with hb | hb
            · refine .inr ⟨i, hi, by omega, h1, fun j hj hjk hne hjp => ?_⟩
              by_cases e : j = k
              · subst e; exact hb
              · exact h2 j hj (by omega) hne hjp
            · refine .inr ⟨k, hk, by omega, hp, fun j hj hjk hne hjp => ?_⟩
              by_cases e : j = i
              · subst e; exact hb
              · exact before_trans hb (h2 j hj (by omega) e hjp)
        · rcases ih with ih | ⟨i, hi, hik, h1, h2⟩
          · refine .inl fun i hi hil => ?_
            by_cases e : i = k
            · subst e; omega
            · exact ih i (by omega) hil
          · refine .inr ⟨i, hi, by omega, h1, fun j hj hjk hne hjp => ?_⟩
            by_cases e : j = k
            · subst e; exact absurd hjp hp
            · exact h2 j hj (by omega) hne hjp
      · rcases ih with ih | ⟨i, hi, hik, h1, h2⟩
        · exact .inl fun i hi hil => ih i (by omega) hil
        · exact .inr ⟨i, hi, by omega, h1, fun j hj hjk hne hjp => h2 j hj (by omega) hne hjp⟩
  obtain ⟨y, hy, hp⟩ := h
  obtain ⟨k, hk, rfl⟩ := List.mem_iff_getElem.1 hy
  rcases key l.length with h | ⟨i, hi, _, h1, h2⟩
  · have := h k hk hk
    omega
  · exact ⟨i, hi, h1, fun j hj hne hjp => h2 j hj hj hne hjp⟩

/-- A tick's work. -/
def stepL (y : AL) : AL := if y.u + 1 < y.t.lo then { y with u := y.u + 1 } else { y with a := y.a + y.t.ev, u := 0 }
noncomputable def tickL (q : Int) (l : List AL) : List AL := match who q l with
  | none => l
  | some i => l.modify i stepL
/-- All lines at a tick, and what runs then. -/
noncomputable def Lat (l : List AL) : Nat → List AL
  | 0 => l
  | n + 1 => tickL n (Lat l n)
noncomputable def Wat (l : List AL) (n : Nat) : Option Nat := who n (Lat l n)

theorem Lat_none {l : List AL} {n : Nat} (h : Wat l n = none) : Lat l (n + 1) = Lat l n := by
  show tickL n (Lat l n) = _
  unfold Wat at h
  unfold tickL
  rw [h]
theorem Lat_some {l : List AL} {n i : Nat} (h : Wat l n = some i) : Lat l (n + 1) = (Lat l n).modify i stepL := by
  show tickL n (Lat l n) = _
  unfold Wat at h
  unfold tickL
  rw [h]
theorem Lat_len (l : List AL) (n : Nat) : (Lat l n).length = l.length := by
  induction n with
  | zero => rfl
  | succ n ih =>
    cases h : Wat l n with
    | none => rw [Lat_none h, ih]
    | some i => rw [Lat_some h, List.length_modify, ih]

theorem same_idle {l : List AL} {n m : Nat} (hm : n ≤ m) (h : ∀ q, n ≤ q → q < m → Wat l q = none) : Lat l m = Lat l n := by
  obtain ⟨d, rfl⟩ : ∃ d, m = n + d := ⟨m - n, by omega⟩
  clear hm
  induction d with
  | zero => rfl
  | succ d ih =>
    rw [show n + (d + 1) = n + d + 1 by omega, Lat_none (h (n + d) (by omega) (by omega))]
    exact ih fun q h1 h2 => h q h1 (by omega)
/-- Nothing is there to do for a while. -/
theorem idle {l : List AL} {n m : Nat} (h : ∀ y ∈ Lat l n, (m : Int) ≤ y.a) : ∀ d, n + d ≤ m → Lat l (n + d) = Lat l n ∧ (n + d < m → Wat l (n + d) = none) := by
  intro d
  induction d with
  | zero =>
    intro _
    refine ⟨rfl, fun hlt => who_idle fun y hy => ?_⟩
    have := h y hy
    have e : ((n + 0 : Nat) : Int) < m := by omega
    omega
  | succ d ih =>
    intro hd
    obtain ⟨h1, h2⟩ := ih (by omega)
    have h3 : Lat l (n + (d + 1)) = Lat l n := by rw [show n + (d + 1) = n + d + 1 by omega, Lat_none (h2 (by omega)), h1]
    refine ⟨h3, fun hlt => ?_⟩
    unfold Wat
    rw [h3]
    refine who_idle fun y hy => ?_
    have := h y hy
    omega

/-- So much done of the first job. -/
def adv (d : Int) (y : AL) : AL := if y.u + d < y.t.lo then { y with u := y.u + d } else { y with a := y.a + y.t.ev, u := 0 }
theorem adv_one (y : AL) : adv 1 y = stepL y := rfl
theorem adv_succ {d : Int} {y : AL} (h : y.u + d < y.t.lo) : stepL (adv d y) = adv (d + 1) y := by
  have e : adv d y = { y with u := y.u + d } := by unfold adv; rw [if_pos h]
  rw [e]
  unfold adv stepL
  simp only
  by_cases hlt : y.u + d + 1 < y.t.lo
  · rw [if_pos hlt, if_pos (by omega)]
    congr 1
    omega
  · rw [if_neg hlt, if_neg (by omega)]

/-- A job runs, side by side. -/
theorem runs {l : List AL} {f i T : Nat} (hb : Best f (Lat l f) i) (hT : (T : Int) ≤ f + ((Lat l f)[i]'hb.hi).t.lo - ((Lat l f)[i]'hb.hi).u)
    (hno : ∀ k (hk : k < (Lat l f).length), k ≠ i → (f : Int) < (Lat l f)[k].a → (Lat l f)[k].a < T → beforeB (aJob i ((Lat l f)[i]'hb.hi)) (aJob k (Lat l f)[k]) = true) :
    ∀ d : Nat, f + d ≤ T → (1 ≤ d → Lat l (f + d) = (Lat l f).modify i (adv d)) ∧ (f + d < T → Wat l (f + d) = some i) := by
  intro d
  induction d with
  | zero => exact fun _ => ⟨fun h => by omega, fun _ => who_best hb⟩
  | succ d ih =>
    intro hd
    obtain ⟨h1, h2⟩ := ih (by omega)
    have e : f + (d + 1) = f + d + 1 := by omega
    have h3 : Lat l (f + (d + 1)) = (Lat l f).modify i (adv ((d + 1 : Nat) : Int)) := by
      rw [e, Lat_some (h2 (by omega))]
      cases d with
      | zero => rfl
      | succ d =>
        rw [h1 (by omega)]
        refine List.ext_getElem (by simp) fun k hk1 hk2 => ?_
        simp only [List.getElem_modify]
        by_cases hik : i = k
        · subst hik
          simp only [if_true]
          exact adv_succ (by omega)
        · simp only [if_neg hik]
    refine ⟨fun _ => h3, fun hlt => ?_⟩
    refine who_best ⟨by rw [Lat_len] at *; have := hb.hi; rwa [Lat_len] at this, ?_, ?_⟩
    · simp only [h3, List.getElem_modify, if_true]
      unfold adv
      rw [if_pos (by omega)]
      have := hb.pend
      simp only
      omega
    · intro k hk hki hp
      have hkl : k < (Lat l f).length := by rw [Lat_len] at hk ⊢; exact hk
      simp only [h3, List.getElem_modify, if_true, if_neg (Ne.symm hki)] at hp ⊢
      have hj : aJob i (adv ((d + 1 : Nat) : Int) ((Lat l f)[i]'hb.hi)) = aJob i ((Lat l f)[i]'hb.hi) := by
        unfold adv
        rw [if_pos (by omega)]
        rfl
      rw [hj]
      by_cases hle : (Lat l f)[k].a ≤ f
      · exact hb.first k hkl hki hle
      · exact hno k hkl hki (by omega) (by omega)
end Go.Proofs.Ytcffjobefgecdaa
