/- Where the load is at most the whole none is late; each has its ticks. Plain laws. -/
import Derived.Test.YtcffjobefgecdaaT3
namespace Go.Proofs.Ytcffjobefgecdaa

/-- What may stand of a line at a tick. -/
structure AOk (n : Int) (y : AL) : Prop where
  may : mayB y.t = true
  u0 : 0 ≤ y.u
  u1 : y.u < y.t.lo
  a0 : 0 ≤ y.a
  a1 : y.a < n + y.t.ev
  ru : 0 < y.u → y.a < n
  dv : ∃ c, y.a = c * y.t.ev
def ini (l : List PTask) : List AL := l.map fun t => ⟨t, 0, 0⟩
theorem Lat_ok {l : List PTask} (hm : ∀ t ∈ l, mayB t = true) (n : Nat) : ∀ y ∈ Lat (ini l) n, AOk n y := by
  induction n with
  | zero =>
    intro y hy
    obtain ⟨t, ht, rfl⟩ := List.mem_map.1 hy
    obtain ⟨a1, a2, a3, a4⟩ := may_spec (hm t ht)
    exact ⟨hm t ht, Int.le_refl _, by show 0 < t.lo; omega, Int.le_refl _, by show (0 : Int) < 0 + t.ev; omega, (fun h => by cases h), ⟨0, by simp⟩⟩
  | succ n ih =>
    intro y hy
    have up : ∀ y, AOk n y → AOk ((n + 1 : Nat) : Int) y := fun y h => ⟨h.may, h.u0, h.u1, h.a0, by have := h.a1; omega, fun hu => by have := h.ru hu; omega, h.dv⟩
    cases hw : Wat (ini l) n with
    | none =>
      rw [Lat_none hw] at hy
      exact up y (ih y hy)
    | some i =>
      rw [Lat_some hw] at hy
      obtain ⟨k, hk, rfl⟩ := List.mem_iff_getElem.1 hy
      have hk' : k < (Lat (ini l) n).length := by simpa using hk
      rw [List.getElem_modify]
      have h := ih _ (List.getElem_mem hk')
      by_cases hik : i = k
      · subst hik
        simp only [if_true]
        have hp := (who_some hw).pend
        obtain ⟨a1, a2, a3, a4⟩ := may_spec h.may
        unfold stepL
        have h0 := h.u0
        have h1 := h.a0
        have h2 := h.a1
        by_cases hlt : (Lat (ini l) n)[i].u + 1 < (Lat (ini l) n)[i].t.lo
        · rw [if_pos hlt]
          exact ⟨h.may, by simp only; omega, hlt, h.a0, by simp only; omega, fun _ => by simp only; omega, h.dv⟩
        · rw [if_neg hlt]
          obtain ⟨c, hc⟩ := h.dv
          exact ⟨h.may, Int.le_refl _, by simp only; omega, by simp only; omega, by simp only; omega, fun h => by simp only at h; omega, ⟨c + 1, by simp only; rw [hc, Int.add_mul]; omega⟩⟩
      · simp only [if_neg hik]
        exact up _ h

/-- What a line asks up to a tick D. -/
def dem (D : Int) (y : AL) : Int := if D < y.a + y.t.ev then 0 else ((D - y.a) / y.t.ev) * y.t.lo - y.u
def sumI : List Int → Int
  | [] => 0
  | a :: l => a + sumI l
theorem sumI_le {α : Type} {l : List α} {f g : α → Int} (h : ∀ x ∈ l, f x ≤ g x) : sumI (l.map f) ≤ sumI (l.map g) := by
  induction l with
  | nil => exact Int.le_refl _
  | cons a l ih =>
    have h1 := h a (.head _)
    have h2 := ih fun x hx => h x (.tail _ hx)
    simp only [List.map_cons, sumI]
    omega
theorem sumI_mul {α : Type} (l : List α) (f : α → Int) (c : Int) : sumI (l.map fun x => c * f x) = c * sumI (l.map f) := by
  induction l with
  | nil => simp [sumI]
  | cons a l ih => simp only [List.map_cons, sumI, ih, Int.mul_add]
theorem sumI_mem {α : Type} {l : List α} {f : α → Int} (h : ∀ x ∈ l, 0 ≤ f x) {y : α} (hy : y ∈ l) : f y ≤ sumI (l.map f) := by
  induction l with
  | nil => cases hy
  | cons a l ih =>
    have h0 : 0 ≤ sumI (l.map f) := by
      clear ih hy
      induction l with
      | nil => exact Int.le_refl _
      | cons b l ih =>
        have h1 := h b (.tail _ (.head _))
        have h2 := ih fun x hx => h x (by rcases List.mem_cons.1 hx with rfl | hx; exact .head _; exact .tail _ (.tail _ hx))
        simp only [List.map_cons, sumI]
        omega
    have h1 := h a (.head _)
    simp only [List.map_cons, sumI]
    rcases List.mem_cons.1 hy with rfl | hy
    · omega
    · have := ih (fun x hx => h x (.tail _ hx)) hy
      omega
theorem sumI_modify {l : List AL} {i : Nat} (hi : i < l.length) (f : AL → Int) (g : AL → AL) : sumI ((l.modify i g).map f) = sumI (l.map f) - f l[i] + f (g l[i]) := by
  induction l generalizing i with
  | nil => simp at hi
  | cons a l ih =>
    cases i with
    | zero =>
      simp only [List.modify_zero_cons, List.map_cons, sumI, List.getElem_cons_zero]
      omega
    | succ i =>
      simp only [List.modify_succ_cons, List.map_cons, sumI, List.getElem_cons_succ]
      rw [ih (by simpa using hi)]
      omega

/-- All tasks together take at most the whole. -/
def Util (l : List AL) : Prop := ∀ x : Int, 0 ≤ x → sumI (l.map fun y => (x / y.t.ev) * y.t.lo) ≤ x
theorem Util.congr {l l' : List AL} (h : Util l) (e : l'.map (·.t) = l.map (·.t)) : Util l' := by
  intro x hx
  have := h x hx
  have h1 : ∀ l : List AL, (l.map fun y => (x / y.t.ev) * y.t.lo) = (l.map (·.t)).map fun t => (x / t.ev) * t.lo := fun l => by rw [List.map_map]; rfl
  rw [h1, e, ← h1]
  exact this
theorem Lat_t (l : List AL) (n : Nat) : (Lat l n).map (·.t) = l.map (·.t) := by
  induction n with
  | zero => rfl
  | succ n ih =>
    cases hw : Wat l n with
    | none => rw [Lat_none hw, ih]
    | some i =>
      rw [Lat_some hw, ← ih]
      refine List.ext_getElem (by simp) fun k h1 h2 => ?_
      simp only [List.getElem_map, List.getElem_modify]
      split
      · unfold stepL; split <;> rfl
      · rfl

theorem dem_le_future {n D : Int} {y : AL} (hok : AOk n y) (h : n ≤ y.a) (hD : n ≤ D) : dem D y ≤ ((D - n) / y.t.ev) * y.t.lo := by
  obtain ⟨a1, a2, a3, a4⟩ := may_spec hok.may
  have hq : 0 ≤ (D - n) / y.t.ev := Int.ediv_nonneg (by omega) (by omega)
  have h0 : 0 ≤ ((D - n) / y.t.ev) * y.t.lo := Int.mul_nonneg hq (by omega)
  unfold dem
  by_cases hc : D < y.a + y.t.ev
  · rw [if_pos hc]; exact h0
  · rw [if_neg hc]
    have h1 : (D - y.a) / y.t.ev ≤ (D - n) / y.t.ev := Int.ediv_le_ediv (by omega) (by omega)
    have h2 := Int.mul_le_mul_of_nonneg_right h1 (show 0 ≤ y.t.lo by omega)
    have := hok.u0
    omega
theorem dem_nonneg {n D : Int} {y : AL} (hok : AOk n y) : 0 ≤ dem D y := by
  obtain ⟨a1, a2, a3, a4⟩ := may_spec hok.may
  unfold dem
  by_cases hc : D < y.a + y.t.ev
  · rw [if_pos hc]; exact Int.le_refl _
  · rw [if_neg hc]
    have h1 : 1 ≤ (D - y.a) / y.t.ev := by
      have := Int.ediv_le_ediv (a := y.t.ev) (b := D - y.a) (c := y.t.ev) (by omega) (by omega)
      rwa [Int.ediv_self (by omega)] at this
    have h2 := Int.mul_le_mul_of_nonneg_right h1 (show 0 ≤ y.t.lo by omega)
    have := hok.u1
    omega
theorem dem_step {n D : Int} {y : AL} (hok : AOk n y) (hD : y.a + y.t.ev ≤ D) : dem D (stepL y) = dem D y - 1 := by
  obtain ⟨a1, a2, a3, a4⟩ := may_spec hok.may
  have h1 : 1 ≤ (D - y.a) / y.t.ev := by
    have := Int.ediv_le_ediv (a := y.t.ev) (b := D - y.a) (c := y.t.ev) (by omega) (by omega)
    rwa [Int.ediv_self (by omega)] at this
  have hu := hok.u1
  unfold dem stepL
  by_cases hlt : y.u + 1 < y.t.lo
  · rw [if_pos hlt]
    simp only
    rw [if_neg (by omega), if_neg (by omega)]
    omega
  · rw [if_neg hlt]
    simp only
    rw [if_neg (show ¬ D < y.a + y.t.ev by omega)]
    have e : (D - (y.a + y.t.ev)) / y.t.ev = (D - y.a) / y.t.ev - 1 := by
      rw [show D - (y.a + y.t.ev) = (D - y.a) + (-1) * y.t.ev by omega, Int.add_mul_ediv_right _ _ (by omega)]
      omega
    by_cases hc : D < y.a + y.t.ev + y.t.ev
    · rw [if_pos hc]
      have h2 : (D - y.a) / y.t.ev < 2 := Int.ediv_lt_of_lt_mul (by omega) (by omega)
      have h3 : (D - y.a) / y.t.ev = 1 := by omega
      rw [h3]
      omega
    · rw [if_neg hc, e, Int.sub_mul]
      omega
theorem dem_ge {n D : Int} {y : AL} (hok : AOk n y) (hD : y.a + y.t.ev ≤ D) : y.t.lo - y.u ≤ dem D y := by
  obtain ⟨a1, a2, a3, a4⟩ := may_spec hok.may
  unfold dem
  rw [if_neg (by omega)]
  have h1 : 1 ≤ (D - y.a) / y.t.ev := by
    have := Int.ediv_le_ediv (a := y.t.ev) (b := D - y.a) (c := y.t.ev) (by omega) (by omega)
    rwa [Int.ediv_self (by omega)] at this
  have h2 := Int.mul_le_mul_of_nonneg_right h1 (show 0 ≤ y.t.lo by omega)
  omega
theorem dem_late {D : Int} {y : AL} (h : D < y.a + y.t.ev) : dem D y = 0 := by unfold dem; rw [if_pos h]

/-- At every tick what is asked up to a later one can be done. -/
theorem feasible {l : List PTask} (hm : ∀ t ∈ l, mayB t = true) (hu : Util (ini l)) (n : Nat) : ∀ D : Int, (n : Int) ≤ D → sumI ((Lat (ini l) n).map (dem D)) ≤ D - n := by
  induction n with
  | zero =>
    intro D hD
    have h1 : sumI ((Lat (ini l) 0).map (dem D)) ≤ sumI ((Lat (ini l) 0).map fun y => ((D - 0) / y.t.ev) * y.t.lo) :=
      sumI_le fun y hy => dem_le_future (n := 0) (Lat_ok hm 0 y hy) (Lat_ok hm 0 y hy).a0 (by omega)
    have h2 := hu (D - 0) (by omega)
    have h3 : sumI ((Lat (ini l) 0).map fun y => ((D - 0) / y.t.ev) * y.t.lo) ≤ D - 0 := h2
    omega
  | succ n ih =>
    intro D hD
    have hok := Lat_ok hm n
    have hu' : Util (Lat (ini l) n) := hu.congr (Lat_t _ _)
    cases hw : Wat (ini l) n with
    | none =>
      rw [Lat_none hw]
      have hall : ∀ y ∈ Lat (ini l) n, (n : Int) + 1 ≤ y.a := by
        intro y hy
        by_cases hc : y.a ≤ n
        · obtain ⟨i, hi⟩ := best_exists ⟨y, hy, hc⟩
          have := who_best hi
          unfold Wat at hw
          rw [hw] at this
          cases this
        · omega
      have h1 : sumI ((Lat (ini l) n).map (dem D)) ≤ sumI ((Lat (ini l) n).map fun y => ((D - (n + 1)) / y.t.ev) * y.t.lo) := by
        refine sumI_le fun y hy => ?_
        have h := hok y hy
        refine dem_le_future (n := n + 1) ⟨h.may, h.u0, h.u1, h.a0, by have := h.a1; omega, fun hu => by have := h.ru hu; omega, h.dv⟩ (hall y hy) (by omega)
      have h2 := hu' (D - (n + 1)) (by omega)
      omega
    | some i =>
      have hb := who_some hw
      rw [Lat_some hw]
      have hbi := hb.hi
      have hbo := hok _ (List.getElem_mem hb.hi)
      by_cases hdue : (Lat (ini l) n)[i].a + (Lat (ini l) n)[i].t.ev ≤ D
      · rw [sumI_modify hb.hi, dem_step hbo hdue]
        have := ih D (by omega)
        omega
      · have h1 : sumI (((Lat (ini l) n).modify i stepL).map (dem D)) ≤ sumI ((Lat (ini l) n).map fun y => ((D - (n + 1)) / y.t.ev) * y.t.lo) := by
          have e : ((Lat (ini l) n).modify i stepL).map (dem D) = (Lat (ini l) n).map (dem D) := by
            refine List.ext_getElem (by simp) fun k h1 h2 => ?_
            simp only [List.getElem_map, List.getElem_modify]
            split
            · rename_i hik
              subst hik
              obtain ⟨a1, a2, a3, a4⟩ := may_spec hbo.may
              have e1 : dem D (stepL ((Lat (ini l) n)[i]'hbi)) = 0 := dem_late (by unfold stepL; split <;> (simp only; omega))
              have e2 : dem D ((Lat (ini l) n)[i]'hbi) = 0 := dem_late (by omega)
              rw [e1, e2]
            · rfl
          rw [e]
          refine sumI_le fun y hy => ?_
          have h := hok y hy
          obtain ⟨a1, a2, a3, a4⟩ := may_spec h.may
          by_cases hp : y.a ≤ n
          · obtain ⟨k, hk, rfl⟩ := List.mem_iff_getElem.1 hy
            rw [dem_late]
            · exact Int.mul_nonneg (Int.ediv_nonneg (by omega) (by omega)) (by omega)
            · by_cases hik : k = i
              · subst hik; omega
              · have := before_due (hb.first k hk hik hp)
                simp only [aJob] at this
                omega
          · exact dem_le_future (n := n + 1) ⟨h.may, h.u0, h.u1, h.a0, by have := h.a1; omega, fun hu => by have := h.ru hu; omega, h.dv⟩ (by omega) (by omega)
        have h2 := hu' (D - (n + 1)) (by omega)
        omega

/-- No stretch is late. -/
theorem not_late {l : List PTask} (hm : ∀ t ∈ l, mayB t = true) (hu : Util (ini l)) {x : PSlot} (h : LateOk (ini l) x) : x.late = false := by
  obtain ⟨f, i, hi, e1, e2, h1, h2, h3⟩ := h
  cases hl : x.late with
  | false => rfl
  | true =>
    exfalso
    have hlt := h3 hl
    have hok := Lat_ok hm f
    have hoi := hok _ (List.getElem_mem hi)
    obtain ⟨a1, a2, a3, a4⟩ := may_spec hoi.may
    have hge : (f : Int) ≤ (Lat (ini l) f)[i].a + (Lat (ini l) f)[i].t.ev ∨ (Lat (ini l) f)[i].a + (Lat (ini l) f)[i].t.ev < f := by omega
    have key : ∀ D : Int, (f : Int) ≤ D → (Lat (ini l) f)[i].a + (Lat (ini l) f)[i].t.ev ≤ D → (Lat (ini l) f)[i].t.lo - (Lat (ini l) f)[i].u ≤ D - f := by
      intro D hD hdue
      have h4 := feasible hm hu f D hD
      have h5 : dem D (Lat (ini l) f)[i] ≤ sumI ((Lat (ini l) f).map (dem D)) := sumI_mem (fun y hy => dem_nonneg (hok y hy)) (List.getElem_mem hi)
      have h6 := dem_ge hoi hdue
      omega
    have hu1 := hoi.u1
    rcases hge with hge | hge
    · have := key _ hge (Int.le_refl _)
      omega
    · have := key f (Int.le_refl _) (by omega)
      omega

/-- How many of the ticks from one on a task has. -/
noncomputable def hasT (L : List AL) (i n : Nat) : Nat → Nat
  | 0 => 0
  | d + 1 => hasT L i n d + (if Wat L (n + d) = some i then 1 else 0)
/-- The ticks of a task, counted by what is done of it. -/
theorem hasT_work {l : List PTask} (hm : ∀ t ∈ l, mayB t = true) {i n : Nat} (hi : i < l.length) (hi' : ∀ m, i < (Lat (ini l) m).length) (d : Nat) :
    ((Lat (ini l) (n + d))[i]'(hi' _)).a * l[i].lo + ((Lat (ini l) (n + d))[i]'(hi' _)).u * l[i].ev = ((Lat (ini l) n)[i]'(hi' _)).a * l[i].lo + ((Lat (ini l) n)[i]'(hi' _)).u * l[i].ev + hasT (ini l) i n d * l[i].ev := by
  have ht : ∀ m, ((Lat (ini l) m)[i]'(hi' _)).t = l[i] := by
    intro m
    have h1 := Lat_t (ini l) m
    have hini : (ini l).map (·.t) = l := by simp [ini, Function.comp_def]
    rw [hini] at h1
    have h2 : ((Lat (ini l) m).map (·.t))[i]? = l[i]? := by rw [h1]
    rw [List.getElem?_map, List.getElem?_eq_getElem (hi' m), List.getElem?_eq_getElem hi] at h2
    injection h2
  induction d with
  | zero => simp [hasT]
  | succ d ih =>
    have e : n + (d + 1) = n + d + 1 := by omega
    have hstep : ∀ z : AL, z = (Lat (ini l) (n + d + 1))[i]'(hi' _) → z.a * l[i].lo + z.u * l[i].ev = ((Lat (ini l) (n + d))[i]'(hi' _)).a * l[i].lo + ((Lat (ini l) (n + d))[i]'(hi' _)).u * l[i].ev + (if Wat (ini l) (n + d) = some i then 1 else 0) * l[i].ev := by
      intro z hz
      cases hw : Wat (ini l) (n + d) with
      | none =>
        simp only [Lat_none hw] at hz
        rw [hz]
        simp
      | some j =>
        simp only [Lat_some hw, List.getElem_modify] at hz
        by_cases hji : j = i
        · subst hji
          simp only [if_true] at hz
          have hok := Lat_ok hm (n + d) _ (List.getElem_mem (hi' (n + d)))
          have htt := ht (n + d)
          have hu1 := hok.u1
          rw [hz]
          unfold stepL
          by_cases hlt : ((Lat (ini l) (n + d))[j]'(hi' _)).u + 1 < ((Lat (ini l) (n + d))[j]'(hi' _)).t.lo
          · rw [if_pos hlt]
            simp only [if_true, Int.add_mul]
            omega
          · rw [if_neg hlt]
            simp only [if_true, htt] at hlt hu1 ⊢
            have hu2 : ((Lat (ini l) (n + d))[j]'(hi' _)).u = l[j].lo - 1 := by omega
            rw [hu2, Int.add_mul, Int.sub_mul, Int.mul_comm l[j].ev l[j].lo]
            omega
        · simp only [if_neg hji] at hz
          rw [hz, if_neg (fun h => hji (Option.some.inj h))]
          simp
    have h := hstep _ rfl
    have e2 : ((Lat (ini l) (n + (d + 1)))[i]'(hi' _)) = (Lat (ini l) (n + d + 1))[i]'(hi' _) := by congr 1
    rw [e2, h, ih, hasT]
    by_cases hw : Wat (ini l) (n + d) = some i
    · simp only [if_pos hw, Int.natCast_add, Int.add_mul]
      omega
    · simp only [if_neg hw]
      simp

/-- At a tick at which a task begins anew, its jobs are all done. -/
theorem at_period {l : List PTask} (hm : ∀ t ∈ l, mayB t = true) (hu : Util (ini l)) {i n : Nat} (hi' : i < (Lat (ini l) n).length) {c : Int} (hc : (n : Int) = c * ((Lat (ini l) n)[i]).t.ev) : ((Lat (ini l) n)[i]).a = n ∧ ((Lat (ini l) n)[i]).u = 0 := by
  have hok := Lat_ok hm n
  have ho := hok _ (List.getElem_mem hi')
  obtain ⟨a1, a2, a3, a4⟩ := may_spec ho.may
  have h4 := feasible hm hu n n (Int.le_refl _)
  have h5 : dem n (Lat (ini l) n)[i] ≤ sumI ((Lat (ini l) n).map (dem n)) := sumI_mem (fun y hy => dem_nonneg (hok y hy)) (List.getElem_mem hi')
  have hlt : (n : Int) < (Lat (ini l) n)[i].a + (Lat (ini l) n)[i].t.ev := by
    by_cases hlt : (n : Int) < (Lat (ini l) n)[i].a + (Lat (ini l) n)[i].t.ev
    · exact hlt
    · exfalso
      have h6 := dem_ge ho (D := n) (by omega)
      have := ho.u1
      omega
  obtain ⟨k, hk⟩ := ho.dv
  have ha1 := ho.a1
  have hkc : k = c := by
    rw [hk] at hlt ha1
    rw [hc] at hlt ha1
    have h1 : c < k + 1 := by
      have : c * (Lat (ini l) n)[i].t.ev < (k + 1) * (Lat (ini l) n)[i].t.ev := by rw [Int.add_mul]; omega
      exact Int.lt_of_mul_lt_mul_right this (by omega)
    have h2 : k < c + 1 := by
      have : k * (Lat (ini l) n)[i].t.ev < (c + 1) * (Lat (ini l) n)[i].t.ev := by rw [Int.add_mul]; omega
      exact Int.lt_of_mul_lt_mul_right this (by omega)
    omega
  have haa : (Lat (ini l) n)[i].a = n := by rw [hk, hkc, ← hc]
  refine ⟨haa, ?_⟩
  have h0 := ho.u0
  by_cases hu0 : 0 < (Lat (ini l) n)[i].u
  · have := ho.ru hu0
    omega
  · omega
end Go.Proofs.Ytcffjobefgecdaa
