/- The walk of FoldMoved. -/
import Derived.Test.YtojjmkoelggfbaaH
import Derived.Test.YtojjmkoelggfbaaL
namespace Go.Proofs.Ytojjmkoelggfbaa
open Go.RowKit

theorem modS_ok (m : List Int) : ∀ k ∈ modS m, 1 ≤ k ∧ k ≤ 1099511627776 := by
  intro k hk
  obtain ⟨a, _, rfl⟩ := List.mem_map.1 hk
  have := Int.emod_nonneg a (show (4096 : Int) ≠ 0 by omega)
  have := Int.emod_lt_of_pos a (show (0 : Int) < 4096 by omega)
  omega

/-- Where the pointer into the wide list may stand at the i-th number of the other. -/
def Ptr (N W : List Int) (i k : Nat) : Prop := ∀ (hi : i < N.length) (q : Nat) (hq : q < W.length), W[q] = N[i] → k ≤ q
def Part (N W : List Int) : Prop := ∀ (i : Nat) (hi : i < N.length), ∃ (q : Nat) (hq : q < W.length), W[q] = N[i]
theorem Ptr.zero (N W : List Int) : Ptr N W 0 0 := fun _ _ _ _ => Nat.zero_le _
theorem Ptr.step {N W : List Int} (sN : N.Pairwise (· < ·)) (sW : W.Pairwise (· < ·)) {i q : Nat} (hi : i < N.length) (hq : q < W.length) (e : W[q] = N[i]) : Ptr N W (i + 1) q := by
  intro hi' q' hq' e'
  have h1 : N[i] < N[i + 1] := List.pairwise_iff_getElem.1 sN i (i + 1) hi hi' (by omega)
  rcases Nat.lt_or_ge q' q with h | h
  · have h2 : W[q'] < W[q] := List.pairwise_iff_getElem.1 sW q' q hq' hq h
    omega
  · exact h
theorem part_near (ps : List (Int × Int)) (o : Int) (T : Nat) : Part (nearS ps o T) (nearS ps (o + 1) T) := by
  intro i hi
  have hm : (nearS ps o T)[i] ∈ nearS ps (o + 1) T := by
    have h1 := (mem_nearS ps o T _).1 (List.getElem_mem hi)
    exact (mem_nearS ps (o + 1) T _).2 ⟨h1.1, h1.2.1, by omega⟩
  obtain ⟨q, hq, e⟩ := List.mem_iff_getElem.1 hm
  exact ⟨q, hq, e⟩

set_option maxRecDepth 100000 in
set_option maxHeartbeats 4000000 in
theorem moved3 (B : Nat) (A A' : Option Addr) (n n' c c' : Nat) (ms moves : List Int) (x off : Int) (w : World) (h : Rd w B 1 A n (ints .i64 ms)) (h' : Rd w B 1 A' n' (ints .i64 moves)) (hB : B ≤ w.heap.size)
    :
    Calls Try.prog 3 #[.int .i64 x, .slice A n c, .slice A' n' c', .int .i64 off] w fun e w' => e = .returned (.bool true) ∧ Below w.heap.size w w' := by
  obtain ⟨i0, hi0, hz0, hz1, hz2⟩ := info_parts info2
  go_enter Try.func3, Try.ntmps3
  go_wp2_with fail
  refine (moduli4 B A n c ms _ h hB).mono ?_
  rintro e w1 ⟨vl, rfl, hl, hb1⟩
  have lok := modS_ok ms
  have llen : (modS ms).length ≤ 5 := by rw [modS_len]; omega
  have hmv := (h'.below (hb1.mono hB)).more (Nat.le_trans hB hb1.size)
  generalize modS ms = l at *
  obtain ⟨Al, cl, rfl, hrl⟩ := Rd.own hl
  have hs1 := hb1.size
  clear hl h h'
  generalize hLn : l.length = L at *
  have HLn := Lib.hid hLn
  have LOK := Lib.hid lok
  clear hLn lok
  go_wp2_with fail
  refine (modulo5 off 40 _ (by omega) (by omega)).mono ?_
  rintro e w2 ⟨rfl, rfl⟩
  have o1 := Int.emod_nonneg off (show (40 : Int) ≠ 0 by omega)
  have o2 := Int.emod_lt_of_pos off (show (0 : Int) < 40 by omega)
  generalize off % 40 = o at *
  go_wp2_with fail
  refine (modulo5 x 8192 _ (by omega) (by omega)).mono ?_
  rintro e w2 ⟨rfl, rfl⟩
  have x1 := Int.emod_nonneg x (show (8192 : Int) ≠ 0 by omega)
  have x2 := Int.emod_lt_of_pos x (show (0 : Int) < 8192 by omega)
  generalize x % 8192 = X at *
  go_wp2_with fail
  go_loopw [10, 11, 12] (fun v i _ wr => ∃ k : Nat, k ≤ L ∧ i = .int .i64 k ∧ wr.ownsRow w1.heap.size 2 1 v k (ints .i64 (rS X moves o k)) ∧ Below w1.heap.size w1 wr) (fun _ i _ _ => L - (intOf i).toNat)
  case atStart => exact ⟨0, by omega, rfl, World.ownsRow_nil _ _ _ _, Below.refl _ _⟩
  case round =>
    obtain ⟨k, hk, rfl, hown, hbel⟩ := hrel
    have hsz := hbel.size
    by_cases hlt : k < L
    · have HO := Lib.hid hown
      clear hown
      have mb := moveS_bd moves o k o1
      by_cases hk2 : k < n'
      · obtain ⟨b, of_, rfl, hb, hz, hc⟩ := (hmv.below hbel).atInt hk2
        have hms : moveS moves o k = moves[k] % (2 * o + 1) - o := by
          unfold moveS
          rw [if_pos hz, List.getD_eq_getElem?_getD, List.getElem?_eq_getElem hz]; rfl
        rw [hms] at mb
        have HMS := Lib.hid hms
        clear hms
        go_wp2_with fail
        refine (modulo5 _ _ _ (by omega) (by omega)).mono ?_
        rintro e w3 ⟨rfl, rfl⟩
        go_wp2_with (at_builtin; refine wpList_append_own _ rfl _ _ 22 rfl w1.heap.size 2 i0 (.int .i64 0) 1 8 Try.underlying22 hi0 hz0 hz1 hz2 rfl (by decide) _ _ _ rfl (HO.out.alloc _) ⟨wr.heap.size, 0, none⟩ 1 1 [.int .i64 (X + (moves[k] % (2 * o + 1) - o))] rfl rfl (cell_new1 _ _ _) (by simp [Value.oneCell']) (by simp only [maxLen]; omega) (by omega) (by simp; omega) ?_)
        intro v' w3 hown3 hgr _
        have R1 : w3.ownsRow w1.heap.size 2 1 v' (k + 1) (ints .i64 (rS X moves o (k + 1))) := by
          rw [rS_succ, HMS.out, ints, List.map_append]
          exact hown3
        have R2 : Below w1.heap.size w1 w3 := (hbel.alloc hsz _).grown hgr (by simp; omega) (fun q hq => (HO.out.lt q hq).1)
        clear hown3 hgr
        go_wp2
        go_roundw
        case rel => exact ⟨k + 1, by omega, by go_num, R1, R2⟩
        case measure => simp [intOf]; omega
      · have hms : moveS moves o k = 0 := by
          unfold moveS
          rw [if_neg (by rw [hmv.lenInt]; exact hk2)]
        have HMS := Lib.hid hms
        clear hms
        go_wp2_with (at_builtin; refine wpList_append_own _ rfl _ _ 22 rfl w1.heap.size 2 i0 (.int .i64 0) 1 8 Try.underlying22 hi0 hz0 hz1 hz2 rfl (by decide) _ _ _ rfl (HO.out.alloc _) ⟨wr.heap.size, 0, none⟩ 1 1 [.int .i64 X] rfl rfl (cell_new1 _ _ _) (by simp [Value.oneCell']) (by simp only [maxLen]; omega) (by omega) (by simp; omega) ?_)
        intro v' w3 hown3 hgr _
        have R1 : w3.ownsRow w1.heap.size 2 1 v' (k + 1) (ints .i64 (rS X moves o (k + 1))) := by
          rw [rS_succ, HMS.out, ints, List.map_append, Int.add_zero]
          exact hown3
        have R2 : Below w1.heap.size w1 w3 := (hbel.alloc hsz _).grown hgr (by simp; omega) (fun q hq => (HO.out.lt q hq).1)
        clear hown3 hgr
        go_wp2
        go_roundw
        case rel => exact ⟨k + 1, by omega, by go_num, R1, R2⟩
        case measure => simp [intOf]; omega
    · obtain rfl : k = L := by omega
      obtain ⟨Ar, cr, rfl, hrr⟩ := Rd.own hown
      have hl2 := (hrl.below hbel).more hsz
      have hB2 := hb1.trans (hbel.mono hs1)
      have hnear : farS X (pairsS (rS X moves o k) l) ≤ o := by
        have := moved_near X o moves l o1 LOK.out
        rwa [HLn.out] at this
      clear hown hrl hbel hb1 hmv
      have HNEAR := Lib.hid hnear
      clear hnear
      generalize rS X moves o k = r at *
      go_wp2_with fail
      refine (near6 _ Ar Al k cr cl r l o 8192 _ hrr hl2 (by omega) (Nat.le_refl _) LOK.out o1 (by omega) (by omega)).mono ?_
      rintro e w3 ⟨vn, rfl, hN, hb3⟩
      generalize hNe : nearS (pairsS r l) o (8192 : Int).toNat = N at hN
      generalize hNl : N.length = nN at hN
      have HNE := Lib.hid hNe
      have HNL := Lib.hid hNl
      clear hNe hNl
      have hs3 := hb3.size
      have hr3 := (hrr.below hb3).more hs3
      have hl3 := (hl2.below hb3).more hs3
      have hB3 := below_to hB2 hb3 hB2.size
      obtain ⟨An, cn, rfl, hN3⟩ := Rd.own hN
      clear hrr hl2 hN hb3 hB2
      go_wp2_with fail
      refine (near6 _ Ar Al k cr cl r l (o + 1) 8192 _ hr3 hl3 (by omega) (Nat.le_refl _) LOK.out (by omega) (by omega) (by omega)).mono ?_
      rintro e w4 ⟨vw, rfl, hW, hb4⟩
      generalize hWe : nearS (pairsS r l) (o + 1) (8192 : Int).toNat = W at hW
      generalize hWl : W.length = nW at hW
      have HWE := Lib.hid hWe
      have HWL := Lib.hid hWl
      clear hWe hWl
      have hs4 := hb4.size
      have hr4 := (hr3.below hb4).more hs4
      have hl4 := (hl3.below hb4).more hs4
      have hN4 := (hN3.below hb4).more hs4
      have hB4 := below_to hB3 hb4 hB3.size
      obtain ⟨Aw, cw, rfl, hW4⟩ := Rd.own hW
      clear hr3 hl3 hW hb4 hB3 hN3
      have HPART : Hid (Part N W) := Lib.hid (by rw [← HNE.out, ← HWE.out]; exact part_near _ _ _)
      have HSN : Hid (N.Pairwise (· < ·)) := Lib.hid (by rw [← HNE.out]; exact nearS_sorted _ _ _)
      have HSW : Hid (W.Pairwise (· < ·)) := Lib.hid (by rw [← HWE.out]; exact nearS_sorted _ _ _)
      have hN8 : nN ≤ 8192 := by rw [← HNL.out, ← HNE.out]; exact nearS_len _ _ _
      have hW8 : nW ≤ 8192 := by rw [← HWL.out, ← HWE.out]; exact nearS_len _ _ _
      have HXN : Hid (X ∈ N) := Lib.hid (by rw [← HNE.out]; exact (mem_nearS _ _ _ _).2 ⟨x1, by omega, HNEAR.out⟩)
      go_wp2_with fail
      refine (has7 _ An nN cn N X _ hN4 (by omega)).mono ?_
      rintro e w5 ⟨rfl, rfl⟩
      rw [show decide (X ∈ N) = true from decide_eq_true HXN.out]
      go_wp2_with fail
      go_loopw [17, 18] (fun p q wr => ∃ i kk : Nat, i ≤ nN ∧ kk ≤ nW ∧ p = .int .i64 kk ∧ q = .int .i64 i ∧ Ptr N W i kk ∧ Below w4.heap.size w4 wr) (fun _ q _ => nN - (intOf q).toNat)
      case atStart => exact ⟨0, 0, by omega, by omega, rfl, rfl, Ptr.zero _ _, Below.refl _ _⟩
      case round =>
        obtain ⟨i, kk, hi, hkk, rfl, rfl, hptr, hbel⟩ := hrel
        obtain ⟨wo, rfl⟩ : ∃ wo : World, wo = wr := ⟨_, rfl⟩
        have HPTR := Lib.hid hptr
        clear hptr
        by_cases hlt : i < nN
        · have hz : i < N.length := by rw [HNL.out]; exact hlt
          obtain ⟨b, of_, rfl, hb, hcN⟩ := hN4.2 (by omega)
          obtain ⟨q, hq, hqe⟩ := HPART.out i hz
          have hkq : kk ≤ q := HPTR.out hz q hq hqe
          have HQE := Lib.hid hqe
          clear hqe
          have hqW : q < nW := by rw [← HWL.out]; exact hq
          obtain ⟨b2, of2, rfl, hb2, hcW⟩ := hW4.2 (by omega)
          have HCN : Hid (∀ (W' : World), Below w4.heap.size w4 W' → ∀ j (hj : j < N.length), W'.cell? ⟨b, of_ + j, none⟩ = some (.int .i64 N[j])) :=
            Lib.hid fun W' hW' j hj => (hW'.cell (p := ⟨b, of_ + j, none⟩) hb).trans (hcN j _ (by simp [hj]))
          have HCW : Hid (∀ (W' : World), Below w4.heap.size w4 W' → ∀ j (hj : j < W.length), W'.cell? ⟨b2, of2 + j, none⟩ = some (.int .i64 W[j])) :=
            Lib.hid fun W' hW' j hj => (hW'.cell (p := ⟨b2, of2 + j, none⟩) hb2).trans (hcW j _ (by simp [hj]))
          clear hcN hcW
          have hNq : (↑i : Int) < (↑nN : Int) := by omega
          go_wp2_with fail
          go_loopw [17] (fun p wr => ∃ k2 : Nat, k2 ≤ q ∧ p = .int .i64 k2 ∧ Below w4.heap.size w4 wr) (fun p _ => nW - (intOf p).toNat)
          case atStart => exact ⟨kk, hkq, rfl, hbel⟩
          case round =>
            obtain ⟨k2, hk2, rfl, hbel2⟩ := hrel
            have gd : decide ((k2 : Int) < (nW : Int)) = true := by simp; omega
            have gd2 : (k2 : Int) < (nW : Int) := by omega
            have hcn := HCN.out _ hbel2 i hz
            by_cases hk3 : k2 < q
            · have hcw := HCW.out _ hbel2 k2 (by omega)
              have hlt2 : W[k2] < N[i] := by
                have := List.pairwise_iff_getElem.1 HSW.out k2 q (by omega) hq hk3
                rw [HQE.out] at this
                exact this
              go_wp2_with fail
              go_quiet (fail)
              go_wp2_with fail
              go_roundw
              case rel => exact ⟨k2 + 1, by omega, by go_num, ⟨hbel2.os, hbel2.tape, hbel2.output, hbel2.size, hbel2.block⟩⟩
              case measure => simp [intOf]; omega
            · obtain rfl : k2 = q := by omega
              have hcw := HCW.out _ hbel2 k2 hq
              rw [HQE.out] at hcw
              have ge : ((k2 : Int) == (nW : Int)) = false := by simp; omega
              go_wp2_with fail
              go_quiet (fail)
              go_wp2_with fail
              have hst : Ptr N W (i + 1) k2 := Ptr.step HSN.out HSW.out hz hq HQE.out
              have HST := Lib.hid hst
              clear hst
              by_cases hi0 : i = 0
              · have gi : decide ((0 : Int) < (i : Int)) = false := by simp; omega
                have gi2 : decide (0 < i) = false := by simp; omega
                clear hi0
                go_quiet (fail)
                go_wp2_with fail
                go_roundw
                case rel => exact ⟨i + 1, k2, by omega, by omega, rfl, by go_num, HST.out, ⟨hbel2.os, hbel2.tape, hbel2.output, hbel2.size, hbel2.block⟩⟩
                case measure => simp [intOf]; omega
              · have hi1 : 0 < i := by omega
                have hcj := HCN.out _ hbel2 (i - 1) (by omega)
                have hlt3 : N[i - 1] < N[i] := List.pairwise_iff_getElem.1 HSN.out (i - 1) i (by omega) hz (by omega)
                have gj : (0 : Int) < (i : Int) := by omega
                have gj1 : (0 : Int) ≤ (i : Int) - 1 := by omega
                have gj2 : (i : Int) - 1 < (nN : Int) := by omega
                have gj3 : ((i : Int) - 1).toNat = i - 1 := by omega
                have gj4 : IntKind.i64.wrap ((i : Int) - 1) = (i : Int) - 1 := by rw [IntKind.wrap_i64]; omega
                have gj5 : (1 : Int) ≤ (i : Int) := by omega
                go_quiet (fail)
                clear gj3 gj4
                go_wp2_with fail
                go_roundw
                case rel => exact ⟨i + 1, k2, by omega, by omega, rfl, by go_num, HST.out, ⟨hbel2.os, hbel2.tape, hbel2.output, hbel2.size, hbel2.block⟩⟩
                case measure => simp [intOf]; omega
        · have hs5 := hbel.size
          have hr5 := (hr4.below hbel).more hs5
          have hl5 := (hl4.below hbel).more hs5
          have hB5 := below_to hB4 hbel hB4.size
          clear hr4 hl4 hbel hB4 hN4 hW4 HPTR HPART HSN HSW
          go_wp2_with fail
          refine (best8 _ Ar Al k cr cl r l 8192 _ hr5 hl5 (by omega) (Nat.le_refl _) LOK.out (by omega) (by omega)).mono ?_
          rintro e w6 ⟨rfl, hb6⟩
          have hs6 := hb6.size
          have hr6 := (hr5.below hb6).more hs6
          have hl6 := (hl5.below hb6).more hs6
          have hB6 := below_to hB5 hb6 hB5.size
          clear hr5 hl5 hb6 hB5
          obtain ⟨t1, t2, t3, t4, t5⟩ := bestS_spec (pairsS r l) (8192 : Int).toNat
          have t6 : (bestS (pairsS r l) (8192 : Int).toNat).2 ≤ o := by
            have := t1 X.toNat (by omega)
            rw [Int.toNat_of_nonneg x1] at this
            exact Int.le_trans this HNEAR.out
          have t7 : 0 ≤ (bestS (pairsS r l) (8192 : Int).toNat).2 := by rw [← t4]; exact farS_nonneg _ _
          generalize (bestS (pairsS r l) (8192 : Int).toNat).1 = y at *
          generalize (bestS (pairsS r l) (8192 : Int).toNat).2 = least at *
          have y1 : y < 8192 := by rcases t3 with h | h <;> omega
          have T1 := Lib.hid t1
          have T4 := Lib.hid t4
          have T5 := Lib.hid t5
          clear t1 t3 t4 t5
          go_wp2_with fail
          refine (near6 _ Ar Al k cr cl r l least 8192 _ hr6 hl6 (by omega) (Nat.le_refl _) LOK.out t7 (by omega) (by omega)).mono ?_
          rintro e w7 ⟨vf, rfl, hF, hb7⟩
          have hfirst : ∃ rest, nearS (pairsS r l) least (8192 : Int).toNat = y :: rest := near_first _ _ _ _ t2 (by omega) T4.out T5.out
          obtain ⟨rest, hrest⟩ := hfirst
          rw [hrest] at hF
          clear hrest
          have hs7 := hb7.size
          have hr7 := (hr6.below hb7).more hs7
          have hl7 := (hl6.below hb7).more hs7
          have hB7 := below_to hB6 hb7 hB6.size
          obtain ⟨Af, cf, rfl, hF7⟩ := Rd.own hF
          obtain ⟨bf, off_, rfl, hbf, hzf, hcf⟩ := hF7.atInt (k := 0) (by simp)
          simp at hcf
          generalize hfl : (y :: rest).length = nF at *
          have hfp : 0 < nF := by rw [← hfl]; simp
          have ge0 : ((nF : Int) == 0) = false := by simp; omega
          clear hfl hr6 hl6 hF hF7 hb7 hB6
          go_wp2_with fail
          · have l0 : 0 < least := by assumption
            refine (near6 _ Ar Al k cr cl r l (least - 1) 8192 _ hr7 hl7 (by omega) (Nat.le_refl _) LOK.out (by omega) (by omega) (by omega)).mono ?_
            rintro e w8 ⟨v0, rfl, hF, hb8⟩
            rw [near_none _ least _ T1.out] at hF
            have hB8 := below_to hB7 hb8 hB7.size
            obtain ⟨A0, c0, rfl, _⟩ := Rd.own hF
            clear hF hr7 hl7 hB7 hb8
            go_wp2_with fail
            refine (wakes9 _).mono ?_
            rintro e w9 ⟨rfl, hb9⟩
            go_wp2_with fail
            go_ret
            exact ⟨rfl, below_to hB8 hb9 hB8.size⟩
          · refine (wakes9 _).mono ?_
            rintro e w9 ⟨rfl, hb9⟩
            go_wp2_with fail
            go_ret
            exact ⟨rfl, below_to hB7 hb9 hB7.size⟩
end Go.Proofs.Ytojjmkoelggfbaa
