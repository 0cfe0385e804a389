/- The walk of PlanRows. -/
import Derived.Test.YtcffjobefgecdaaSh
import Derived.Laws.AppendOwnNone
namespace Go.Proofs.Ytcffjobefgecdaa
open Go.RowKit

theorem Many.grown {w W W' : World} {ps : List (PSt × Nat)} (h : Many w W ps) {base sz n : Nat} {v : Value} {xs : List Value} (ho : W.ownsRow base 42 sz v n xs) (hb : w.heap.size ≤ base) (hg : W.grownBy W' v.ownBlock) : Many w W' ps := by
  obtain ⟨h0, E, h1, h2⟩ := h
  have hz := h0.size
  refine ⟨h0.grown hg hz (fun q hq => Nat.le_trans hb (ho.lt q hq).1), E, fun i s p hi => ⟨(h1 i s p hi).1.keep fun g hgo => hg.block g ((h1 i s p hi).1.lt g hgo) ?_, (h1 i s p hi).2⟩, h2⟩
  rcases ho.2 with ⟨rfl, _⟩ | ⟨g', cap, cur, rfl, _, hh, _⟩
  · simp [Value.ownBlock]
  · simp only [Value.ownBlock, ne_eq, Option.some.injEq]
    rintro rfl
    exact (h1 i s p hi).1.not_own (show Bk W g 42 cur from hh) (by decide) (by decide) (by decide) hgo
theorem own_other {W W' : World} {b1 b2 sz n n2 : Nat} {e : TypeId} {v v2 : Value} {xs ys : List Value} {sz2 : Nat} {e2 : TypeId} (h : W.ownsRow b1 e sz v n xs) (h2 : W.ownsRow b2 e2 sz2 v2 n2 ys) (hg : W.grownBy W' v2.ownBlock) (hlt : ∀ k, v.ownBlock = some k → k < b2) : W'.ownsRow b1 e sz v n xs := by
  refine h.kept hg ?_
  cases hv : v.ownBlock with
  | none => exact .inl rfl
  | some k =>
    refine .inr fun e => ?_
    have h3 := hlt k hv
    have h4 := (h2.lt k e.symm).1
    omega
theorem slots_one (l : List PSlot) : ∀ u ∈ slotsL l, u.oneCell' = true := by
  intro u hu
  obtain ⟨x, _, hx⟩ := List.mem_flatMap.1 hu
  simp at hx
  rcases hx with rfl | rfl | rfl | rfl <;> rfl
theorem slotsL_append (a b : List PSlot) : slotsL (a ++ b) = slotsL a ++ slotsL b := by simp [slotsL]
theorem wpList_slots (w : World) {ops : Array Oper} {rest : List Oper} {o : Oper} {a : Act} {Q : Exit → Act → World → Prop} (hgd : o.guard = none) (s x : Operand)
    (ho : o.op = .call { callee := .builtin .append, args := #[s, x], argTypes := #[45, 45] }) (base b2 : Nat) (v v2 : Value) (xs ys : List PSlot) (hs : a.eval s = v) (hown : w.ownsRow base 42 4 v xs.length (slotsL xs)) (hx : a.eval x = v2) (h2 : w.ownsRow b2 42 4 v2 ys.length (slotsL ys))
    (hlen : xs.length + ys.length ≤ 100000) (hbase : base ≤ w.heap.size)
    (h : ∀ v' w', w'.ownsRow base 42 4 v' (xs ++ ys).length (slotsL (xs ++ ys)) → w.grownBy w' v.ownBlock → wpList Try.prog ops Q rest (a.put o.dst v') w') : wpList Try.prog ops Q (o :: rest) a w := by
  obtain ⟨i42, hi, hz, hsz, hby⟩ := info_parts info42
  rcases h2.2 with ⟨rfl, he⟩ | ⟨g, cap, cur, rfl, hr⟩
  · have hy : ys = [] := by
      cases ys with
      | nil => rfl
      | cons y t => simp at he
    subst hy
    refine wpList_append_own_none hgd s x 45 ho base 42 i42 4 Try.underlying45 hi v _ _ hs hown hx (h v w ?_ ?_)
    · rw [List.append_nil]; exact hown
    · exact ⟨rfl, rfl, rfl, Nat.le_refl _, fun _ _ _ => rfl⟩
  · refine wpList_append_own w hgd s x 45 ho base 42 i42 _ 4 32 Try.underlying45 hi hz hsz hby rfl (by decide) v _ _ hs hown ⟨g, 0, none⟩ ys.length cap (slotsL ys) hx (slotsL_len ys) (h2.cells rfl) (slots_one ys) (by unfold maxLen; omega) (by omega) hbase ?_
    intro v' w' h3 h4 _
    refine h v' w' ?_ h4
    rw [List.length_append, slotsL_append]
    exact h3
theorem Told.task {L : List AL} {n m : Nat} {l : List PSlot} (h : Told L n m l) : ∀ x ∈ l, ∃ i : Nat, i < L.length ∧ x.task = i := by
  induction h with
  | nil h hid => intro x hx; cases hx
  | cons nf hid ft hi e1 e2 e3 hr hl ih =>
    intro x hx
    rcases List.mem_cons.1 hx with rfl | hx
    · exact ⟨_, hi, e1⟩
    · exact ih x hx

set_option maxRecDepth 100000 in
set_option maxHeartbeats 4000000 in
theorem rows6 (B : Nat) (A0 A1 : Option Addr) (n0 c0 n1 c1 : Nat) (l : List PTask) (cuts : List Int) (x : Int) (w : World) (h0 : Rd w B 3 A0 n0 (tasksL l)) (h1 : Rd w B 1 A1 n1 (ints .u8 cuts)) (hB : B ≤ w.heap.size) (hn0 : n0 ≤ 9223372036854775807) (hn1 : n1 ≤ 9223372036854775807)
    (ht : ∀ t ∈ l, TB t) (hc : ∀ x ∈ cuts, 0 ≤ x ∧ x ≤ 255) (hx0 : 0 ≤ x) (hx1 : x ≤ 65535) :
    Calls Try.prog 6 #[.slice A0 n0 c0, .slice A1 n1 c1, .int .u16 x] w fun e w' => e = .returned (.bool true) ∧ Below w.heap.size w w' := by
  have H1 := Lib.hid h1
  have HC := Lib.hid hc
  clear h1 hc
  go_enter Try.func6, Try.ntmps6
  go_wp2_with fail
  refine (few20 B A0 n0 c0 l 60 w h0 hB hn0 (by omega) (by omega) ht).mono ?_
  rintro e w1 ⟨v, rfl, hown, hb1⟩
  obtain ⟨f1, f2, f3, f4⟩ := few_ok (most := 60) (by omega) (by omega) l
  generalize fewS 60 l = F at *
  obtain ⟨A, c, rfl, hrd, hc⟩ := Rd.ownC hown
  have HRD := Lib.hid hrd
  have HF1 := Lib.hid f1
  have HF2 := Lib.hid f2
  have HF4 := Lib.hid f4
  have HM1 := Lib.hid ((Many.zero w).below hb1)
  clear f1 f2 f4 h0 ht hown hb1 hrd
  have hx600 := Int.emod_nonneg x (show (600 : Int) ≠ 0 by omega)
  have hx601 := Int.emod_lt_of_pos x (show (0 : Int) < 600 by omega)
  obtain ⟨E, hE⟩ : ∃ E : Nat, x % 600 + 1 = (E : Int) := ⟨(x % 600 + 1).toNat, by omega⟩
  have hE1 : 1 ≤ E := by omega
  have hE2 : E ≤ 600 := by omega
  go_wp2_with fail
  refine (new_many HM1.out HF2.out HRD.out (Nat.le_refl _) (by omega)).mono ?_
  rintro e w2 ⟨p, rfl, hM2, hbw2⟩
  have HM2 := Lib.hid (show Many w w2 [(newS F, p)] from hM2)
  have HRD2 := Lib.hid (HRD.out.below hbw2)
  have hz1 : w1.heap.size ≤ w2.heap.size := hbw2.size
  clear hM2 hbw2 hx600 hx601 HM1 HRD
  go_wp2_with fail
  refine (new_many HM2.out HF2.out HRD2.out hz1 (by omega)).mono ?_
  rintro e w3 ⟨pq, rfl, hM3, hbw3⟩
  have HM3 := Lib.hid (show Many w w3 [(newS F, p), (newS F, pq)] from hM3)
  clear hM3 hbw3 HM2 HRD2 hz1
  go_wp2_with fail
  obtain ⟨m, q0, q1, q2, q3, q4⟩ := untilS_ticks E (ts_new HF1.out) (by omega) (by omega)
  obtain rfl : m = E := by omega
  have hlen : (untilS (newS F) m).2.length ≤ 1000 := by have := q3.len; omega
  have hun := until_many HM3.out (i := 0) rfl m HF4.out (by omega)
  have hok := untilS_ok m HF4.out
  obtain ⟨sp, whole, hus⟩ : ∃ s' out, untilS (newS F) m = (s', out) := ⟨_, _, rfl⟩
  rw [hus] at q2 q3 q4 hlen hun hok
  have HQ2 := Lib.hid q2
  have HQ3 := Lib.hid q3
  have HOK := Lib.hid hok
  clear q0 q1 q2 q3 q4 hok hus
  refine hun.mono ?_
  rintro e w4 ⟨vw, rfl, hown, hM4, hkp4⟩
  have HM4 := Lib.hid (show Many w w4 [(sp, p), (newS F, pq)] from hM4)
  have HW4 := Lib.hid hown
  have hz4 : w.heap.size ≤ w4.heap.size := hM4.base.size
  have hlw := hown.lt
  have HLW := Lib.hid hlw
  clear hown hM4 hun HM3 hlw hkp4
  go_wp2_with fail
  go_loopw [14, 15, 16] (fun v a i wr => ∃ (k q : Nat) (sq : PSt) (parts : List PSlot), k ≤ n1 ∧ i = .int .i64 k ∧ a = .int .i64 q ∧ q ≤ m ∧ Many w wr [(sp, p), (sq, pq)] ∧ StOk 1 sq ∧ TS (ini F) sq q ∧
    wr.ownsRow w4.heap.size 42 4 v parts.length (slotsL parts) ∧ Told (ini F) 0 q parts ∧ wr.ownsRow w3.heap.size 42 4 vw whole.length (slotsL whole) ∧ w4.heap.size ≤ wr.heap.size) (fun _ _ i _ => n1 - (intOf i).toNat)
  case atStart => exact ⟨0, 0, newS F, [], by omega, rfl, rfl, by omega, HM4.out, HF4.out, ts_new HF1.out, World.ownsRow_nil _ _ _ _, .nil (Nat.le_refl _) (fun q h1 h2 => by omega), HW4.out, Nat.le_refl _⟩
  case round =>
    obtain ⟨k, q, sq, parts, hk, rfl, rfl, hqm, hM, hok, hts, hown, htold, hwh, hzr⟩ := hrel
    have hpl : parts.length ≤ 1000 := by have := htold.len; omega
    have HM := Lib.hid hM
    have HOKQ := Lib.hid hok
    have HTS := Lib.hid hts
    have HO := Lib.hid hown
    have HT := Lib.hid htold
    have HWH := Lib.hid hwh
    have hbel := hM.base
    have hnow := hts.now
    clear hok hts hown htold hwh
    by_cases hlt : k < n1 ∧ q < m
    · obtain ⟨l1, l2⟩ := hlt
      obtain ⟨b, off, rfl, hb, hz, hc⟩ := ((H1.out.below (hbel.mono hB))).atInt l1
      obtain ⟨s1, s2⟩ := HC.out _ (List.getElem_mem hz)
      generalize cuts[k] = y at *
      have y0 := Int.emod_nonneg y (show (40 : Int) ≠ 0 by omega)
      have y1 := Int.emod_lt_of_pos y (show (0 : Int) < 40 by omega)
      obtain ⟨Y, hY⟩ : ∃ Y : Nat, y % 40 = (Y : Int) := ⟨(y % 40).toNat, by omega⟩
      clear hM hbel hnow
      go_wp2_with fail
      · obtain ⟨Q, hQ⟩ : ∃ Q : Nat, (q : Int) + (Y : Int) = (Q : Int) := ⟨q + Y, rfl⟩
        rw [hQ]
        obtain ⟨m', u0, u1, u2, u3, u4⟩ := untilS_ticks Q HTS.out (by omega) (by omega)
        obtain rfl : Q = m' := by omega
        have hun := until_many HM.out (i := 1) rfl Q HOKQ.out (by omega)
        have hok' := untilS_ok Q HOKQ.out
        have hlen2 : (untilS sq Q).2.length ≤ 1000 := by have := u3.len; omega
        obtain ⟨s', out, hus⟩ : ∃ s' out, untilS sq Q = (s', out) := ⟨_, _, rfl⟩
        rw [hus] at u2 u3 hun hok' hlen2
        have HU2 := Lib.hid u2
        have HU3 := Lib.hid (HT.out.append u3)
        have HOK' := Lib.hid hok'
        clear u1 u2 u3 u4 hok' hus
        refine hun.mono ?_
        rintro e w5 ⟨vo, rfl, hown5, hM5, hkp5⟩
        have HM5 := Lib.hid (show Many w w5 [(sp, p), (s', pq)] from hM5)
        have HO5 := Lib.hid (hkp5.row HO.out (by decide) (by decide) (by decide))
        have HWH5 := Lib.hid (hkp5.row HWH.out (by decide) (by decide) (by decide))
        have HN5 := Lib.hid hown5
        have hz5 : w4.heap.size ≤ w5.heap.size := Nat.le_trans hzr hkp5.1
        clear hown5 hM5 hkp5 hun
        go_wp2_with (at_builtin; refine wpList_slots _ rfl _ _ rfl w4.heap.size _ _ _ parts out rfl HO5.out rfl HN5.out (by omega) (by omega) ?_)
        intro v' w6 hown6 hgr
        have HO6 := Lib.hid hown6
        have HM6 := Lib.hid (HM5.out.grown HO5.out hz4 hgr)
        have HWH6 := Lib.hid (own_other HWH5.out HO5.out hgr fun k hk => (HLW.out k hk).2)
        have HZ6 := Lib.hid hgr.size
        clear hown6 hgr
        go_wp2_with fail
        go_roundw
        case rel => exact ⟨k + 1, Q, s', parts ++ out, by omega, by go_num, rfl, by omega, HM6.out, HOK'.out, HU2.out, by rw [List.length_append]; exact HO6.out, HU3.out, HWH6.out, Nat.le_trans hz5 HZ6.out⟩
        case measure => simp [intOf]; omega
      · obtain ⟨m', u0, u1, u2, u3, u4⟩ := untilS_ticks m HTS.out (by omega) (by omega)
        obtain rfl : m = m' := by omega
        have hun := until_many HM.out (i := 1) rfl m HOKQ.out (by omega)
        have hok' := untilS_ok m HOKQ.out
        have hlen2 : (untilS sq m).2.length ≤ 1000 := by have := u3.len; omega
        obtain ⟨s', out, hus⟩ : ∃ s' out, untilS sq m = (s', out) := ⟨_, _, rfl⟩
        rw [hus] at u2 u3 hun hok' hlen2
        have HU2 := Lib.hid u2
        have HU3 := Lib.hid (HT.out.append u3)
        have HOK' := Lib.hid hok'
        clear u1 u2 u3 u4 hok' hus
        refine hun.mono ?_
        rintro e w5 ⟨vo, rfl, hown5, hM5, hkp5⟩
        have HM5 := Lib.hid (show Many w w5 [(sp, p), (s', pq)] from hM5)
        have HO5 := Lib.hid (hkp5.row HO.out (by decide) (by decide) (by decide))
        have HWH5 := Lib.hid (hkp5.row HWH.out (by decide) (by decide) (by decide))
        have HN5 := Lib.hid hown5
        have hz5 : w4.heap.size ≤ w5.heap.size := Nat.le_trans hzr hkp5.1
        clear hown5 hM5 hkp5 hun
        go_wp2_with (at_builtin; refine wpList_slots _ rfl _ _ rfl w4.heap.size _ _ _ parts out rfl HO5.out rfl HN5.out (by omega) (by omega) ?_)
        intro v' w6 hown6 hgr
        have HO6 := Lib.hid hown6
        have HM6 := Lib.hid (HM5.out.grown HO5.out hz4 hgr)
        have HWH6 := Lib.hid (own_other HWH5.out HO5.out hgr fun k hk => (HLW.out k hk).2)
        have HZ6 := Lib.hid hgr.size
        clear hown6 hgr
        go_wp2_with fail
        go_roundw
        case rel => exact ⟨k + 1, m, s', parts ++ out, by omega, by go_num, rfl, by omega, HM6.out, HOK'.out, HU2.out, by rw [List.length_append]; exact HO6.out, HU3.out, HWH6.out, Nat.le_trans hz5 HZ6.out⟩
        case measure => simp [intOf]; omega
    · clear hM hbel hnow
      by_cases l1 : k < n1
      all_goals
        go_wp2_with fail
        obtain ⟨m', u0, u1, u2, u3, u4⟩ := untilS_ticks m HTS.out (by omega) (by omega)
        obtain rfl : m = m' := by omega
        have hun := until_many HM.out (i := 1) rfl m HOKQ.out (by omega)
        have hok' := untilS_ok m HOKQ.out
        have hlen2 : (untilS sq m).2.length ≤ 1000 := by have := u3.len; omega
        obtain ⟨s', out, hus⟩ : ∃ s' out, untilS sq m = (s', out) := ⟨_, _, rfl⟩
        rw [hus] at u2 u3 hun hok' hlen2
        have HU2 := Lib.hid u2
        have HU3 := Lib.hid (HT.out.append u3)
        have HOK' := Lib.hid hok'
        clear u1 u2 u3 u4 hok' hus
        refine hun.mono ?_
        rintro e w5 ⟨vo, rfl, hown5, hM5, hkp5⟩
        have HM5 := Lib.hid (show Many w w5 [(sp, p), (s', pq)] from hM5)
        have HO5 := Lib.hid (hkp5.row HO.out (by decide) (by decide) (by decide))
        have HWH5 := Lib.hid (hkp5.row HWH.out (by decide) (by decide) (by decide))
        have HN5 := Lib.hid hown5
        have hz5 : w4.heap.size ≤ w5.heap.size := Nat.le_trans hzr hkp5.1
        clear hown5 hM5 hkp5 hun
        go_wp2_with (at_builtin; refine wpList_slots _ rfl _ _ rfl w4.heap.size _ _ _ parts out rfl HO5.out rfl HN5.out (by omega) (by omega) ?_)
        intro v' w6 hown6 hgr
        have HM6 := Lib.hid (HM5.out.grown HO5.out hz4 hgr)
        have HWH6 := Lib.hid (own_other HWH5.out HO5.out hgr fun k hk => (HLW.out k hk).2)
        obtain ⟨all, hall⟩ : ∃ all, parts ++ out = all := ⟨_, rfl⟩
        have hown6a : w6.ownsRow w4.heap.size 42 4 v' all.length (slotsL all) := by rw [← hall, List.length_append]; exact hown6
        have HU4 := Lib.hid (show Told (ini F) 0 m all by rw [← hall]; exact HU3.out)
        obtain ⟨A6, c6, rfl, hrd6⟩ := Rd.own hown6a
        obtain ⟨A7, c7, rfl, hrd7⟩ := Rd.own HWH6.out
        have HR6 := Lib.hid hrd6
        have HR7 := Lib.hid hrd7
        clear hown6 hgr hrd6 hrd7 hown6a hall
        go_wp2_with fail
        refine (ticks21 (ini F) w6.heap.size A7 _ c7 m whole w6 HR7.out (Nat.le_refl _) HQ3.out (by omega) (by omega)).mono ?_
        rintro e w7 ⟨rfl, hbk7, hb7⟩
        have HBK7 := Lib.hid hbk7
        have HR67 := Lib.hid (HR6.out.below hb7)
        have HR77 := Lib.hid (HR7.out.below hb7)
        have HM7 := Lib.hid (HM6.out.below hb7)
        have hz7 : w6.heap.size ≤ w7.heap.size := hb7.size
        clear hbk7 hb7
        go_wp2_with fail
        ((with_reducible refine (ticks21 (ini F) w6.heap.size A6 _ c6 m all w7 HR67.out hz7 HU4.out (by omega) (by omega)).mono ?_))
        rintro e w8 ⟨rfl, hbk8, hb8⟩
        have HBK8 := Lib.hid hbk8
        have HBK78 := Lib.hid (HBK7.out.below hb8 HBK7.out.lt)
        have HR78 := Lib.hid (HR77.out.below (hb8.mono hz7))
        have HM8 := Lib.hid (HM7.out.below hb8)
        clear hbk8 hb8
        have hn0 := HQ2.out.now
        have hn1 := HU2.out.now
        have hcn0 := now_many HM8.out (i := 0) rfl
        have hcn1 := now_many HM8.out (i := 1) rfl
        rw [hn0] at hcn0
        rw [hn1] at hcn1
        have HCN0 := Lib.hid hcn0
        have HCN1 := Lib.hid hcn1
        have e0 : ((m : Int) != m) = false := by simp
        clear hn0 hn1 hcn0 hcn1
        go_wp2_with fail
        refine HCN0.out.mono ?_
        rintro e W ⟨rfl, rfl⟩
        go_wp2_with fail
        refine HCN1.out.mono ?_
        rintro e W ⟨rfl, rfl⟩
        go_wp2_with fail
        go_loopw [21] (fun i wl => ∃ j : Nat, j ≤ m ∧ i = .int .i64 j ∧ Bk wl w6.heap.size 3 (intsA (rowAt (ini F) m m)) ∧ Bk wl w7.heap.size 3 (intsA (rowAt (ini F) m m)) ∧ Many w wl [(sp, p), (s', pq)] ∧ Rd wl w6.heap.size 4 A7 whole.length (slotsL whole)) (fun i _ => m - (intOf i).toNat)
        case atStart => exact ⟨0, by omega, rfl, HBK78.out, HBK8.out, HM8.out, HR78.out⟩
        case round =>
          obtain ⟨j, hj, rfl, hk1, hk2, hMl, hRl⟩ := hrel
          have HK1 := Lib.hid hk1
          have HK2 := Lib.hid hk2
          have HML := Lib.hid hMl
          have HRL := Lib.hid hRl
          by_cases hjm : j < m
          · have x0 := (hk1.cell j).trans (intsA_at _ j (by rw [row_len]; exact hjm))
            have x1 := (hk2.cell j).trans (intsA_at _ j (by rw [row_len]; exact hjm))
            have e1 : ((rowAt (ini F) m m)[j]'(by rw [row_len]; exact hjm) != (rowAt (ini F) m m)[j]'(by rw [row_len]; exact hjm)) = false := by simp
            generalize (rowAt (ini F) m m)[j]'(by rw [row_len]; exact hjm) = y at x0 x1 e1
            clear hk1 hk2 hMl hRl
            go_wp2_with fail
            go_quiet (fail)
            go_wp2_with fail
            go_roundw
            case rel => exact ⟨j + 1, by omega, by go_num, HK1.out.drewN _, HK2.out.drewN _, HML.out.drewN _, HRL.out.drewN _⟩
            case measure => simp [intOf]; omega
          · clear hk1 hk2 hMl hRl
            go_wp2_with fail
            go_loop [22] (fun i => ∃ j : Nat, i = .int .i64 j ∧ j ≤ whole.length + 1) (fun i => whole.length + 1 - (intOf i).toNat)
            case atStart => exact ⟨1, rfl, by omega⟩
            case round =>
              obtain ⟨g, rfl, hg⟩ := hrel
              by_cases hgl : g < whole.length
              · obtain ⟨b', off', hgl', rfl, hb', x0, x1, x2, x3⟩ := HRL.out.slot hgl
                obtain ⟨i, hi, hti⟩ := HQ3.out.task _ (List.getElem_mem hgl')
                rw [hti] at x0
                rw [ini_len] at hi
                have d1 : decide ((i : Int) < 0) = false := decide_eq_false (by omega)
                have d2 : decide ((F.length : Int) ≤ i) = false := decide_eq_false (by omega)
                have d3 : decide (F.length ≤ i) = false := decide_eq_false (by omega)
                clear x1 x2 x3 hti
                go_wp2_with fail
                go_round
                case rel => exact ⟨g + 1, by go_num, by omega⟩
                case measure => simp [intOf]; omega
              · go_wp2_with fail
                refine (wakes9 wr).mono ?_
                rintro e W1 ⟨rfl, hb⟩
                go_wp2_with fail
                go_ret
                exact ⟨rfl, (HML.out.below hb).base⟩
end Go.Proofs.Ytcffjobefgecdaa
