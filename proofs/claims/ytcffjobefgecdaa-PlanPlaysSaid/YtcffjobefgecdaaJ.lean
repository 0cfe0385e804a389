/- The walk of New. -/
import Derived.Test.YtcffjobefgecdaaI
import Derived.Laws.MakeOwn
namespace Go.Proofs.Ytcffjobefgecdaa
open Go.RowKit

theorem info68 : (Try.prog.info? 68).map (fun i => (i.zero, i.size, i.bytes)) = some (some (.agg #[.int .i64 0, .int .i64 0, .int .i64 0, .int .i64 0, .slice none 0 0, .int .i64 0]), 6, 64) := by kernel_rfl
theorem run_make_rowN {P : Program} (t e : TypeId) (i : TypeInfo) (z : Value) (ht : P.underlying t = some (.slice e)) (hi : P.info? e = some i) (hz : i.zero = some z)
    (kl kc : IntKind) (n c : Nat) (hnc : n ≤ c) (hbytes : i.bytes * c ≤ 281474976710656) (h63 : c ≤ 9223372036854775807) (w : World) :
    (Instr.makeSlice t (.int kl (n : Int)) (.int kc (c : Int))).run P w = .ok (.slice (some ⟨w.heap.size, 0, none⟩) n c) (w.alloc (.cells (madeCells z.cells (c * i.size)) e)) := by
  have hb : (i.bytes : Int) * (c : Int) ≤ 281474976710656 := by
    have h : ((i.bytes * c : Nat) : Int) ≤ 281474976710656 := by omega
    rwa [Int.natCast_mul] at h
  have hr := run_make (P := P) w t e i z ht hi hz kl kc n c (by omega) (by omega) hb (by omega)
  simp only [Int.toNat_natCast] at hr
  exact hr

abbrev taskL (t : PTask) : List Value := [.int .i64 t.ev, .int .i64 t.lo, .int .i64 t.rk]
def tasksL (l : List PTask) : List Value := l.flatMap taskL
theorem tasksL_len (l : List PTask) : (tasksL l).length = l.length * 3 := by
  unfold tasksL
  induction l with
  | nil => rfl
  | cons a t ih => simp only [List.flatMap_cons, List.length_append, ih, List.length_cons, List.length_nil]; omega
theorem tasksL_at (l : List PTask) (j : Nat) (hj : j < l.length) (k : Nat) (hk : k < 3) : (tasksL l)[j * 3 + k]? = (taskL l[j])[k]? := by
  unfold tasksL
  induction l generalizing j with
  | nil => simp at hj
  | cons a t ih =>
    simp only [List.flatMap_cons]
    cases j with
    | zero =>
      rw [List.getElem?_append_left (by simp; omega)]
      simp
    | succ j =>
      rw [List.getElem?_append_right (by simp; omega), show (j + 1) * 3 + k - (taskL a).length = j * 3 + k by simp; omega]
      simpa using ih j (by simpa using hj)
theorem Rd.task {w : World} {B n k : Nat} {A : Option Addr} {l : List PTask} (h : Rd w B 3 A n (tasksL l)) (hk : k < n) :
    ∃ b off, ∃ hl : k < l.length, A = some ⟨b, off, none⟩ ∧ b < B ∧ w.cell? ⟨b, off + k * 3, none⟩ = some (.int .i64 l[k].ev) ∧ w.cell? ⟨b, off + k * 3 + 1, none⟩ = some (.int .i64 l[k].lo) ∧ w.cell? ⟨b, off + k * 3 + 2, none⟩ = some (.int .i64 l[k].rk) := by
  obtain ⟨b, off, e, hb, hc⟩ := h.2 (by omega)
  have hlen := h.1
  rw [tasksL_len] at hlen
  have hl : k < l.length := by omega
  refine ⟨b, off, hl, e, hb, ?_, ?_, ?_⟩
  · have := hc (k * 3 + 0) _ (tasksL_at l k hl 0 (by omega))
    simpa using this
  · have := hc (k * 3 + 1) _ (tasksL_at l k hl 1 (by omega))
    simpa [Nat.add_assoc] using this
  · have := hc (k * 3 + 2) _ (tasksL_at l k hl 2 (by omega))
    simpa [Nat.add_assoc] using this

def ln (t : PTask) : PLine := ⟨t, 0, [], 0⟩
/-- The first k tasks taken over. -/
def newTo (l : List PTask) (k : Nat) : PSt := ⟨(l.take k).map ln ++ List.replicate (l.length - k) (ln ⟨0, 0, 0⟩), 0⟩
theorem newTo_len (l : List PTask) (k : Nat) : (newTo l k).l.length = l.length := by simp [newTo]; omega
theorem newTo_all (l : List PTask) : newTo l l.length = newS l := by simp [newTo, newS, ln]
theorem newTo_at (l : List PTask) (k : Nat) (hk : k < l.length) (h : k < (newTo l k).l.length) : (newTo l k).l[k] = ln ⟨0, 0, 0⟩ := by
  simp only [newTo]
  rw [List.getElem_append_right (by simp; omega)]
  simp
theorem newTo_succ (l : List PTask) (k : Nat) (hk : k < l.length) : newTo l (k + 1) = { newTo l k with l := (newTo l k).l.set k (ln l[k]) } := by
  have hlt : ((l.take k).map ln).length = k := by simp; omega
  simp only [newTo]
  congr 1
  rw [List.take_succ_eq_append_getElem hk, List.map_append, List.set_append, if_neg (by omega), hlt, Nat.sub_self, List.append_assoc]
  congr 1
  rw [show l.length - k = (l.length - (k + 1)) + 1 by omega, List.replicate_succ, List.set_cons_zero]
  rfl

theorem made_at (z : Array Value) (n i j : Nat) (hz : z.size = 6) (hi : i < n) (hj : j < 6) (u : Value) (hu : z[j]? = some u) : (madeCells z (n * 6))[i * 6 + j]? = some u := by
  have h1 : i * 6 + j < n * 6 := by omega
  unfold madeCells
  rw [Array.getElem?_map, Array.getElem?_range, if_pos h1]
  simp only [Option.map_some]
  rw [hz, show (i * 6 + j) % 6 = j by omega]
  congr 1
  rw [Array.getElem!_eq_getD, Array.getD_eq_getD_getElem?, hu]
  rfl

/-- A plan that was just made. -/
theorem plan_new (w : World) (n : Nat) (l : List PTask) (hl : l.length = n) (p bl : Nat) (hp : Bk w p 64 #[.slice (some ⟨bl, 0, none⟩) n n, .int .i64 0])
    (hb : Bk w bl 68 (madeCells (Value.agg #[.int .i64 0, .int .i64 0, .int .i64 0, .int .i64 0, .slice none 0 0, .int .i64 0]).cells (n * 6))) :
    PlanAt w p bl n (fun _ => .slice none 0 0) (newTo l 0) := by
  subst hl
  have hlen := newTo_len l 0
  refine ⟨by rw [hlen]; exact hp, ⟨_, hb, by rw [hlen, size_madeCells]; omega, fun i hi => ?_⟩, fun i hi => ?_, fun i j hi hj hne h => absurd rfl h⟩
  · have hi' : i < l.length := by omega
    have e : (newTo l 0).l[i] = ln ⟨0, 0, 0⟩ := by simp [newTo]
    rw [e]
    have m := fun j hj u hu => made_at (Value.agg #[.int .i64 0, .int .i64 0, .int .i64 0, .int .i64 0, .slice none 0 0, .int .i64 0]).cells l.length i j rfl hi' hj u hu
    exact ⟨⟨m 0 (by omega) _ rfl, m 1 (by omega) _ rfl, m 2 (by omega) _ rfl⟩, m 3 (by omega) _ rfl, m 4 (by omega) _ rfl, m 5 (by omega) _ rfl⟩
  · have e : (newTo l 0).l[i] = ln ⟨0, 0, 0⟩ := by simp [newTo]
    rw [e]
    exact .inl ⟨rfl, none, rfl⟩

def newR (l : List PTask) : Int := if 256 < l.length then 3 else if l.all mayB then 0 else 240
def newPost (w : World) (l : List PTask) (e : Ending) (w' : World) : Prop :=
  Below w.heap.size w w' ∧
  ((newR l ≠ 0 ∧ e = .returned (.tuple #[.pointer none, .int .i64 (newR l)])) ∨
   (newR l = 0 ∧ ∃ p bl, w.heap.size ≤ p ∧ w.heap.size ≤ bl ∧ e = .returned (.tuple #[.pointer (some ⟨p, 0, none⟩), .int .i64 0]) ∧ PlanAt w' p bl l.length (fun _ => .slice none 0 0) (newS l)))

set_option maxRecDepth 100000 in
set_option maxHeartbeats 4000000 in
theorem new10 (B : Nat) (A : Option Addr) (c : Nat) (l : List PTask) (w : World) (h : Rd w B 3 A l.length (tasksL l)) (hB : B ≤ w.heap.size) (hlen : l.length ≤ 281474976710656) :
    Calls Try.prog 10 #[.slice A l.length c] w (newPost w l) := by
  by_cases hbig : 256 < l.length
  · have hR : newR l = 3 := by simp [newR, hbig]
    have HR := Lib.hid hR
    have hb' : (256 : Int) < (l.length : Int) := by omega
    clear hR h
    go_enter Try.func10, Try.ntmps10
    go_wp2_with fail
    exact bodyPost_ret (v := .tuple #[.pointer none, .int .i64 3]) (by simp [results, Try.results10, go_sem]) rfl ⟨Below.refl _ _, .inl ⟨by rw [HR.out]; decide, by rw [HR.out]⟩⟩
  · have hb' : ¬ (256 : Int) < (l.length : Int) := by omega
    have hn : l.length ≤ 256 := by omega
    obtain ⟨i68, hi, hz, hsz, hby⟩ := info_parts info68
    have hmk := fun W => run_make_rowN (P := Try.prog) 62 68 i68 _ Try.underlying62 hi hz .i64 .i64 l.length l.length (Nat.le_refl _) (by rw [hby]; omega) (by omega) W
    rw [hsz] at hmk
    have H := Lib.hid h
    have HI := Lib.hid hi
    have HZ := Lib.hid hz
    have HSZ := Lib.hid hsz
    clear h hi hz hsz hby
    obtain ⟨cs, hcs⟩ : ∃ cs, madeCells (Value.agg #[.int .i64 0, .int .i64 0, .int .i64 0, .int .i64 0, .slice none 0 0, .int .i64 0]).cells (l.length * 6) = cs := ⟨_, rfl⟩
    rw [hcs] at hmk
    have HCS := Lib.hid hcs
    clear hcs
    obtain ⟨n, hnl⟩ : ∃ n, l.length = n := ⟨_, rfl⟩
    rw [hnl] at hmk hb' hn hbig
    have HN := Lib.hid hnl
    rw [hnl]
    clear hnl
    go_enter Try.func10, Try.ntmps10
    go_wp2_with fail
    go_loopg [5, 6, 17] n (fun gq _ _ i wr => ∃ k : Nat, k ≤ n ∧ gq = n - k ∧ i = .int .i64 k ∧ PlanAt wr (w.heap.size + 1) w.heap.size n (fun _ => .slice none 0 0) (newTo l k) ∧ Below w.heap.size w wr ∧ ∀ j, j < k → ∀ hj : j < l.length, mayB l[j] = true)
    case atStart =>
      refine ⟨0, by omega, by omega, rfl, ?_, ?_, fun j hj => by omega⟩
      · refine plan_new _ n l HN.out _ _ ?_ ?_
        · have := Bk.new (w.alloc (.cells cs 68)) 64 #[.slice (some ⟨w.heap.size, 0, none⟩) n n, .int .i64 0]
          simpa using this
        · rw [← HN.out, HCS.out]
          exact (Bk.new w 68 cs).alloc _
      · exact ((Below.refl _ _).alloc (Nat.le_refl _) _).alloc (by simp) _
    case round =>
      obtain ⟨k, hk, rfl, rfl, hpl, hbl, hmay⟩ := hrel
      by_cases hlt : k < n
      · have hkl : k < l.length := by rw [HN.out]; exact hlt
        obtain ⟨b, off, hl', rfl, hb, t0, t1, t2⟩ := H.out.task hkl
        have hbw : b < w.heap.size := by omega
        have u0 := (hbl.cell (p := ⟨b, off + k * 3, none⟩) hbw).trans t0
        have u1 := (hbl.cell (p := ⟨b, off + k * 3 + 1, none⟩) hbw).trans t1
        have u2 := (hbl.cell (p := ⟨b, off + k * 3 + 2, none⟩) hbw).trans t2
        have hbr : b < wr.heap.size := Nat.lt_of_lt_of_le hbw hbl.size
        have HPL := Lib.hid hpl
        have HBL := Lib.hid hbl
        have HMAY := Lib.hid hmay
        obtain ⟨t, ht⟩ : ∃ t, l[k] = t := ⟨_, rfl⟩
        rw [ht] at u0 u1 u2
        have HT := Lib.hid ht
        clear hpl hbl hmay t0 t1 t2 ht
        go_wp2_with fail
        refine calls_gen (fun W => PlanAt W (w.heap.size + 1) w.heap.size n (fun _ => .slice none 0 0) (newTo l k) ∧ Below w.heap.size w W ∧ Bk W wr.heap.size 26 #[.int .i64 t.ev, .int .i64 t.lo, .int .i64 t.rk]) ?_ ?_
        · exact ⟨HPL.out.alloc _, HBL.out.alloc HBL.out.size _, Bk.new wr _ _⟩
        rintro W1 ⟨hp1, hb1, hk1⟩
        refine (may25 t W1).mono ?_
        rintro e W2 ⟨rfl, hbb⟩
        have hp2 := hp1.below hbb
        have hb2 := below_to hb1 hbb hb1.size
        have hk2 := hk1.below hbb hk1.lt
        have hkn : k < (newTo l k).l.length := by rw [newTo_len]; exact hkl
        have hat := newTo_at l k hkl hkn
        obtain ⟨d0, d1⟩ := hp2.head
        obtain ⟨c0, c1, c2, c3, c4, c5⟩ := hp2.cells hkn
        rw [newTo_len, HN.out] at d0
        have z0 := hp2.frozen (k * 6)
        have z1 := hp2.frozen (k * 6 + 1)
        have z2 := hp2.frozen (k * 6 + 2)
        have b0 := hk2.cell 0
        have b1 := hk2.cell 1
        have b2 := hk2.cell 2
        simp at b0 b1 b2
        have ne := hp2.not_own hk2 (by decide) (by decide) (by decide)
        have ne1 : ¬ w.heap.size = wr.heap.size := fun e => ne (.inr (.inl e.symm))
        have ne2 : ¬ w.heap.size = w.heap.size + 1 := by omega
        have HP2 := Lib.hid hp2
        have HB2 := Lib.hid hb2
        have HAT := Lib.hid hat
        clear hp1 hb1 hk1 hbb hp2 hb2 hk2 ne u0 u1 u2 hat
        cases hm : mayB t
        · have HM := Lib.hid hm
          clear hm
          go_wp2_with fail
          have hR : newR l = 240 := by
            unfold newR
            rw [if_neg (by rw [HN.out]; exact hbig), if_neg]
            intro h
            rw [List.all_eq_true] at h
            have := h l[k] (List.getElem_mem hkl)
            rw [HT.out, HM.out] at this
            cases this
          exact bodyPost_ret (v := .tuple #[.pointer none, .int .i64 240]) (by simp [results, Try.results10, go_sem]) rfl ⟨HB2.out, .inl ⟨by rw [hR]; decide, by rw [hR]⟩⟩
        · have HM := Lib.hid hm
          clear hm
          go_upto_region 9 with fail
          go_region_held3 (fun w' => w'.cell? ⟨w.heap.size + 1, 0, none⟩ = some (.slice (some ⟨w.heap.size, 0, none⟩) n n) ∧ w'.cell? ⟨wr.heap.size, 0, none⟩ = some (.int .i64 t.ev) ∧ w'.cell? ⟨wr.heap.size, 1, none⟩ = some (.int .i64 t.lo) ∧ w'.cell? ⟨wr.heap.size, 2, none⟩ = some (.int .i64 t.rk))
            (first | go_keep)
            (first | fail)
          go_wp2_with fail
          go_roundg (n - (k + 1))
          case measure => omega
          case rel =>
            refine ⟨k + 1, by omega, rfl, by go_num, ?_, ?_, ?_⟩
            · refine ((HP2.out.setTask hkn t).drewN 1).congr ?_
              rw [newTo_succ l k hkl, HT.out]
              simp only [HAT.out]
              rfl
            · exact (((HB2.out.setCell (p := ⟨w.heap.size, k * 6, none⟩) (Nat.le_refl _) _).setCell (p := ⟨w.heap.size, k * 6 + 1, none⟩) (Nat.le_refl _) _).setCell (p := ⟨w.heap.size, k * 6 + 2, none⟩) (Nat.le_refl _) _).drew
            · intro j hj hjl
              by_cases e : j = k
              · subst e
                rw [HT.out, HM.out]
              · exact HMAY.out j (by omega) hjl
      · obtain rfl : k = n := by omega
        have HPL := Lib.hid hpl
        have HBL := Lib.hid hbl
        have HMAY := Lib.hid hmay
        clear hpl hbl hmay
        go_wp2_with fail
        have hR : newR l = 0 := by
          unfold newR
          rw [if_neg (by rw [HN.out]; exact hbig), if_pos]
          rw [List.all_eq_true]
          intro x hx
          obtain ⟨j, hj, rfl⟩ := List.mem_iff_getElem.1 hx
          exact HMAY.out j (by rw [← HN.out]; exact hj) hj
        refine bodyPost_ret (v := .tuple #[.pointer (some ⟨w.heap.size + 1, 0, none⟩), .int .i64 0]) (by simp [results, Try.results10, go_sem]) rfl ⟨HBL.out, .inr ⟨hR, w.heap.size + 1, w.heap.size, Nat.le_succ _, Nat.le_refl _, rfl, ?_⟩⟩
        have := HPL.out
        rw [← HN.out, newTo_all] at this
        exact this
end Go.Proofs.Ytcffjobefgecdaa
