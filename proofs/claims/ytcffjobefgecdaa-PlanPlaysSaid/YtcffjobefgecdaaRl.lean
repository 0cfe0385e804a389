/- The walk of the document's stretch. -/
import Derived.Test.YtcffjobefgecdaaRh
namespace Go.Proofs.Ytcffjobefgecdaa.Ref
open Go.RowKit

/-- What stretch answers: a slot (never late yet), when and what is due. -/
def strV : Option (PSlot × PJob) → Value
  | none => .tuple #[slotV ⟨0, 0, 0, false⟩, jobV ⟨0, 0, 0⟩, .bool false]
  | some (x, j) => .tuple #[slotV { x with late := false }, jobV j, .bool true]
/-- The model's stretch, with the job. -/
def strJ (s : PSt) (limit : Int) : Option (PSlot × PJob) := (stretch s limit).2.map fun xd => (xd.1, firstJ (stretch s limit).1.l)

/-- The earliest release. -/
def minN (l : List PLine) (f : Int) : Nat → Int
  | 0 => f
  | k + 1 => match l[k + 1]? with
    | some x => mn x.next (minN l f k)
    | none => minN l f k
theorem minTo_minN (l : List PLine) (lim : Int) (h : 0 < l.length) : ∀ k, k + 1 ≤ l.length → minTo l lim (k + 1) = mn (minN l l[0].next k) lim := by
  intro k
  induction k with
  | zero =>
    intro hk
    rw [minTo, List.getElem?_eq_getElem h]
    rfl
  | succ k ih =>
    intro hk
    rw [minTo, List.getElem?_eq_getElem (by omega)]
    simp only
    rw [ih (by omega), minN, List.getElem?_eq_getElem (by omega)]
    simp only
    unfold mn
    split <;> split <;> (try split) <;> (try split) <;> omega

/-- Does one wait? (Behind a name that the walk does not open.) -/
def foundB (b : PJob) : Bool := decide (0 ≤ b.task)
theorem best47b (p bl cap : Nat) (G : Nat → Value) (s : PSt) (w : World) (h : PlanAt w p bl cap G s) (hn : s.l.length ≤ 256)
    (hok : ∀ x ∈ s.l, ∀ r ∈ x.wait, 0 ≤ r.first ∧ r.first ≤ 2305843009213693952 ∧ 1 ≤ r.t.ev ∧ r.t.ev ≤ 1099511627776) :
    Calls Try.prog 47 #[.pointer (some ⟨p, 0, none⟩)] w fun e w' => e = .returned (.tuple #[jobV (outJ (firstJ s.l)), .bool (foundB (firstJ s.l))]) ∧ Below w.heap.size w w' := best47 p bl cap G s w h hn hok
/-- What stands while a stretch is looked for. -/
structure SI (w0 : World) (p bl cap : Nat) (G0 : Nat → Value) (n : Nat) (s : PSt) (W : World) : Prop where
  pl : ∃ G, PlanAt W p bl cap G s ∧ ∀ x, own p bl G n x → own p bl G0 n x ∨ w0.heap.size ≤ x
  len : s.l.length = n
  fr : Fr (own p bl G0 n) w0 W
  sk : Bk W w0.heap.size 42 (slotCells ⟨0, 0, 0, false⟩)
  jk : Bk W (w0.heap.size + 1) 88 (jobCells ⟨0, 0, 0⟩)
section
variable {w0 W W' : World} {p bl cap n : Nat} {G0 : Nat → Value} {s s' : PSt}
theorem SI.below (h : SI w0 p bl cap G0 n s W) (hb : Below W.heap.size W W') : SI w0 p bl cap G0 n s W' := by
  obtain ⟨⟨G, h1, h2⟩, h3, h4, h5, h6⟩ := h
  exact ⟨⟨G, h1.below hb, h2⟩, h3, h4.trans (Fr.of_below hb (fun _ => False)) (fun _ h => h.elim), h5.below hb h5.lt, h6.below hb h6.lt⟩
theorem SI.alloc (h : SI w0 p bl cap G0 n s W) (o : Obj) : SI w0 p bl cap G0 n s (W.alloc o) := h.below ((Below.refl _ _).alloc (Nat.le_refl _) _)
theorem SI.drewN (h : SI w0 p bl cap G0 n s W) (k : Nat) : SI w0 p bl cap G0 n s (W.drewN k) := h.below ⟨rfl, rfl, rfl, Nat.le_refl _, fun _ _ => rfl⟩
theorem SI.step (h : SI w0 p bl cap G0 n s W) : ∃ G, PlanAt W p bl cap G s ∧ ∀ s' W', s'.l.length = n → RelI W p bl cap G s' W' → SI w0 p bl cap G0 n s' W' ∧ ∀ b t cs, t ≠ 71 → t ≠ 74 → t ≠ 108 → Bk W b t cs → Bk W' b t cs := by
  obtain ⟨⟨G, h1, h2⟩, h3, h4, h5, h6⟩ := h
  refine ⟨G, h1, fun s' W' hl hr => ?_⟩
  obtain ⟨⟨G', q1, q2⟩, q3⟩ := hr
  rw [hl] at q2 q3
  have keep : ∀ b t cs, t ≠ 71 → t ≠ 74 → t ≠ 108 → Bk W b t cs → Bk W' b t cs := fun b t cs t1 t2 t3 hb => q3.bk hb (by have := h1.not_own hb t1 t2 t3; rwa [h3] at this)
  refine ⟨⟨⟨G', q1, fun x hx => ?_⟩, hl, h4.trans q3 h2, keep _ _ _ (by decide) (by decide) (by decide) h5, keep _ _ _ (by decide) (by decide) (by decide) h6⟩, keep⟩
  rcases q2 x hx with h | h
  · exact h2 x h
  · exact .inr (Nat.le_trans h4.size h)
theorem SI.far (h : SI w0 p bl cap G0 n s W) {b : Nat} {cs : Array Value} (hb : Bk W b 88 cs) (hlt : w0.heap.size + 1 < b) (o : Nat) (u : Value) : SI w0 p bl cap G0 n s (W.setCell ⟨b, o, none⟩ u) := by
  obtain ⟨⟨G, h1, h2⟩, h3, h4, h5, h6⟩ := h
  have hno := h1.not_own hb (by decide) (by decide) (by decide)
  exact ⟨⟨G, h1.far (a := ⟨b, o, none⟩) hno u, h2⟩, h3, h4.setCell (p := ⟨b, o, none⟩) (.inr (by show w0.heap.size ≤ b; omega)) u, h5.far (p := ⟨b, o, none⟩) (by show w0.heap.size ≠ b; omega) u, h6.far (p := ⟨b, o, none⟩) (by show w0.heap.size + 1 ≠ b; omega) u⟩
theorem SI.toI (h : SI w0 p bl cap G0 n s W) : RelI w0 p bl cap G0 s W := by
  obtain ⟨⟨G, h1, h2⟩, h3, h4, h5, h6⟩ := h
  subst h3
  exact ⟨⟨G, h1, h2⟩, h4⟩
/-- The answer laid into the results' cells. -/
theorem SI.put (h : SI w0 p bl cap G0 n s W) (x : PSlot) (j : PJob) : ∃ W2, W2 = ((((((W.setCell ⟨w0.heap.size, 0, none⟩ (.int .i64 x.task)).setCell ⟨w0.heap.size, 1, none⟩ (.int .i64 x.frm)).setCell ⟨w0.heap.size, 2, none⟩ (.int .i64 x.to)).setCell ⟨w0.heap.size, 3, none⟩ (.bool x.late)).setCell ⟨w0.heap.size + 1, 0, none⟩ (.int .i64 j.due)).setCell ⟨w0.heap.size + 1, 1, none⟩ (.int .i64 j.rank)).setCell ⟨w0.heap.size + 1, 2, none⟩ (.int .i64 j.task) ∧
    RelI w0 p bl cap G0 s W2 ∧ Bk W2 w0.heap.size 42 (slotCells x) ∧ Bk W2 (w0.heap.size + 1) 88 (jobCells j) := by
  refine ⟨_, rfl, ?_, ?_, ?_⟩
  · obtain ⟨⟨G, h1, h2⟩, h3, h4, h5, h6⟩ := h
    subst h3
    have n5 := h1.not_own h5 (by decide) (by decide) (by decide)
    have n6 := h1.not_own h6 (by decide) (by decide) (by decide)
    have far : ∀ {W : World} (hp : PlanAt W p bl cap G s) (b o : Nat) (u : Value), (b = w0.heap.size ∨ b = w0.heap.size + 1) → PlanAt (W.setCell ⟨b, o, none⟩ u) p bl cap G s := by
      intro W hp b o u hb
      exact hp.far (a := ⟨b, o, none⟩) (by rcases hb with rfl | rfl <;> assumption) u
    have ff : ∀ {W : World} (hf : Fr (own p bl G0 s.l.length) w0 W) (b o : Nat) (u : Value), (b = w0.heap.size ∨ b = w0.heap.size + 1) → Fr (own p bl G0 s.l.length) w0 (W.setCell ⟨b, o, none⟩ u) := by
      intro W hf b o u hb
      exact hf.setCell (p := ⟨b, o, none⟩) (.inr (by show w0.heap.size ≤ b; omega)) u
    exact ⟨⟨G, far (far (far (far (far (far (far h1 _ _ _ (.inl rfl)) _ _ _ (.inl rfl)) _ _ _ (.inl rfl)) _ _ _ (.inl rfl)) _ _ _ (.inr rfl)) _ _ _ (.inr rfl)) _ _ _ (.inr rfl), h2⟩, ff (ff (ff (ff (ff (ff (ff h4 _ _ _ (.inl rfl)) _ _ _ (.inl rfl)) _ _ _ (.inl rfl)) _ _ _ (.inl rfl)) _ _ _ (.inr rfl)) _ _ _ (.inr rfl)) _ _ _ (.inr rfl)⟩
  · have := (((((((h.sk.put 0 (.int .i64 x.task)).put 1 (.int .i64 x.frm)).put 2 (.int .i64 x.to)).put 3 (.bool x.late)).far (p := ⟨w0.heap.size + 1, 0, none⟩) (by show w0.heap.size ≠ w0.heap.size + 1; omega) (.int .i64 j.due)).far (p := ⟨w0.heap.size + 1, 1, none⟩) (by show w0.heap.size ≠ w0.heap.size + 1; omega) (.int .i64 j.rank)).far (p := ⟨w0.heap.size + 1, 2, none⟩) (by show w0.heap.size ≠ w0.heap.size + 1; omega) (.int .i64 j.task))
    simpa using this
  · have := ((((((h.jk.far (p := ⟨w0.heap.size, 0, none⟩) (by show w0.heap.size + 1 ≠ w0.heap.size; omega) (.int .i64 x.task)).far (p := ⟨w0.heap.size, 1, none⟩) (by show w0.heap.size + 1 ≠ w0.heap.size; omega) (.int .i64 x.frm)).far (p := ⟨w0.heap.size, 2, none⟩) (by show w0.heap.size + 1 ≠ w0.heap.size; omega) (.int .i64 x.to)).far (p := ⟨w0.heap.size, 3, none⟩) (by show w0.heap.size + 1 ≠ w0.heap.size; omega) (.bool x.late)).put 0 (.int .i64 j.due)).put 1 (.int .i64 j.rank)).put 2 (.int .i64 j.task)
    simpa using this
end

set_option maxRecDepth 100000 in
set_option maxHeartbeats 4000000 in
theorem stretch38 (p bl cap K : Nat) (G : Nat → Value) (s : PSt) (limit : Int) (w : World) (h : PlanAt w p bl cap G s) (hok : StOk K s) (hK : K ≤ 1000000000) (hl1 : limit ≤ 1152921504606846976) (hne : 0 < s.l.length) :
    Calls Try.prog 38 #[.pointer (some ⟨p, 0, none⟩), .int .i64 limit] w fun e w' => e = .returned (strV (strJ s limit)) ∧ RelI w p bl cap G (stretch s limit).1 w' := by
  have hn := hok.n
  have hn0 := hok.now0
  have hn1 := hok.now1
  have HOK := Lib.hid hok
  have H := Lib.hid h
  have hd := h.head
  obtain ⟨d0, d1⟩ := hd
  have hpl := h.lt p (.inl rfl)
  clear h hok
  go_enter Try.func38, Try.ntmps38
  go_wp2_with fail
  refine calls_gen (fun W => SI w p bl cap G s.l.length s W) ?_ ?_
  · refine ⟨⟨G, (H.out.alloc _).alloc _, fun x hx => .inl hx⟩, rfl, ((Fr.refl _ _).alloc _).alloc _, (Bk.new w _ _).alloc _, ?_⟩
    have := Bk.new (w.alloc (Obj.cells #[Value.int IntKind.i64 0, Value.int IntKind.i64 0, Value.int IntKind.i64 0, Value.bool false] 42)) 88 (jobCells ⟨0, 0, 0⟩)
    rw [World.size_alloc] at this
    exact this
  rintro W0 hS0
  obtain ⟨G0', hp0, hst0⟩ := hS0.step
  refine (release40 p bl cap K G0' s s.now W0 hp0 HOK.out hK hn0 hn1).mono ?_
  rintro e W1 ⟨rfl, hr1⟩
  obtain ⟨hS1, _⟩ := hst0 _ W1 (release_len _ _) hr1
  have hOK1 := release_ok HOK.out hn1
  have hN1 := release_next HOK.out hn1
  generalize hs1 : release s.now s = s1 at *
  have HS1 := Lib.hid hs1
  have HOK1 := Lib.hid hOK1
  have HN1 := Lib.hid hN1
  have HI1 := Lib.hid hS1
  clear hs1 hOK1 hN1 hS1 hS0 hp0 hst0 hr1 d0 d1
  obtain ⟨G1, hp1, hst1⟩ := HI1.out.step
  go_wp2_with fail
  refine (best47b p bl cap G1 s1 W1 hp1 (by rw [HI1.out.len]; exact hn) (first_ok HOK1.out)).mono ?_
  rintro e W2 ⟨rfl, hb2⟩
  have HI2 := Lib.hid (HI1.out.below hb2)
  clear hb2 hp1 hst1
  generalize hj : firstJ s1.l = j at *
  have HJ := Lib.hid hj
  clear hj
  go_upto_if 29 with fail
  go_cut [7] (fun fv wx => ∃ frm s' j', fv = .int .i64 frm ∧ SI w p bl cap G s.l.length s' wx ∧ Bk wx W2.heap.size 88 (jobCells j') ∧ w.heap.size + 1 < W2.heap.size ∧ StOk K s' ∧ (∀ x ∈ s'.l, frm < x.next) ∧ firstJ s'.l = j' ∧ 0 ≤ j'.task ∧ 0 ≤ frm ∧ frm ≤ 1152921504606846976 ∧ stretch s limit = (s', some (stretchAt s' frm j')))
  case first =>
    by_cases hj0 : j.task < 0
    · have HT := Lib.hid hj0
      have hoj : outJ j = ⟨0, 0, 0⟩ := by unfold outJ; rw [if_neg (by omega)]
      have hdj : foundB j = false := decide_eq_false (by omega)
      have hdk : (!foundB j) = true := by rw [hdj]; rfl
      have HOJ := Lib.hid hoj
      clear hoj
      have hbz : Bk (W2.alloc (Obj.cells (jobCells (outJ j)) 88)) W2.heap.size 88 (jobCells (outJ j)) := Bk.new W2 88 _
      have hlt2 : w.heap.size + 1 < W2.heap.size := HI2.out.jk.lt
      refine wp_gen (fun W => SI w p bl cap G s.l.length s1 W ∧ Bk W W2.heap.size 88 (jobCells (outJ j))) ⟨HI2.out.alloc _, hbz⟩ ?_
      rintro W3 ⟨hI3, hb3⟩
      obtain ⟨G3, hp3, hst3⟩ := hI3.step
      have hlen1 : s1.l.length = s.l.length := hI3.len
      have hpos : 0 < s1.l.length := by omega
      obtain ⟨p0, p1⟩ := hp3.head
      have c3 : W3.cell? ⟨bl, 3, none⟩ = some (.int .i64 s1.l[0].next) := by have := (hp3.cells hpos).2.2.2.1; simpa using this
      have hcl : ∀ k (hk : k < s1.l.length), W3.cell? ⟨bl, k * 6 + 3, none⟩ = some (.int .i64 s1.l[k].next) := fun k hk => (hp3.cells hk).2.2.2.1
      have HCL := Lib.hid hcl
      have HI3 := Lib.hid hI3
      have HB3 := Lib.hid hb3
      have HP3 := Lib.hid hp3
      have HST3 := Lib.hid hst3
      obtain ⟨n, hnn⟩ : ∃ n, s1.l.length = n := ⟨_, rfl⟩
      rw [hnn] at p0
      have HNN := Lib.hid hnn
      have hn1' : 0 < n := by omega
      have hn2 : n ≤ 256 := by omega
      have gl : (0 : Int) < (n : Int) := by omega
      have z0 := hb3.frozen 0
      have z1 := hb3.frozen 1
      have z2 := hb3.frozen 2
      have hx0 : Hid (minN s1.l s1.l[0].next 0 = s1.l[0].next) := rfl
      generalize hm0 : s1.l[0].next = m0 at *
      have HM0 := Lib.hid hm0
      clear hI3 hb3 hp3 hst3 hcl hnn hlen1 hbz hm0 hj0
      have hdkk := Lib.hid hdk
      clear hdk hdj
      go_wp2_with fail
      rotate_left
      · have h1 : (!foundB j) = false := by assumption
        rw [hdkk.out] at h1
        cases h1
      go_loop [7, 10] (fun f i => ∃ k : Nat, k + 1 ≤ n ∧ i = .int .i64 ((k + 1 : Nat) : Int) ∧ f = .int .i64 (minN s1.l m0 k)) (fun _ i => n - (intOf i).toNat)
      case atStart => exact ⟨0, by omega, rfl, by rw [hx0.out]⟩
      case round =>
        obtain ⟨k, hk, rfl, rfl⟩ := hrel
        by_cases hkn : k + 1 < n
        · have hkl : k + 1 < s1.l.length := by rw [HNN.out]; exact hkn
          have c3k := HCL.out (k + 1) hkl
          have hmn : minN s1.l m0 (k + 1) = mn s1.l[k + 1].next (minN s1.l m0 k) := by rw [minN, List.getElem?_eq_getElem hkl]
          generalize s1.l[k + 1].next = y at *
          generalize hf0 : minN s1.l m0 k = f0 at *
          have HMN := Lib.hid hmn
          clear hmn hf0 c3 z0 z1 z2 p1
          go_wp2_with fail
          all_goals
            go_round
            case rel => exact ⟨k + 1, by omega, by go_num, by rw [HMN.out]; unfold mn; split <;> first | rfl | (congr 1; omega)⟩
            case measure => simp [intOf]; omega
        · obtain rfl : n = k + 1 := by omega
          have hmt : minTo s1.l limit s1.l.length = mn (minN s1.l m0 k) limit := by
            have := minTo_minN s1.l limit (by rw [HNN.out]; omega) k (by rw [HNN.out]; exact Nat.le_refl _)
            rw [HNN.out, this, HM0.out]
          generalize minN s1.l m0 k = m at *
          have HMT := Lib.hid hmt
          clear hmt
          have HST : Hid (stretch s limit = if minTo s1.l limit s1.l.length = limit then (s1, none) else (release (minTo s1.l limit s1.l.length) s1, some (stretchAt (release (minTo s1.l limit s1.l.length) s1) (minTo s1.l limit s1.l.length) (firstJ (release (minTo s1.l limit s1.l.length) s1).l)))) := by
            refine Lib.hid ?_
            unfold stretch
            simp only [HS1.out, HJ.out]
            rw [if_neg (by have := HT.out; omega)]
          by_cases hml : limit ≤ m
          · have hst : stretch s limit = (s1, none) := by
              rw [HST.out, if_pos (by rw [HMT.out]; unfold mn; rw [if_neg (by omega)])]
            have hsj : strJ s limit = none := by unfold strJ; rw [hst]; rfl
            have HST' := Lib.hid hst
            have HSJ := Lib.hid hsj
            clear hst hsj c3 z0 z1 z2 p1
            have s0 := HI3.out.sk.cell 0
            have s1' := HI3.out.sk.cell 1
            have s2 := HI3.out.sk.cell 2
            have s3 := HI3.out.sk.cell 3
            have f0 := HI3.out.sk.frozen 0
            have f1 := HI3.out.sk.frozen 1
            have f2 := HI3.out.sk.frozen 2
            have f3 := HI3.out.sk.frozen 3
            have j0 := HI3.out.jk.cell 0
            have j1 := HI3.out.jk.cell 1
            have j2 := HI3.out.jk.cell 2
            have e0 := HI3.out.jk.frozen 0
            have e1 := HI3.out.jk.frozen 1
            have e2 := HI3.out.jk.frozen 2
            simp at s0 s1' s2 s3 j0 j1 j2
            go_wp2_with fail
            obtain ⟨W9, hW9, hrl, hbk, hjk⟩ := HI3.out.put ⟨0, 0, 0, false⟩ ⟨0, 0, 0⟩
            refine bodyPost_ret (v := strV none) ?_ rfl ⟨by rw [HSJ.out], ?_⟩
            · rw [hW9] at hbk hjk
              have q0 := hbk.cell 0
              have q1 := hbk.cell 1
              have q2 := hbk.cell 2
              have q3 := hbk.cell 3
              have r0 := hjk.cell 0
              have r1 := hjk.cell 1
              have r2 := hjk.cell 2
              simp at q0 q1 q2 q3 r0 r1 r2
              simp [results, Try.results38, go_sem, q0, q1, q2, q3, r0, r1, r2, strV]
            · rw [HST'.out, ← hW9]
              exact hrl
          · have hmt : minTo s1.l limit s1.l.length = m := by rw [HMT.out]; unfold mn; rw [if_pos (by omega)]
            have hwk := wakes_one HOK1.out hl1 (by rw [hmt]; omega)
            have hst : stretch s limit = (release m s1, some (stretchAt (release m s1) m (firstJ (release m s1).l))) := by
              rw [HST.out, if_neg (by rw [hmt]; omega), hmt]
            rw [hmt] at hwk
            obtain ⟨m0', m1', m2'⟩ := hwk
            have HST' := Lib.hid hst
            have HM2 := Lib.hid m2'
            clear hst m2' hmt c3 z0 z1 z2 p1
            go_wp2_with fail
            obtain ⟨G3', hp3', hst3'⟩ := HI3.out.step
            refine (release40 p bl cap K G3' s1 m W3 hp3' HOK1.out hK m0' (by omega)).mono ?_
            rintro e W4 ⟨rfl, hr4⟩
            obtain ⟨hI4, hk4⟩ := hst3' _ W4 (by rw [release_len, HI3.out.len]) hr4
            have hb4 := hk4 _ _ _ (by decide) (by decide) (by decide) HB3.out
            have HOK5 := Lib.hid (release_ok HOK1.out (show m ≤ 1152921504606846976 by omega))
            have HN5 := Lib.hid (release_next HOK1.out (show m ≤ 1152921504606846976 by omega))
            generalize hs5 : release m s1 = s5 at *
            have HS5 := Lib.hid hs5
            have HI4 := Lib.hid hI4
            have HB4 := Lib.hid hb4
            clear hs5 hI4 hb4 hk4 hr4 hp3' hst3'
            obtain ⟨G5, hp5, _⟩ := HI4.out.step
            go_wp2_with fail
            refine (best47b p bl cap G5 s5 W4 hp5 (by rw [HI4.out.len]; exact hn) (first_ok HOK5.out)).mono ?_
            rintro e W5 ⟨rfl, hb5⟩
            have hI5 := HI4.out.below hb5
            have hbx := HB4.out.below hb5 HB4.out.lt
            generalize hj' : firstJ s5.l = j5 at *
            have HJ' := Lib.hid hj'
            have hoj5 : outJ j5 = j5 := by unfold outJ; rw [if_pos HM2.out]
            have y0 := hbx.cell 0
            have y1 := hbx.cell 1
            have y2 := hbx.cell 2
            simp at y0 y1 y2
            have g0 := hbx.frozen 0
            have g1 := hbx.frozen 1
            have g2 := hbx.frozen 2
            have HI5 := Lib.hid hI5
            have HBX := Lib.hid hbx
            have HOJ5 := Lib.hid hoj5
            clear hI5 hbx hb5 hj' hp5 hoj5
            go_wp2_with fail
            go_meet
            refine ⟨m, s5, j5, rfl, ((HI5.out.far HBX.out hlt2 0 _).far (HBX.out.put 0 _) hlt2 1 _).far ((HBX.out.put 0 _).put 1 _) hlt2 2 _, ?_, hlt2, HOK5.out, HN5.out, HJ'.out, HM2.out, m0', by omega, HST'.out⟩
            have := ((HBX.out.put 0 (.int .i64 (outJ j5).due)).put 1 (.int .i64 (outJ j5).rank)).put 2 (.int .i64 (outJ j5).task)
            have e : (((jobCells (outJ j)).setIfInBounds 0 (.int .i64 (outJ j5).due)).setIfInBounds 1 (.int .i64 (outJ j5).rank)).setIfInBounds 2 (.int .i64 (outJ j5).task) = jobCells j5 := by rw [HOJ5.out]; simp
            rw [e] at this
            exact this
    · have HT := Lib.hid (show 0 ≤ j.task by omega)
      have hoj : outJ j = j := by unfold outJ; rw [if_pos (by omega)]
      have hdj : foundB j = true := decide_eq_true (by omega)
      have hdk : (!foundB j) = false := by rw [hdj]; rfl
      have HOJ := Lib.hid hoj
      clear hoj
      have hdkk := Lib.hid hdk
      clear hdk hdj
      go_wp2_with fail
      all_goals (try (exfalso; have h1 : (!foundB j) = true := (by assumption); rw [hdkk.out] at h1; cases h1; done))
      go_meet
      refine ⟨s.now, s1, j, rfl, HI2.out.alloc _, by have := Bk.new W2 88 (jobCells (outJ j)); rw [HOJ.out] at this; rw [HOJ.out]; exact this, HI2.out.jk.lt, HOK1.out, HN1.out, HJ.out, HT.out, hn0, hn1, ?_⟩
      unfold stretch
      simp only [HS1.out, HJ.out]
      rw [if_pos HT.out]
  case rest =>
    obtain ⟨frm, s', j', rfl, hI, hjb, hlt2, hok', hnx, hfj, hj0, hf0, hf1, hst⟩ := hcut
    clear HS1 HOK1 HN1 HI1 HI2 HJ
    obtain ⟨i, hi, hfi, hw, hti⟩ := first_some (l := s'.l) (by rw [hfj]; exact hj0)
    rw [hfj] at hti
    obtain ⟨Gx, hpx, hsx⟩ := hI.step
    obtain ⟨c0, c1, c2, c3, c4, c5⟩ := hpx.cells hi
    obtain ⟨p0, p1⟩ := hpx.head
    have b0 := hjb.cell 0
    have b1 := hjb.cell 1
    have b2 := hjb.cell 2
    simp at b0 b1 b2
    rw [hti] at b2
    obtain ⟨lf0, lf1⟩ := (hok'.lines _ (List.getElem_mem hi)).left hw
    have hgD : s'.l.getD j'.task.toNat ⟨⟨0, 0, 0⟩, 0, [], 0⟩ = s'.l[i] := by
      rw [hti]
      simp [List.getD_eq_getElem?_getD, List.getElem?_eq_getElem hi]
    have hsj : strJ s limit = some (⟨i, frm, endTo s'.l j' (frm + s'.l[i].left) s'.l.length, decide (j'.due < endTo s'.l j' (frm + s'.l[i].left) s'.l.length)⟩, j') := by
      unfold strJ
      rw [hst]
      simp only [Option.map_some, hfj]
      unfold stretchAt
      rw [hgD]
      simp only [hti]
    have hwi := hw
    have HSJ := Lib.hid hsj
    have HST := Lib.hid hst
    have HI := Lib.hid hI
    have HJB := Lib.hid hjb
    have HOK' := Lib.hid hok'
    have HTI := Lib.hid hti
    have HWI := Lib.hid hwi
    have hlenS : s'.l.length = s.l.length := hI.len
    obtain ⟨n, hnn⟩ : ∃ n, s'.l.length = n := ⟨_, rfl⟩
    rw [hnn] at p0
    have HNN := Lib.hid hnn
    have hin : (i : Int) < (n : Int) := by omega
    have hn2 : n ≤ 256 := by omega
    clear hsj hst hI hjb hok' hti hnx hfj hj0 hfi hw hgD c0 c1 c2 c3 c4 hwi hpx hsx hlenS hnn
    generalize hlv : s'.l[i].left = lf at *
    have HLF := Lib.hid hlv
    clear hlv
    have hsum : IntKind.i64.wrap (frm + lf) = frm + lf := by rw [IntKind.wrap_i64]; omega
    go_wp2_with fail
    go_quiet (fail)
    clear hsum
    go_wp2_with fail
    go_loopw [11, 12, 13, 14, 15] (fun t i _ _ _ wr => ∃ k : Nat, k ≤ n ∧ i = .int .i64 k ∧ t = .int .i64 (endTo s'.l j' (frm + lf) k) ∧ SI w p bl cap G s.l.length s' wr ∧ Bk wr W2.heap.size 88 (jobCells j')) (fun _ i _ _ _ _ => n - (intOf i).toNat)
    case atStart => exact ⟨0, by omega, rfl, rfl, HI.out.drewN _, HJB.out.drewN _⟩
    case round =>
      obtain ⟨k, hk, rfl, rfl, hI, hjb⟩ := hrel
      obtain ⟨Gx, hpx, _⟩ := hI.step
      obtain ⟨p0', p1'⟩ := hpx.head
      rw [HNN.out] at p0'
      have HIr := Lib.hid hI
      have HJr := Lib.hid hjb
      by_cases hkn : k < n
      · have hkl : k < s'.l.length := by rw [HNN.out]; exact hkn
        obtain ⟨c0, c1, c2, c3, c4, c5'⟩ := hpx.cells hkl
        have hx := HOK'.out.lines _ (List.getElem_mem hkl)
        obtain ⟨a1, a2, a3, a4⟩ := may_spec hx.may
        have xn0 := hx.n0
        have xn1 := hx.n1
        obtain ⟨Aw, cw, hGk⟩ := (hpx.hw k hkl).len
        rw [hGk] at c4
        have hes : endTo s'.l j' (frm + lf) (k + 1) = endStep k s'.l[k] j' (endTo s'.l j' (frm + lf) k) := by rw [endTo, List.getElem?_eq_getElem hkl]
        have hki : k = i → s'.l[k].wait ≠ [] := by rintro rfl; exact HWI.out
        have hte : endTo s'.l j' (frm + lf) k ≤ frm + lf := (endTo_spec _ _ _ _).1
        generalize hxe : s'.l[k] = x at *
        have HES := Lib.hid hes
        have HKI := Lib.hid hki
        have HXE := Lib.hid hxe
        generalize hto : endTo s'.l j' (frm + lf) k = te at *
        have HTO := Lib.hid hto
        have hwl : x.wait.length = 0 ↔ x.wait = [] := List.length_eq_zero_iff
        have HWL := Lib.hid hwl
        have hlp' := hpx.lt p (.inl rfl)
        have hlb' := hpx.lt bl (.inr (.inl rfl))
        clear hI hjb hpx hx hGk hes hki hxe hto hwl
        go_upto_region 20 with fail
        refine wp_gen (fun W => SI w p bl cap G s.l.length s' W ∧ Bk W W2.heap.size 88 (jobCells j') ∧ Bk W wr.heap.size 74 #[.int .i64 x.t.ev, .int .i64 x.t.lo, .int .i64 x.t.rk, .int .i64 x.next, .slice Aw x.wait.length cw, .int .i64 x.left] ∧ Bk W (wr.heap.size + 1) 88 (jobCells (nextJob k x))) ?_ ?_
        · refine ⟨(HIr.out.alloc _).alloc _, (HJr.out.alloc _).alloc _, (Bk.new wr _ _).alloc _, ?_⟩
          have := Bk.new (wr.alloc (Obj.cells #[Value.int IntKind.i64 x.t.ev, Value.int IntKind.i64 x.t.lo, Value.int IntKind.i64 x.t.rk, Value.int IntKind.i64 x.next, Value.slice Aw x.wait.length cw, Value.int IntKind.i64 x.left] 74)) 88 (jobCells (nextJob k x))
          rw [World.size_alloc] at this
          exact this
        rintro W3 ⟨hI3, hj3, hx3, ho3⟩
        clear c0 c1 c2 c3 c4 c5' p0' p1' b0 b1 b2 p0 p1 c5
        have b0 := hj3.cell 0
        have b1 := hj3.cell 1
        have b2 := hj3.cell 2
        have y0 := ho3.cell 0
        have y1 := ho3.cell 1
        have y2 := ho3.cell 2
        simp at b0 b1 b2 y0 y1 y2
        have HI3 := Lib.hid hI3
        have HJ3 := Lib.hid hj3
        have HX3 := Lib.hid hx3
        clear hI3 hj3 hx3 ho3
        go_wp2_with fail
        refine (ahead48 (nextJob k x) j' W3).mono ?_
        rintro e W4 ⟨rfl, hb4⟩
        have hj4 := HJ3.out.below hb4 HJ3.out.lt
        have hx4 := HX3.out.below hb4 HX3.out.lt
        have HI4 := Lib.hid (HI3.out.below hb4)
        have b2' := hj4.cell 2
        have x3 := hx4.cell 3
        have x4 := hx4.cell 4
        simp at b2' x3 x4
        rw [HTI.out] at b2'
        have HJ4 := Lib.hid hj4
        have HNX : Hid (beforeB (nextJob k x) j' = beforeB (nextJob k x) j') := rfl
        clear hb4 hj4 hx4 b0 b1 b2 y0 y1 y2 HI3 HJ3 HX3
        generalize hbe : beforeB (nextJob k x) j' = be at *
        have HBE := Lib.hid hbe
        clear hbe
        by_cases hki : k = i
        · have hkb : ((k : Int) != (i : Int)) = false := by rw [hki]; simp
          have he : endTo s'.l j' (frm + lf) (k + 1) = te := by
            rw [HES.out]
            unfold endStep
            rw [if_neg (fun h => HKI.out hki h.1)]
          have HE := Lib.hid he
          clear he hki
          go_wp2_with fail
          go_roundw
          case rel => exact ⟨k + 1, by omega, by go_num, by rw [HE.out], HI4.out, HJ4.out⟩
          case measure => simp [intOf]; omega
        · have hkb : ((k : Int) != (i : Int)) = true := by simp; omega
          by_cases hwe : x.wait = []
          · have hl0 : x.wait.length = 0 := by rw [hwe]; rfl
            have HWE := Lib.hid hwe
            rw [hl0] at x4
            have HL0 := Lib.hid hl0
            clear hwe hl0
            cases be
            · have he : endTo s'.l j' (frm + lf) (k + 1) = te := by
                rw [HES.out]
                unfold endStep
                rw [if_neg (fun h => by have := h.2; rw [HBE.out] at this; cases this)]
              have HE := Lib.hid he
              clear he hki
              rw [HL0.out]
              go_wp2_with fail
              go_roundw
              case rel => exact ⟨k + 1, by omega, by go_num, by rw [HE.out], HI4.out, HJ4.out⟩
              case measure => simp [intOf]; omega
            · have he : endTo s'.l j' (frm + lf) (k + 1) = mn x.next te := by
                rw [HES.out]
                unfold endStep
                rw [if_pos ⟨HWE.out, HBE.out⟩]
              have HE := Lib.hid he
              clear he hki
              rw [HL0.out]
              go_wp2_with fail
              all_goals
                go_roundw
                case rel => exact ⟨k + 1, by omega, by go_num, by rw [HE.out]; unfold mn; split <;> first | rfl | (congr 1; omega), HI4.out, HJ4.out⟩
                case measure => simp [intOf]; omega
          · have hl0 : x.wait.length ≠ 0 := fun h => hwe (HWL.out.1 h)
            have hlb0 : ((x.wait.length : Int) == 0) = false := beq_eq_false_iff_ne.2 (by omega)
            have hlb1 : (x.wait.length == 0) = false := beq_eq_false_iff_ne.2 hl0
            have he : endTo s'.l j' (frm + lf) (k + 1) = te := by
              rw [HES.out]
              unfold endStep
              rw [if_neg (fun h => hwe h.1)]
            have HE := Lib.hid he
            clear he hki hwe
            go_wp2_with fail
            go_roundw
            case rel => exact ⟨k + 1, by omega, by go_num, by rw [HE.out], HI4.out, HJ4.out⟩
            case measure => simp [intOf]; omega
      · obtain rfl : k = n := by omega
        have b0 := hjb.cell 0
        have b1 := hjb.cell 1
        have b2 := hjb.cell 2
        simp at b0 b1 b2
        rw [HTI.out] at b2
        have s0 := hI.sk.cell 0
        have s1' := hI.sk.cell 1
        have s2 := hI.sk.cell 2
        have s3 := hI.sk.cell 3
        have f0 := hI.sk.frozen 0
        have f1 := hI.sk.frozen 1
        have f2 := hI.sk.frozen 2
        have f3 := hI.sk.frozen 3
        have q0 := hI.jk.cell 0
        have q1 := hI.jk.cell 1
        have q2 := hI.jk.cell 2
        have e0 := hI.jk.frozen 0
        have e1 := hI.jk.frozen 1
        have e2 := hI.jk.frozen 2
        simp at s0 s1' s2 s3 q0 q1 q2
        have ne1 : ¬ w.heap.size = W2.heap.size := by omega
        have ne2 : ¬ w.heap.size + 1 = W2.heap.size := by omega
        have ne3 : ¬ W2.heap.size = w.heap.size := by omega
        have ne4 : ¬ W2.heap.size = w.heap.size + 1 := by omega
        clear hI hjb hpx
        generalize hto : endTo s'.l j' (frm + lf) k = te at *
        have HTO := Lib.hid hto
        clear hto p0 p1 c5
        go_upto_region 23 with fail
        go_region_held3 (fun w' => w'.cell? ⟨W2.heap.size, 0, none⟩ = some (.int .i64 j'.due) ∧ w'.cell? ⟨W2.heap.size, 1, none⟩ = some (.int .i64 j'.rank) ∧ w'.cell? ⟨W2.heap.size, 2, none⟩ = some (.int .i64 i))
          (first | go_keep)
          (first | fail)
        go_wp2_with fail
        have hje : (⟨j'.due, j'.rank, i⟩ : PJob) = j' := by
          have := HTI.out
          cases j'
          simp at this
          rw [this]
        obtain ⟨W9, hW9, hrl, hbk, hjk⟩ := HIr.out.put ⟨i, frm, te, false⟩ ⟨j'.due, j'.rank, i⟩
        refine bodyPost_ret (v := strV (strJ s limit)) ?_ rfl ⟨rfl, ?_⟩
        · rw [HSJ.out, HNN.out, HTO.out]
          rw [hW9] at hbk hjk
          have q0 := hbk.cell 0
          have q1 := hbk.cell 1
          have q2 := hbk.cell 2
          have q3 := hbk.cell 3
          have r0 := hjk.cell 0
          have r1 := hjk.cell 1
          have r2 := hjk.cell 2
          simp at q0 q1 q2 q3 r0 r1 r2
          simp [results, Try.results38, go_sem, q0, q1, q2, q3, r0, r1, r2, strV, HTI.out]
        · rw [HST.out]
          rw [hW9] at hrl
          exact hrl.drewN 1
end Go.Proofs.Ytcffjobefgecdaa.Ref
