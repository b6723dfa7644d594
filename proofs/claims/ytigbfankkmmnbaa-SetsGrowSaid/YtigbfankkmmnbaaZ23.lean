/- SetsSplit: the walk; SetsGrow: part: the walk; what grows. -/
import Derived.Test.YtigbfankkmmnbaaZ21
import Derived.Test.YtigbfankkmmnbaaZ22
set_option linter.unusedVariables false
set_option linter.unusedSimpArgs false
namespace Go.Proofs.Ytigbfankkmmnbaa
open Go.RowKit Gk

theorem gen_cons_nil {c : Cfg} {k : Int} {s : List Int} (h : Gen c (k :: s) []) : k < 0 ∧ Gen c [k] [] ∧ Gen c s [] := by
  have h2 : Gen c ([k] ++ s) [] := h
  obtain ⟨x, y, e, h3, h4⟩ := Gen.split h2
  obtain ⟨rfl, rfl⟩ := List.append_eq_nil_iff.1 e.symm
  refine ⟨?_, h3, h4⟩
  refine Classical.byContradiction fun hk => ?_
  generalize hl : k :: s = l at h
  generalize he : ([] : List Int) = z at h
  cases h with
  | nil => cases hl
  | tok _ _ => cases he
  | rule h1 _ _ _ _ => injection hl with e1 _; omega
theorem ldp_append {c : Cfg} (b : List Int) (t : Int) : ∀ a : List Int, Ldp c (a ++ b) t ↔ Ldp c a t ∨ (Gen c a [] ∧ Ldp c b t) := by
  intro a
  induction a with
  | nil => constructor
           · intro h; exact .inr ⟨.nil, h⟩
           · rintro (h | ⟨_, h⟩)
             · cases h
             · exact h
  | cons k a ih =>
    constructor
    · intro h
      have h : Ldp c (k :: (a ++ b)) t := h
      cases h with
      | tok h1 => exact .inl (.tok h1)
      | rule h1 h2 h3 h4 => exact .inl (.rule h1 h2 h3 h4)
      | skip h1 h2 h3 =>
        rcases ih.1 h3 with h | ⟨h, h'⟩
        · exact .inl (.skip h1 h2 h)
        · exact .inr ⟨by have := h2.append h; simpa using this, h'⟩
    · rintro (h | ⟨h, h'⟩)
      · cases h with
        | tok h1 => exact .tok h1
        | rule h1 h2 h3 h4 => exact .rule h1 h2 h3 h4
        | skip h1 h2 h3 => exact .skip h1 h2 (ih.2 (.inl h3))
      · obtain ⟨h1, h2, h3⟩ := gen_cons_nil h
        exact .skip h1 h2 (ih.2 (.inr ⟨h3, h'⟩))
theorem gen_append_nil {c : Cfg} (a b : List Int) : Gen c (a ++ b) [] ↔ Gen c a [] ∧ Gen c b [] := by
  constructor
  · intro h
    obtain ⟨x, y, e, h3, h4⟩ := Gen.split h
    obtain ⟨rfl, rfl⟩ := List.append_eq_nil_iff.1 e.symm
    exact ⟨h3, h4⟩
  · rintro ⟨h1, h2⟩
    have := h1.append h2
    simpa using this
theorem ownNilOr9 {α : Type} {T : Ty α} {e : TypeId} {B : Nat} {D : Nat → Prop} {w : World} {v : Value} {xs : List α} (h : Own T e B D w v xs) : NilOr v := by
  obtain ⟨css, h1, _⟩ := h
  rcases h1.2 with ⟨h1, _⟩ | ⟨b, c, row, h1, _⟩
  · exact .inl h1
  · exact .inr ⟨_, _, _, h1⟩
theorem exec_extract {P : Program} {ρ : Operand → Value} {o : Oper} {x : Operand} {i : Nat} {vs : Array Value} {v : Value} {w : World} (ho : o.op = .extract x i) (hx : ρ x = .tuple vs) (hv : vs[i]? = some v) : (execOp ρ o).run P w = .ok (.value v) w := by
  unfold execOp
  simp [ho, hx, hv, Instr.extract]
def LdT (c : Cfg) (s : List Int) (u : Value) (w : World) : Prop := ∃ x ks be, u = .tuple #[x, .bool be] ∧ IL w x ks ∧ Rising ks ∧ (∀ t, t ∈ ks ↔ Ldp c s t) ∧ (be = true ↔ Gen c s [])
def LdI (c : Cfg) (s : List Int) (u : Value) (w : World) : Prop := ∃ ks, IL w u ks ∧ Rising ks ∧ (∀ t, t ∈ ks ↔ Ldp c s t)
def LdB (c : Cfg) (s : List Int) (u : Value) : Prop := ∃ be, u = .bool be ∧ (be = true ↔ Gen c s [])
def SqW (cv va vb : Value) (c : Cfg) (s : List Int) (i : Nat) (u : Value) (w : World) : Prop := match i with
  | 0 => u = cv
  | 1 => u = va
  | 2 => True
  | 3 => u = vb
  | 4 => True
  | 5 => LdT c s u w
  | 6 => LdT c s u w
  | 7 => LdI c s u w
  | 8 => LdB c s u
  | 9 => LdI c s u w
  | _ => LdB c s u
theorem LdT.below {c : Cfg} {s : List Int} {u : Value} {w w' : World} (h : LdT c s u w) (k : Below w.heap.size w w') : LdT c s u w' := by
  obtain ⟨x, ks, be, h1, h2, h3⟩ := h; exact ⟨x, ks, be, h1, h2.ki (KI.below k), h3⟩
theorem LdI.below {c : Cfg} {s : List Int} {u : Value} {w w' : World} (h : LdI c s u w) (k : Below w.heap.size w w') : LdI c s u w' := by
  obtain ⟨ks, h2, h3⟩ := h; exact ⟨ks, h2.ki (KI.below k), h3⟩
theorem SqW.below {cv va vb : Value} {c : Cfg} {s : List Int} : ∀ (i : Nat) (v : Value) (w w' : World), SqW cv va vb c s i v w → Below w.heap.size w w' → SqW cv va vb c s i v w'
  | 0, _, _, _, h, _ => h
  | 1, _, _, _, h, _ => h
  | 2, _, _, _, h, _ => h
  | 3, _, _, _, h, _ => h
  | 4, _, _, _, h, _ => h
  | 5, _, _, _, h, k => LdT.below h k
  | 6, _, _, _, h, k => LdT.below h k
  | 7, _, _, _, h, k => LdI.below h k
  | 8, _, _, _, h, _ => h
  | 9, _, _, _, h, k => LdI.below h k
  | _ + 10, _, _, _, h, _ => h
/-- the region that joins -/
structure SqI (w0 : World) (cv va vb : Value) (c : Cfg) (a b : List Int) (L : Nat → Bool) (val : Nat → Value) (w : World) : Prop where
  below : Below w0.heap.size w0 w
  v : ∀ i, L i = true → SqW cv va vb c (a ++ b) i (val i) w
  o2 : L 2 = true → L 4 = false → OwnI w0.heap.size w (val 2) a
  o4 : L 4 = true → OwnI w0.heap.size w (val 4) (a ++ b)
  c24 : L 4 = true → L 2 = true
  c5 : ∀ i, 5 ≤ i → L i = true → L 4 = true
theorem SqI.next {w0 : World} {cv va vb : Value} {c : Cfg} {a b : List Int} {L : Nat → Bool} {val : Nat → Value} {w w' : World} (h : SqI w0 cv va vb c a b L val w) (hb : Below w.heap.size w w') {i : Nat} (hi2 : i ≠ 2) (hi4 : i ≠ 4) (h5 : 5 ≤ i → L 4 = true) {u : Value}
    (hu : SqW cv va vb c (a ++ b) i u w') : SqI w0 cv va vb c a b (up L i) (upd val i u) w' := by
  have n4 : up L i 4 = L 4 := by simp [up, show (4 : Nat) ≠ i by omega]
  have n2 : up L i 2 = L 2 := by simp [up, show (2 : Nat) ≠ i by omega]
  have v4 : upd val i u 4 = val 4 := by simp [upd, show (4 : Nat) ≠ i by omega]
  have v2 : upd val i u 2 = val 2 := by simp [upd, show (2 : Nat) ≠ i by omega]
  refine ⟨below2 h.below hb, fun j hj => ?_, fun h2 h4 => ?_, fun h4 => ?_, fun h4 => ?_, fun j hj hL => ?_⟩
  · by_cases e : j = i
    · subst e; rw [show upd val j u j = u by simp [upd]]; exact hu
    · have hL : L j = true := by simpa [up, e] using hj
      rw [show upd val i u j = val j by simp [upd, e]]; exact (h.v j hL).below _ _ _ _ hb
  · rw [n2] at h2; rw [n4] at h4; rw [v2]; exact (h.o2 h2 h4).below hb
  · rw [n4] at h4; rw [v4]; exact (h.o4 h4).below hb
  · rw [n4] at h4; rw [n2]; exact h.c24 h4
  · rw [n4]
    by_cases e : j = i
    · subst e; exact h5 hj
    · have hL : L j = true := by simpa [up, e] using hL
      exact h.c5 j hj hL
theorem SqI.step2 {w0 : World} {cv va vb : Value} {c : Cfg} {a b : List Int} {L : Nat → Bool} {val : Nat → Value} {w w' : World} (h : SqI w0 cv va vb c a b L val w) (hb : Below w.heap.size w w') (hL : L 2 = false) {u : Value} (hu : OwnI w0.heap.size w' u a) : SqI w0 cv va vb c a b (up L 2) (upd val 2 u) w' := by
  have h4f : L 4 = false := by
    cases e : L 4 with
    | false => rfl
    | true => rw [h.c24 e] at hL; cases hL
  refine ⟨below2 h.below hb, fun j hj => ?_, fun h2 h4 => ?_, fun h4 => ?_, fun h4 => rfl, fun j hj hLj => ?_⟩
  · by_cases e : j = 2
    · subst e; exact trivial
    · have hL : L j = true := by simpa [up, e] using hj
      rw [show upd val 2 u j = val j by simp [upd, e]]; exact (h.v j hL).below _ _ _ _ hb
  · simpa [upd] using hu
  · rw [show up L 2 4 = L 4 from rfl, h4f] at h4; cases h4
  · have e : j ≠ 2 := by omega
    have hL : L j = true := by simpa [up, e] using hLj
    exact h.c5 j hj hL
theorem SqI.step4 {w0 : World} {cv va vb : Value} {c : Cfg} {a b : List Int} {L : Nat → Bool} {val : Nat → Value} {w w' : World} (h : SqI w0 cv va vb c a b L val w) (hb : Below w0.heap.size w0 w') (hL : L 4 = false) (h2 : L 2 = true) {u : Value} (hu : OwnI w0.heap.size w' u (a ++ b)) : SqI w0 cv va vb c a b (up L 4) (upd val 4 u) w' := by
  refine ⟨hb, fun j hj => ?_, fun h2 h4 => ?_, fun h4 => ?_, fun h4 => h2, fun j hj hLj => rfl⟩
  · by_cases e : j = 4
    · subst e; exact trivial
    · have hLj : L j = true := by simpa [up, e] using hj
      have hj5 : j < 5 := by
        refine Nat.lt_of_not_le fun h5 => ?_
        have := h.c5 j h5 hLj
        rw [hL] at this; cases this
      have hv := h.v j hLj
      rw [show upd val 4 u j = val j by simp [upd, e]]
      have : j = 0 ∨ j = 1 ∨ j = 2 ∨ j = 3 := by omega
      rcases this with rfl | rfl | rfl | rfl <;> exact hv
  · rw [show up L 4 4 = true from rfl] at h4; cases h4
  · simpa [upd] using hu
theorem split_one {c : Cfg} {a b k1 k2 k12 : List Int} {e1 e2 e12 : Bool} (r1 : Rising k1) (m1 : ∀ t, t ∈ k1 ↔ Ldp c a t) (m2 : ∀ t, t ∈ k2 ↔ Ldp c b t) (r12 : Rising k12) (m12 : ∀ t, t ∈ k12 ↔ Ldp c (a ++ b) t) (b1 : e1 = true ↔ Gen c a []) (b2 : e2 = true ↔ Gen c b []) (b12 : e12 = true ↔ Gen c (a ++ b) []) :
    e12 = (e1 && e2) ∧ (e1 = true → allW k1 k2 = k12) ∧ (e1 = false → k1 = k12) := by
  refine ⟨?_, fun h => ?_, fun h => ?_⟩
  · rw [Bool.eq_iff_iff, b12, gen_append_nil, Bool.and_eq_true, b1, b2]
  · refine rising_ext (allW_rising k2 k1 r1) r12 fun t => ?_
    rw [mem_allW, m12 t, ldp_append, m1 t, m2 t]
    have := b1.1 h
    constructor
    · rintro (h | h)
      · exact .inl h
      · exact .inr ⟨this, h⟩
    · rintro (h | ⟨_, h⟩)
      · exact .inl h
      · exact .inr h
  · refine rising_ext r1 r12 fun t => ?_
    rw [m12 t, ldp_append, m1 t]
    constructor
    · exact .inl
    · rintro (h' | ⟨h', _⟩)
      · exact h'
      · rw [b1.2 h'] at h; cases h
set_option maxRecDepth 100000 in
set_option maxHeartbeats 8000000 in
theorem setsSplit_walk (w : World) {v u1 u2 : Value} (c : Cfg) (h : CfgV w v c) (ht : TokOk v) (s : List Int) (hk : Sl Ty.int w u1 s) (r : List Int) (hk2 : Sl Ty.int w u2 r) :
    Calls Try.prog 6 #[v, u1, u2] w fun e w' => e = .returned (.bool true) ∧ Below w.heap.size w w' := by
  obtain ⟨a0, b0, d0, rfl, h1, h2, h3⟩ := id h
  obtain ⟨A1, c1, rfl, hc1, hm1, _, hr1⟩ := id h1
  obtain ⟨A2, c2, rfl, hc2, hm2, _, hr2⟩ := id h2
  obtain ⟨A3, c3, rfl, hc3, hm3, hl3, hr3⟩ := id h3
  obtain ⟨AT, cT, rfl, t1, t2, t3, _⟩ := id hk
  obtain ⟨AO, cO, rfl, p1, p2, p3, _⟩ := id hk2
  unfold LB at hl3 t3 p3
  have HH := Lib.hid (And.intro h (And.intro ht (And.intro hk hk2)))
  clear h ht hk hk2 h1 h2 h3 hr1 hr2 hr3
  have hB1 := Box.new w #[.slice A1 c.toks.length c1, .slice A2 c.names.length c2, .slice A3 c.alts.length c3] 25
  have hb1 : Below w.heap.size w (w.alloc (.cells #[.slice A1 c.toks.length c1, .slice A2 c.names.length c2, .slice A3 c.alts.length c3] 25)) := (Below.refl _ _).alloc (Nat.le_refl _) _
  have HB := Lib.hid (And.intro hB1 hb1)
  clear hB1 hb1
  go_enter Try.func6, Try.ntmps6
  have hcase : 50 < s.length ∨ (¬ 50 < s.length ∧ 50 < r.length) ∨ (¬ 50 < s.length ∧ ¬ 50 < r.length) := by omega
  rcases hcase with hlen | ⟨hlen, hlen2⟩ | ⟨hlen, hlen2⟩
  · have hd : decide ((s.length : Int) > 50) = true := decide_eq_true (by omega)
    go_wp2_with (first
      | (go_at_call 12; refine (live9_calls _).mono ?_; rintro e w1 ⟨rfl, hbl⟩; have hbx1 := HB.out.1.below hbl; have x0 := hbx1.cell 0 (v := .slice A1 c.toks.length c1) rfl; have x1 := hbx1.cell 1 (v := .slice A2 c.names.length c2) rfl; have x2 := hbx1.cell 2 (v := .slice A3 c.alts.length c3) rfl; have H1 := Lib.hid (And.intro (below2 HB.out.2 hbl) hbx1); clear hbl hbx1)
      | (go_at_call 13; refine (fewS_calls _ c _ (HH.out.1.below H1.out.1) HH.out.2.1).mono ?_; rintro e w2 ⟨bf, rfl, hbf, hfw⟩; have H2 := Lib.hid (below2 H1.out.1 hbf); clear hbf hfw; cases bf))
    · go_ret
      exact ⟨rfl, H2.out⟩
    · go_ret
      exact ⟨rfl, H2.out⟩
  · have hd : decide ((s.length : Int) > 50) = false := decide_eq_false (by omega)
    have hd2 : decide ((r.length : Int) > 50) = true := decide_eq_true (by omega)
    go_wp2_with (first
      | (go_at_call 12; refine (live9_calls _).mono ?_; rintro e w1 ⟨rfl, hbl⟩; have hbx1 := HB.out.1.below hbl; have x0 := hbx1.cell 0 (v := .slice A1 c.toks.length c1) rfl; have x1 := hbx1.cell 1 (v := .slice A2 c.names.length c2) rfl; have x2 := hbx1.cell 2 (v := .slice A3 c.alts.length c3) rfl; have H1 := Lib.hid (And.intro (below2 HB.out.2 hbl) hbx1); clear hbl hbx1)
      | (go_at_call 13; refine (fewS_calls _ c _ (HH.out.1.below H1.out.1) HH.out.2.1).mono ?_; rintro e w2 ⟨bf, rfl, hbf, hfw⟩; have H2 := Lib.hid (below2 H1.out.1 hbf); clear hbf hfw; cases bf))
    · go_ret
      exact ⟨rfl, H2.out⟩
    · go_ret
      exact ⟨rfl, H2.out⟩
  · have hd : decide ((s.length : Int) > 50) = false := decide_eq_false (by omega)
    have hd2 : decide ((r.length : Int) > 50) = false := decide_eq_false (by omega)
    go_wp2_with (first
      | (go_at_call 12; refine (live9_calls _).mono ?_; rintro e w1 ⟨rfl, hbl⟩; have hbx1 := HB.out.1.below hbl; have x0 := hbx1.cell 0 (v := .slice A1 c.toks.length c1) rfl; have x1 := hbx1.cell 1 (v := .slice A2 c.names.length c2) rfl; have x2 := hbx1.cell 2 (v := .slice A3 c.alts.length c3) rfl; have H1 := Lib.hid (And.intro (below2 HB.out.2 hbl) hbx1); clear hbl hbx1)
      | (go_at_call 13; refine (fewS_calls _ c _ (HH.out.1.below H1.out.1) HH.out.2.1).mono ?_; rintro e w2 ⟨bf, rfl, hbf, hfw⟩; have hbx2 := H1.out.2.below hbf; have y0 := hbx2.cell 0 (v := .slice A1 c.toks.length c1) rfl; have y1 := hbx2.cell 1 (v := .slice A2 c.names.length c2) rfl; have y2 := hbx2.cell 2 (v := .slice A3 c.alts.length c3) rfl; have H2 := Lib.hid (And.intro (below2 H1.out.1 hbf) (And.intro hbx2 hfw)); clear hbf hbx2 hfw; cases bf; all_goals first | (have hfs := H2.out.2.2 (by first | rfl | trivial); have hsa : c.alts.length ≤ 200 := (by have q1 := hfs.2.1.1; have q2 := hfs.1.1; omega); have hsb : c.toks.length ≤ 200 := (by have q1 := hfs.2.1.1; have q2 := hfs.1.1; omega); have HF := Lib.hid hfs; clear hfs) | skip)
      | (go_at_call 25; have hz : World := w3; clear hz; refine (within_calls c r _ _ _ (HH.out.1.below H3.out.2.1) (HH.out.2.2.2.below H3.out.2.1) (by omega) (by omega) (by omega)).mono ?_; rintro e w4 ⟨v4, rfl, hO, hb⟩; have hn := ownNilOr9 hO; have hs := hO.sl; obtain ⟨B4, d4, rfl, g1, g2, g3, _⟩ := id hs; have hbx := H3.out.2.2.1.below hb; have z30 := hbx.cell 0 (v := .slice A1 c.toks.length c1) rfl; have z31 := hbx.cell 1 (v := .slice A2 c.names.length c2) rfl; have z32 := hbx.cell 2 (v := .slice A3 c.alts.length c3) rfl; have hfl : (r.filter (isOf c)).length ≤ 50 := Nat.le_trans (List.length_filter_le _ _) (by omega); have H4 := Lib.hid (And.intro hs (And.intro (below2 H3.out.2.1 hb) (And.intro hbx (And.intro hfl (And.intro hn hb))))); clear hO hs hb hbx g1 g2 g3 hfl hn)
      | (go_at_call 25; refine (within_calls c s _ _ _ (HH.out.1.below H2.out.1) (HH.out.2.2.1.below H2.out.1) (by omega) (by omega) (by omega)).mono ?_; rintro e w3 ⟨v3, rfl, hO, hb⟩; have hn := ownNilOr9 hO; have hs := hO.sl; obtain ⟨B3, d3, rfl, g1, g2, g3, _⟩ := id hs; have hbx := H2.out.2.1.below hb; have z20 := hbx.cell 0 (v := .slice A1 c.toks.length c1) rfl; have z21 := hbx.cell 1 (v := .slice A2 c.names.length c2) rfl; have z22 := hbx.cell 2 (v := .slice A3 c.alts.length c3) rfl; have hfl : (s.filter (isOf c)).length ≤ 50 := Nat.le_trans (List.length_filter_le _ _) (by omega); have H3 := Lib.hid (And.intro hs (And.intro (below2 H2.out.1 hb) (And.intro hbx (And.intro hfl (And.intro hn hb))))); clear hO hs hb hbx g1 g2 g3 hfl hn)
      | (go_at_call 26; have hz : World := w5; clear hz; refine (plead_calls c _ _ (r.filter (isOf c)) _ (HH.out.1.below H5.out.2.1) HF.out.2.1 HF.out.1 (H4.out.1.below H5.out.2.2.2) isOf_lt (by have := H4.out.2.2.2.1; omega)).mono ?_; rintro e w6 ⟨v6, k6, be6, rfl, hI, hR, hm, he, hb⟩; obtain ⟨C6, f6, rfl, _, _, _, _⟩ := id hI.sl; have hbx := H5.out.2.2.1.below hb; have q50 := hbx.cell 0 (v := .slice A1 c.toks.length c1) rfl; have q51 := hbx.cell 1 (v := .slice A2 c.names.length c2) rfl; have q52 := hbx.cell 2 (v := .slice A3 c.alts.length c3) rfl; have H6 := Lib.hid (And.intro (And.intro hI (And.intro hR (And.intro hm (And.intro he hb)))) (And.intro (below2 H5.out.2.1 hb) (And.intro hbx hb))); clear hI hR hm he hb hbx)
      | (go_at_call 26; refine (plead_calls c _ _ (s.filter (isOf c)) _ (HH.out.1.below H4.out.2.1) HF.out.2.1 HF.out.1 (H3.out.1.below H4.out.2.2.2.2.2) isOf_lt (by have := H3.out.2.2.2.1; omega)).mono ?_; rintro e w5 ⟨v5, k5, be5, rfl, hI, hR, hm, he, hb⟩; obtain ⟨C5, f5, rfl, _, _, _, _⟩ := id hI.sl; have hbx := H4.out.2.2.1.below hb; have q40 := hbx.cell 0 (v := .slice A1 c.toks.length c1) rfl; have q41 := hbx.cell 1 (v := .slice A2 c.names.length c2) rfl; have q42 := hbx.cell 2 (v := .slice A3 c.alts.length c3) rfl; have H5 := Lib.hid (And.intro (And.intro hI (And.intro hR (And.intro hm (And.intro he hb)))) (And.intro (below2 H4.out.2.1 hb) (And.intro hbx hb))); clear hI hR hm he hb hbx))
    · go_ret
      exact ⟨rfl, H2.out.1⟩
    · have hna := H3.out.2.2.2.2.1
      have hnb := H4.out.2.2.2.2.1
      have hsa : Hid (Sl Ty.int w6 (.slice B3 (s.filter (isOf c)).length d3) (s.filter (isOf c))) := ((H3.out.1.below H4.out.2.2.2.2.2).below H5.out.2.2.2).below H6.out.2.2.2
      have hsb : Hid (Sl Ty.int w6 (.slice B4 (r.filter (isOf c)).length d4) (r.filter (isOf c))) := (H4.out.1.below H5.out.2.2.2).below H6.out.2.2.2
      have hla := H3.out.2.2.2.1
      have hlb := H4.out.2.2.2.1
      have hta := isOf_lt (c := c) (s := s)
      have htb := isOf_lt (c := c) (s := r)
      have HT := Lib.hid (And.intro hna (And.intro hnb (And.intro hta htb)))
      clear hna hnb hta htb
      obtain ⟨fa, hfa⟩ : ∃ x, x = s.filter (isOf c) := ⟨_, rfl⟩
      obtain ⟨fb, hfb⟩ : ∃ x, x = r.filter (isOf c) := ⟨_, rfl⟩
      rw [← hfa] at H3 H5 HT hsa hla ⊢
      rw [← hfb] at H4 H6 HT hsb hlb ⊢
      clear hfa hfb
      refine wp_region_inv7 (by kernel_rfl) (by kernel_rfl) (SqI w6 (.agg #[.slice A1 c.toks.length c1, .slice A2 c.names.length c2, .slice A3 c.alts.length c3]) (.slice B3 fa.length d3) (.slice B4 fb.length d4) c fa fb) (fun _ => undef) ?_ ?_ ?_
      · exact ⟨below_drewN (Below.refl _ _) 1, fun i h => by simp at h, fun h => by simp at h, fun h => by simp at h, fun h => by simp at h, fun i _ h => by simp at h⟩
      · intro i hi
        have hi11 : i < 11 := hi
        have : i = 0 ∨ i = 1 ∨ i = 2 ∨ i = 3 ∨ i = 4 ∨ i = 5 ∨ i = 6 ∨ i = 7 ∨ i = 8 ∨ i = 9 ∨ i = 10 := by omega
        rcases this with rfl | rfl | rfl | rfl | rfl | rfl | rfl | rfl | rfl | rfl | rfl
        · refine StepOb7.of rfl rfl fun L val w8 hI hL hd => ?_
          have hbx2 := H6.out.2.2.1.below hI.below
          have x0 := hbx2.cell 0 (v := .slice A1 c.toks.length c1) rfl
          have x1 := hbx2.cell 1 (v := .slice A2 c.names.length c2) rfl
          have x2 := hbx2.cell 2 (v := .slice A3 c.alts.length c3) rfl
          exact does_value (v := .agg #[.slice A1 c.toks.length c1, .slice A2 c.names.length c2, .slice A3 c.alts.length c3]) (w := w8) (exec_load rfl rfl (by go_simp)) (hI.next (Below.refl _ _) (by decide) (by decide) (fun h => absurd h (by decide)) rfl)
        · refine StepOb7.of rfl rfl fun L val w8 hI hL hd => ?_
          exact does_value (exec_move (.inl rfl) rfl) (hI.next (Below.refl _ _) (by decide) (by decide) (fun h => absurd h (by decide)) rfl)
        · refine StepOb7.of rfl rfl fun L val w8 hI hL hd => ?_
          have e1 : val 1 = .slice B3 fa.length d3 := hI.v 1 (hd ⟨1, .data⟩ (by simp) rfl)
          obtain ⟨v1, wa, hrun, hown, hgr, hat⟩ := run_appAll (P := Try.prog) (T := Ty.int) (W := w8) (v := .slice none 0 0) (xs := []) (B := w6.heap.size) 35 3 8 35 elemInt rfl (.slice B3 fa.length d3) fa (D := fun _ => True) (Own.nil _ _ _ _ _) (fun b hb => trivial) (hsa.below hI.below) (fun y x _ h w3 _ _ => h) HT.out.1 hI.below.size (by simp; omega)
          have hBa : Below w8.heap.size w8 wa := ⟨hgr.os, hgr.tape, hgr.output, hgr.size, fun b hb => hgr.block b hb (by simp [Value.ownBlock])⟩
          exact does_value (exec_append rfl rfl e1 hrun) (hI.step2 hBa hL hown)
        · refine StepOb7.of rfl rfl fun L val w8 hI hL hd => ?_
          exact does_value (exec_move (.inl rfl) rfl) (hI.next (Below.refl _ _) (by decide) (by decide) (fun h => absurd h (by decide)) rfl)
        · refine StepOb7.of rfl rfl fun L val w8 hI hL hd => ?_
          have h2 := hd ⟨2, .data⟩ (by simp) rfl
          have e3 : val 3 = .slice B4 fb.length d4 := hI.v 3 (hd ⟨3, .data⟩ (by simp) rfl)
          have hO2 := hI.o2 h2 hL
          obtain ⟨v1, wa, hrun, hown, hgr, hat⟩ := run_appAll (P := Try.prog) (T := Ty.int) (W := w8) (v := val 2) (xs := fa) (B := w6.heap.size) 35 3 8 35 elemInt rfl (.slice B4 fb.length d4) fb (D := fun _ => True) hO2 (fun b hb => trivial) (hsb.below hI.below) (fun y x _ h w3 _ _ => h) HT.out.2.1 hI.below.size (by omega)
          exact does_value (exec_append rfl rfl e3 hrun) (hI.step4 (hI.below.grown hgr hI.below.size (fun k hk => (hO2.lt k hk).1)) hL h2 hown)
        · refine StepOb7.of rfl rfl fun L val w8 hI hL hd => ?_
          have e0 : val 0 = .agg #[.slice A1 c.toks.length c1, .slice A2 c.names.length c2, .slice A3 c.alts.length c3] := hI.v 0 (hd ⟨0, .data⟩ (by simp) rfl)
          have h4 := hd ⟨4, .data⟩ (by simp) rfl
          have hO4 := hI.o4 h4
          refine does_enter (f := 26) (args := #[.agg #[.slice A1 c.toks.length c1, .slice A2 c.names.length c2, .slice A3 c.alts.length c3], val 4]) (w := w8) (exec_call rfl rfl (by simp only [List.map_toArray, List.map_cons, List.map_nil]; exact congrArg (fun x => #[x, val 4]) e0) Try.func26 (by decide) rfl) ?_
          refine (plead_calls c _ _ (fa ++ fb) w8 (HH.out.1.below (below2 H6.out.2.1 hI.below)) HF.out.2.1 HF.out.1 hO4.sl (fun k hk => by rcases List.mem_append.1 hk with h | h; exact HT.out.2.2.1 k h; exact HT.out.2.2.2 k h) (by rw [List.length_append]; omega)).mono ?_
          rintro e w' ⟨v', ks, be, rfl, hI', hR', hm', he', hb⟩
          exact ⟨_, rfl, hI.next hb (by decide) (by decide) (fun _ => h4) ⟨_, ks, be, rfl, hI', hR', hm', he'⟩⟩
        · refine StepOb7.of rfl rfl fun L val w8 hI hL hd => ?_
          have h5 := hd ⟨5, .data⟩ (by simp) rfl
          have h4 := hI.c5 5 (Nat.le_refl _) h5
          have e5 : LdT c (fa ++ fb) (val 5) w8 := hI.v 5 h5
          exact does_value (v := val 5) (w := w8) (exec_move (.inl rfl) rfl) (hI.next (Below.refl _ _) (by decide) (by decide) (fun _ => h4) e5)
        · refine StepOb7.of rfl rfl fun L val w8 hI hL hd => ?_
          have h6 := hd ⟨6, .data⟩ (by simp) rfl
          have h4 := hI.c5 6 (by decide) h6
          obtain ⟨x, ks, be, e6, k1, k2, k3, k4⟩ : LdT c (fa ++ fb) (val 6) w8 := hI.v 6 h6
          exact does_value (v := x) (w := w8) (exec_extract rfl e6 rfl) (hI.next (Below.refl _ _) (by decide) (by decide) (fun _ => h4) ⟨ks, k1, k2, k3⟩)
        · refine StepOb7.of rfl rfl fun L val w8 hI hL hd => ?_
          have h6 := hd ⟨6, .data⟩ (by simp) rfl
          have h4 := hI.c5 6 (by decide) h6
          obtain ⟨x, ks, be, e6, k1, k2, k3, k4⟩ : LdT c (fa ++ fb) (val 6) w8 := hI.v 6 h6
          exact does_value (v := .bool be) (w := w8) (exec_extract rfl e6 rfl) (hI.next (Below.refl _ _) (by decide) (by decide) (fun _ => h4) ⟨be, rfl, k4⟩)
        · refine StepOb7.of rfl rfl fun L val w8 hI hL hd => ?_
          have h7 := hd ⟨7, .data⟩ (by simp) rfl
          have h4 := hI.c5 7 (by decide) h7
          have e7 : LdI c (fa ++ fb) (val 7) w8 := hI.v 7 h7
          exact does_value (v := val 7) (w := w8) (exec_move (.inr rfl) rfl) (hI.next (Below.refl _ _) (by decide) (by decide) (fun _ => h4) e7)
        · refine StepOb7.of rfl rfl fun L val w8 hI hL hd => ?_
          have h8 := hd ⟨8, .data⟩ (by simp) rfl
          have h4 := hI.c5 8 (by decide) h8
          have e8 : LdB c (fa ++ fb) (val 8) := hI.v 8 h8
          exact does_value (v := val 8) (w := w8) (exec_move (.inr rfl) rfl) (hI.next (Below.refl _ _) (by decide) (by decide) (fun _ => h4) e8)
      · intro val w8 hI
        obtain ⟨k12, hI12, hR12, hm12⟩ : LdI c (fa ++ fb) (val 9) w8 := hI.v 9 (by decide)
        obtain ⟨be12, e10, he12⟩ : LdB c (fa ++ fb) (val 10) := hI.v 10 (by decide)
        obtain ⟨v9, hv9⟩ : ∃ v9, v9 = val 9 := ⟨_, rfl⟩
        rw [← hv9] at hI12
        have e9 : val 9 = v9 := hv9.symm
        obtain ⟨A9, c9, rfl, _, _, _, _⟩ := id hI12.sl
        obtain ⟨q1, q2, q3⟩ := split_one H5.out.1.2.1 H5.out.1.2.2.1 H6.out.1.2.2.1 hR12 hm12 H5.out.1.2.2.2.1 H6.out.1.2.2.2.1 he12
        have hk5 : k5.length ≤ 201 := by
          refine Nat.le_trans (nodup_small (n := c.toks.length) (rising_nodup H5.out.1.2.1) fun t ht => ?_) (by omega)
          have h := ldp_tok HF.out.2.1 ((H5.out.1.2.2.1 t).1 ht)
          have := h.2 HT.out.2.2.1
          omega
        have hk6 : k6.length ≤ 201 := by
          refine Nat.le_trans (nodup_small (n := c.toks.length) (rising_nodup H6.out.1.2.1) fun t ht => ?_) (by omega)
          have h := ldp_tok HF.out.2.1 ((H6.out.1.2.2.1 t).1 ht)
          have := h.2 HT.out.2.2.2
          omega
        have hI5 := H5.out.1.1.ki (KI.below (below2 H6.out.2.2.2 hI.below))
        have hI6 := H6.out.1.1.ki (KI.below hI.below)
        have HI := Lib.hid (And.intro hI12 (And.intro hI5 (And.intro hI6 (And.intro (And.intro q2 q3) (below2 H6.out.2.1 hI.below)))))
        clear hI hI12 hR12 hm12 he12 hv9 hI5 hI6 q2 q3
        simp [fillAll, List.range, List.range.loop, dstOf, Act.put, e9, e10]
        clear e9 e10
        cases be5 with
        | false =>
          obtain rfl : be12 = false := by simpa using q1
          clear q1
          obtain rfl := HI.out.2.2.2.1.2 rfl
          have hsame := sameInts_calls _ _ _ _ w8 HI.out.2.1.sl HI.out.1.sl
          rw [decide_eq_true (rfl : k5 = k5)] at hsame
          have HS := Lib.hid hsame
          clear hsame
          go_wp2_with (go_at_call 22; refine HS.out.mono ?_; rintro e w9 ⟨rfl, hD9⟩)
          go_ret
          exact ⟨rfl, below2 HI.out.2.2.2.2 hD9.below⟩
        | true =>
          obtain rfl : be12 = be6 := by simpa using q1
          clear q1
          have hall := HI.out.2.2.2.1.1 rfl
          have HA := Lib.hid hall
          clear hall
          obtain ⟨_, _, he6, _, _, _, r6⟩ := id HI.out.2.2.1.sl
          injection he6 with h61 h62 h63
          subst h61
          clear h62 h63
          go_wp2
          go_loopw [61, 8] (fun i o wr => ∃ j : Nat, j ≤ k6.length ∧ i = .int .i64 j ∧ IL wr o (allW k5 (k6.take j)) ∧ Below w8.heap.size w8 wr) (fun i _ _ => k6.length - (intOf i).toNat)
          case atStart => exact ⟨0, Nat.zero_le _, rfl, HI.out.2.1, Below.refl _ _⟩
          case round =>
            obtain ⟨j, hj, rfl, hO, hB⟩ := hrel
            have r6r := r6.below hB
            have H7 := Lib.hid (And.intro hO hB)
            clear hO hB
            by_cases hlt : j < k6.length
            · obtain ⟨k, hk⟩ := at_lt k6 hlt
              obtain ⟨ad, rfl, hk64, hcell⟩ := r6r.int hk
              have h1 := allW_le (k6.take j) k5
              have h2 : (k6.take j).length ≤ k6.length := by simp; omega
              have hw := rwith_calls _ _ k wr H7.out.1 hk64 (by omega)
              have HW := Lib.hid hw
              have HK := Lib.hid hk
              clear hw hk
              go_wp2_with (go_at_call 30; refine HW.out.mono ?_; rintro e w9 ⟨v9, rfl, hI9, hb9⟩)
              refine ⟨⟨j + 1, by omega, by simp, ?_, below2 H7.out.2 hb9⟩, by simp [intOf]; omega⟩
              have e : allW k5 (k6.take (j + 1)) = withI (allW k5 (k6.take j)) k := by
                unfold allW; rw [take_next HK.out, List.foldl_append]; rfl
              rw [e]; exact hI9
            · have hje : j = k6.length := by omega
              subst hje
              have h := H7.out.1
              rw [List.take_length, HA.out] at h
              have hsame := sameInts_calls _ _ _ _ wr h.sl (HI.out.1.ki (KI.below H7.out.2)).sl
              rw [decide_eq_true (rfl : k12 = k12)] at hsame
              have HS := Lib.hid hsame
              clear hsame h
              go_wp2_with (go_at_call 22; refine HS.out.mono ?_; rintro e w9 ⟨rfl, hD9⟩)
              go_ret
              exact ⟨rfl, below2 (below2 HI.out.2.2.2.2 H7.out.2) hD9.below⟩
end Go.Proofs.Ytigbfankkmmnbaa
set_option linter.unusedVariables false
set_option linter.unusedSimpArgs false
namespace Go.Proofs.Ytigbfankkmmnbaa
open Go.RowKit Gk

set_option maxRecDepth 100000 in
set_option maxHeartbeats 2000000 in
theorem part_calls (v u : Value) (xs ys : List Int) (w : World) (hv : Sl Ty.int w v xs) (hu : Sl Ty.int w u ys) (hs : ∀ t ∈ xs, t ∈ ys) :
    Calls Try.prog 29 #[v, u] w fun e w' => e = .returned (.bool true) ∧ Below w.heap.size w w' := by
  obtain ⟨AU, cU, rfl, ku1, ku2, ku3, ku4⟩ := id hv
  unfold LB at ku3
  have HS := Lib.hid (And.intro hs hu)
  clear hs hv hu
  go_enter Try.func29, Try.ntmps29
  go_wp2
  go_loopw [9] (fun i wr => (∃ j : Nat, j ≤ xs.length ∧ i = .int .i64 j) ∧ Below w.heap.size w wr) (fun i _ => xs.length - (intOf i).toNat)
  case atStart => exact ⟨⟨0, Nat.zero_le _, rfl⟩, Below.refl _ _⟩
  case round =>
    obtain ⟨⟨j, hj, rfl⟩, hB⟩ := hrel
    have ku4r := ku4.below hB
    have H1 := Lib.hid hB
    clear hB
    by_cases hlt : j < xs.length
    · obtain ⟨k, hk⟩ := at_lt xs hlt
      obtain ⟨ad, rfl, hk64, hcell⟩ := ku4r.int hk
      have hin := in_calls _ ys k wr (HS.out.2.below H1.out) hk64
      rw [decide_eq_true (HS.out.1 k (List.mem_of_getElem? hk))] at hin
      have HI := Lib.hid hin
      clear hin hk
      go_wp2_with (go_at_call 28; refine HI.out.mono ?_; rintro e w3 ⟨rfl, hD⟩)
      exact ⟨⟨⟨j + 1, by omega, by simp⟩, below2 H1.out hD.below⟩, by simp [intOf]; omega⟩
    · have hje : j = xs.length := by omega
      subst hje
      go_wp2
      go_ret
      exact ⟨rfl, H1.out⟩
theorem ris_mem {n : Nat} {P : Nat → Int → Prop} {ls : List (List Int)} (h : RisAll n P ls) {r : Nat} {l : List Int} (hl : ls[r]? = some l) {t : Int} (hp : P r t) : t ∈ l := ((h.2 r l hl).2 t).2 hp
/-- what is told, kept -/
structure GrS (w0 : World) (X N O G : Nat) (a b d sv : Value) (c : Cfg) (nl : List Bool) (fs gs : List (List Int)) (short : List Int) (w : World) : Prop where
  cb : Box w X #[a, b, d] 25
  nb : Box w N (nl.map Value.bool).toArray 4
  fo : LRow w O fs
  go : LRow w G gs
  sh : Sl Ty.int w sv short
  bl : Below w0.heap.size w0 w
theorem GrS.below {w0 : World} {X N O G : Nat} {a b d sv : Value} {c : Cfg} {nl : List Bool} {fs gs : List (List Int)} {short : List Int} {w w' : World} (h : GrS w0 X N O G a b d sv c nl fs gs short w) (k : Below w.heap.size w w') : GrS w0 X N O G a b d sv c nl fs gs short w' :=
  ⟨h.cb.below k, h.nb.below k, h.fo.below k, h.go.below k, h.sh.below k, below2 h.bl k⟩
/-- the sets that are told -/
structure GrK (c : Cfg) (nl : List Bool) (fs gs : List (List Int)) (short : List Int) : Prop where
  n : NulOk c nl
  f : RisAll c.alts.length (Frs c) fs
  g : RisAll c.alts.length (Flw c) gs
  s : ShortOk c short
theorem GrK.nul_short {c : Cfg} {nl : List Bool} {fs gs : List (List Int)} {short : List Int} (h : GrK c nl fs gs short) {r : Nat} {b : Bool} {m : Int} (hb : nl[r]? = some b) (hm : short[r]? = some m) : b = decide (m = 0) := by
  have hr : r < c.alts.length := by rw [← h.n.inv.1]; exact (List.getElem?_eq_some_iff.1 hb).1
  have hm' := h.s.2 r m hm
  rw [Bool.eq_iff_iff, decide_eq_true_eq]
  constructor
  · rintro rfl
    obtain ⟨al, a, h1, h2, h3⟩ := h.n.inv.2 r hb
    have := hm'.lb al a [] h1 h2 h3
    have := hm'.nn
    simp at *; omega
  · rintro rfl
    obtain ⟨al, a, x, h1, h2, h3, h4⟩ := hm'.at_ (by unfold farI; omega)
    obtain rfl : x = [] := by
      cases x with
      | nil => rfl
      | cons a x => simp at h4; omega
    have := h.n.cl r al a h1 h2 ((empty_iff h.n a).2 h3)
    rw [hb] at this; injection this
theorem GrK.lead {c : Cfg} {nl : List Bool} {fs gs : List (List Int)} {short : List Int} (h : GrK c nl fs gs short) {r : Nat} {al : List (List Int)} {x l : List Int} (hal : c.alts[r]? = some al) (hx : x ∈ al) (hl : fs[r]? = some l) {t : Int} (ht : Ldp c x t) : t ∈ l := ris_mem h.f hl ⟨al, x, hal, hx, ht⟩
theorem GrK.nul {c : Cfg} {nl : List Bool} {fs gs : List (List Int)} {short : List Int} (h : GrK c nl fs gs short) {r : Nat} {al : List (List Int)} {x : List Int} (hal : c.alts[r]? = some al) (hx : x ∈ al) {b be : Bool} (hb : nl[r]? = some b) (hbe : be = true ↔ Gen c x []) (h1 : be = true) : b = true := by
  have := h.n.cl r al x hal hx ((empty_iff h.n x).2 (hbe.1 h1))
  rw [hb] at this; injection this
theorem GrK.follow {c : Cfg} {nl : List Bool} {fs gs : List (List Int)} {short : List Int} (h : GrK c nl fs gs short) {r ρ p : Nat} {al : List (List Int)} {x l : List Int} {k : Int} (hal : c.alts[r]? = some al) (hx : x ∈ al) (hk : x[p]? = some k) (hk0 : k < 0) (hρ : -1 - k = ρ) (hl : gs[ρ]? = some l) {t : Int} (ht : Ldp c (x.drop (p + 1)) t) : t ∈ l := by
  have hxs : x.take p ++ k :: x.drop (p + 1) ∈ al := by rw [← drop_at hk, List.take_append_drop]; exact hx
  have := Flw.lead hal hxs hk0 ht
  rw [show (-1 - k).toNat = ρ by omega] at this
  exact ris_mem h.g hl this
theorem GrK.pass {c : Cfg} {nl : List Bool} {fs gs : List (List Int)} {short : List Int} (h : GrK c nl fs gs short) {r ρ p : Nat} {al : List (List Int)} {x l l2 : List Int} {k : Int} (hal : c.alts[r]? = some al) (hx : x ∈ al) (hk : x[p]? = some k) (hk0 : k < 0) (hρ : -1 - k = ρ) (hl : gs[ρ]? = some l) (hl2 : gs[r]? = some l2) (he : Gen c (x.drop (p + 1)) []) {t : Int} (ht : t ∈ l2) : t ∈ l := by
  have hxs : x.take p ++ k :: x.drop (p + 1) ∈ al := by rw [← drop_at hk, List.take_append_drop]; exact hx
  have := Flw.pass hal hxs hk0 he (((h.g.2 r l2 hl2).2 t).1 ht)
  rw [show (-1 - k).toNat = ρ by omega] at this
  exact ris_mem h.g hl this
end Go.Proofs.Ytigbfankkmmnbaa
