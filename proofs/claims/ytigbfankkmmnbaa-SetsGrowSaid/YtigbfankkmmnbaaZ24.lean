/- SetsGrow: the walk. -/
import Derived.Test.YtigbfankkmmnbaaZ23
import Derived.Test.YtigbfankkmmnbaaZ22
import Derived.Test.YtigbfankkmmnbaaZ15
set_option linter.unusedVariables false
set_option linter.unusedSimpArgs false
namespace Go.Proofs.Ytigbfankkmmnbaa
open Go.RowKit Gk

theorem exec_not {P : Program} {ρ : Operand → Value} {o : Oper} {x : Operand} {t : TypeId} {b : Bool} {w : World} (ho : o.op = .unOp .not t x) (hx : ρ x = .bool b) : (execOp ρ o).run P w = .ok (.value (.bool (!b))) w := by
  unfold execOp
  simp [ho, hx, Op.unary]
theorem sh_open {c : Cfg} {short : List Int} {v : Value} {w : World} (h : ShortOk c short) (hI : IL w v short) (h0 : 0 < c.alts.length) : ∃ (ad : Addr) (f : Nat), v = .slice (some ad) c.alts.length f ∧ Sl Ty.int w (.slice (some ad) c.alts.length f) short := by
  obtain ⟨A, f, rfl, g1, g2, g3, g4⟩ := id hI.sl
  obtain ⟨m, hm⟩ := at_lt short (show 0 < short.length by rw [h.1]; exact h0)
  obtain ⟨ad, e, _⟩ := g4.int hm
  subst e
  have := hI.sl
  rw [h.1] at this ⊢
  exact ⟨ad, f, rfl, this⟩
def G9V (n tk : Nat) (sn so sg sv tv : Value) (G X : Nat) (g0 : List Int) (i : Nat) (v : Value) (w : World) : Prop := match i with
  | 0 => v = sn
  | 1 => v = .int .i64 n
  | 2 => v = .int .i64 n
  | 3 => v = .bool false
  | 4 => v = .bool false
  | 5 => v = so
  | 6 => v = .int .i64 n
  | 7 => v = .int .i64 n
  | 8 => v = .bool false
  | 9 => v = .bool false
  | 10 => v = .bool false
  | 11 => v = sg
  | 12 => v = .int .i64 n
  | 13 => v = .int .i64 n
  | 14 => v = .bool false
  | 15 => v = .bool false
  | 16 => v = .bool false
  | 17 => v = sv
  | 18 => v = .int .i64 n
  | 19 => v = .int .i64 n
  | 20 => v = .bool false
  | 21 => v = .bool false
  | 22 => v = .bool false
  | 23 => v = sg
  | 24 => v = .pointer (some ⟨G, 0, none⟩)
  | 25 => IL w v g0
  | 26 => v = .pointer (some ⟨X, 0, none⟩)
  | 27 => v = tv
  | 28 => v = .int .i64 tk
  | 29 => v = .bool true
  | 30 => v = .bool false
  | _ => v = .bool false
theorem G9V.below {n tk : Nat} {sn so sg sv tv : Value} {G X : Nat} {g0 : List Int} : ∀ (i : Nat) (v : Value) (w w' : World), G9V n tk sn so sg sv tv G X g0 i v w → Below w.heap.size w w' → G9V n tk sn so sg sv tv G X g0 i v w'
  | 0, _, _, _, h, _ => h
  | 1, _, _, _, h, _ => h
  | 2, _, _, _, h, _ => h
  | 3, _, _, _, h, _ => h
  | 4, _, _, _, h, _ => h
  | 5, _, _, _, h, _ => h
  | 6, _, _, _, h, _ => h
  | 7, _, _, _, h, _ => h
  | 8, _, _, _, h, _ => h
  | 9, _, _, _, h, _ => h
  | 10, _, _, _, h, _ => h
  | 11, _, _, _, h, _ => h
  | 12, _, _, _, h, _ => h
  | 13, _, _, _, h, _ => h
  | 14, _, _, _, h, _ => h
  | 15, _, _, _, h, _ => h
  | 16, _, _, _, h, _ => h
  | 17, _, _, _, h, _ => h
  | 18, _, _, _, h, _ => h
  | 19, _, _, _, h, _ => h
  | 20, _, _, _, h, _ => h
  | 21, _, _, _, h, _ => h
  | 22, _, _, _, h, _ => h
  | 23, _, _, _, h, _ => h
  | 24, _, _, _, h, _ => h
  | 25, _, _, _, h, k => IL.ki h (KI.below k)
  | 26, _, _, _, h, _ => h
  | 27, _, _, _, h, _ => h
  | 28, _, _, _, h, _ => h
  | 29, _, _, _, h, _ => h
  | 30, _, _, _, h, _ => h
  | _ + 31, _, _, _, h, _ => h
def G14V (s : Nat) (m : Int) (sn sv : Value) (N : Nat) (ad : Addr) (i : Nat) (v : Value) (w : World) : Prop := match i with
  | 0 => v = sn
  | 1 => v = .int .i64 s
  | 2 => v = .pointer (some ⟨N, s, none⟩)
  | 3 => v = .bool (decide (m = 0))
  | 4 => v = sv
  | 5 => v = .int .i64 s
  | 6 => v = .pointer (some (ad.add s))
  | 7 => v = .int .i64 m
  | 8 => v = .bool (decide (m = 0))
  | _ => v = .bool false
theorem G14V.below {s : Nat} {m : Int} {sn sv : Value} {N : Nat} {ad : Addr} : ∀ (i : Nat) (v : Value) (w w' : World), G14V s m sn sv N ad i v w → Below w.heap.size w w' → G14V s m sn sv N ad i v w'
  | 0, _, _, _, h, _ => h
  | 1, _, _, _, h, _ => h
  | 2, _, _, _, h, _ => h
  | 3, _, _, _, h, _ => h
  | 4, _, _, _, h, _ => h
  | 5, _, _, _, h, _ => h
  | 6, _, _, _, h, _ => h
  | 7, _, _, _, h, _ => h
  | 8, _, _, _, h, _ => h
  | _ + 9, _, _, _, h, _ => h
def G26V (c : Cfg) (p : Nat) (cv xv : Value) (rest : List Int) (i : Nat) (v : Value) (w : World) : Prop := match i with
  | 0 => v = cv
  | 1 => v = xv
  | 2 => v = .int .i64 p
  | 3 => v = .int .i64 ((p + 1 : Nat) : Int)
  | 4 => Sl Ty.int w v rest
  | 5 => LdT c rest v w
  | 6 => LdT c rest v w
  | 7 => LdI c rest v w
  | 8 => LdB c rest v
  | 9 => LdI c rest v w
  | _ => LdB c rest v
theorem G26V.below {c : Cfg} {p : Nat} {cv xv : Value} {rest : List Int} : ∀ (i : Nat) (v : Value) (w w' : World), G26V c p cv xv rest i v w → Below w.heap.size w w' → G26V c p cv xv rest i v w'
  | 0, _, _, _, h, _ => h
  | 1, _, _, _, h, _ => h
  | 2, _, _, _, h, _ => h
  | 3, _, _, _, h, _ => h
  | 4, _, _, _, h, k => Sl.below h k
  | 5, _, _, _, h, k => LdT.below h k
  | 6, _, _, _, h, k => LdT.below h k
  | 7, _, _, _, h, k => LdI.below h k
  | 8, _, _, _, h, _ => h
  | 9, _, _, _, h, k => LdI.below h k
  | _ + 10, _, _, _, h, _ => h
def G27V (be : Bool) (s ρ : Nat) (k : Int) (lv sg : Value) (G : Nat) (g g2 : List Int) (i : Nat) (v : Value) (w : World) : Prop := match i with
  | 0 => v = lv
  | 1 => v = sg
  | 2 => v = .int .i64 k
  | 3 => v = .int .i64 ρ
  | 4 => v = .pointer (some ⟨G, ρ, none⟩)
  | 5 => IL w v g
  | 6 => v = .bool true
  | 7 => v = .bool false
  | 8 => v = .bool false
  | 9 => v = .bool be
  | 10 => v = .bool be
  | 11 => be = true → v = sg
  | 12 => be = true → v = .int .i64 s
  | 13 => be = true → v = .pointer (some ⟨G, s, none⟩)
  | 14 => be = true → IL w v g2
  | 15 => be = true → v = sg
  | 16 => be = true → v = .int .i64 k
  | 17 => be = true → v = .int .i64 ρ
  | 18 => be = true → v = .pointer (some ⟨G, ρ, none⟩)
  | 19 => be = true → IL w v g
  | 20 => be = true → v = .bool true
  | 21 => be = true → v = .bool false
  | 22 => v = .bool false
  | _ => v = .bool false
theorem G27V.below {be : Bool} {s ρ : Nat} {k : Int} {lv sg : Value} {G : Nat} {g g2 : List Int} : ∀ (i : Nat) (v : Value) (w w' : World), G27V be s ρ k lv sg G g g2 i v w → Below w.heap.size w w' → G27V be s ρ k lv sg G g g2 i v w'
  | 0, _, _, _, h, _ => h
  | 1, _, _, _, h, _ => h
  | 2, _, _, _, h, _ => h
  | 3, _, _, _, h, _ => h
  | 4, _, _, _, h, _ => h
  | 5, _, _, _, h, k => IL.ki h (KI.below k)
  | 6, _, _, _, h, _ => h
  | 7, _, _, _, h, _ => h
  | 8, _, _, _, h, _ => h
  | 9, _, _, _, h, _ => h
  | 10, _, _, _, h, _ => h
  | 11, _, _, _, h, _ => h
  | 12, _, _, _, h, _ => h
  | 13, _, _, _, h, _ => h
  | 14, _, _, _, h, k => fun e => IL.ki (h e) (KI.below k)
  | 15, _, _, _, h, _ => h
  | 16, _, _, _, h, _ => h
  | 17, _, _, _, h, _ => h
  | 18, _, _, _, h, _ => h
  | 19, _, _, _, h, k => fun e => IL.ki (h e) (KI.below k)
  | 20, _, _, _, h, _ => h
  | 21, _, _, _, h, _ => h
  | 22, _, _, _, h, _ => h
  | _ + 23, _, _, _, h, _ => h
set_option maxRecDepth 100000 in
set_option maxHeartbeats 16000000 in
theorem setsGrow_walk (w : World) {v : Value} (c : Cfg) (h : CfgV w v c) (ht : TokOk v) :
    Calls Try.prog 5 #[v] w fun e w' => e = .returned (.bool true) ∧ Below w.heap.size w w' := by
  obtain ⟨a0, b0, d0, rfl, h1, h2, h3⟩ := id h
  obtain ⟨A1, c1, rfl, hc1, hm1, _, hr1⟩ := id h1
  obtain ⟨A2, c2, rfl, hc2, hm2, _, hr2⟩ := id h2
  obtain ⟨A3, c3, rfl, hc3, hm3, hl3, hr3⟩ := id h3
  unfold LB at hl3
  have HH := Lib.hid (And.intro h (And.intro ht True.intro))
  clear h ht h1 h2 h3 hr1 hr2
  have hB1 := Box.new w #[.slice A1 c.toks.length c1, .slice A2 c.names.length c2, .slice A3 c.alts.length c3] 25
  have hb1 : Below w.heap.size w (w.alloc (.cells #[.slice A1 c.toks.length c1, .slice A2 c.names.length c2, .slice A3 c.alts.length c3] 25)) := (Below.refl _ _).alloc (Nat.le_refl _) _
  have HB := Lib.hid (And.intro hB1 hb1)
  clear hB1 hb1
  go_enter Try.func5, Try.ntmps5
  go_wp2_with (first
      | (go_at_call 12; refine (live9_calls _).mono ?_; rintro e w1 ⟨rfl, hbl⟩; have hbx1 := HB.out.1.below hbl; have x0 := hbx1.cell 0 (v := .slice A1 c.toks.length c1) rfl; have x1 := hbx1.cell 1 (v := .slice A2 c.names.length c2) rfl; have x2 := hbx1.cell 2 (v := .slice A3 c.alts.length c3) rfl; have H1 := Lib.hid (And.intro (below2 HB.out.2 hbl) hbx1); clear hbl hbx1)
      | (go_at_call 13; refine (fewS_calls _ c _ (HH.out.1.below H1.out.1) HH.out.2.1).mono ?_; rintro e w2 ⟨bf, rfl, hbf, hfw⟩; have hbx2 := H1.out.2.below hbf; have y0 := hbx2.cell 0 (v := .slice A1 c.toks.length c1) rfl; have y1 := hbx2.cell 1 (v := .slice A2 c.names.length c2) rfl; have y2 := hbx2.cell 2 (v := .slice A3 c.alts.length c3) rfl; have H2 := Lib.hid (And.intro (below2 H1.out.1 hbf) (And.intro hbx2 hfw)); clear hbf hbx2 hfw; cases bf; all_goals first | (have hfs := H2.out.2.2 (by first | rfl | trivial); have hsa : c.alts.length ≤ 200 := (by have q1 := hfs.2.1.1; have q2 := hfs.1.1; omega); have hsb : c.toks.length ≤ 200 := (by have q1 := hfs.2.1.1; have q2 := hfs.1.1; omega); have HF := Lib.hid hfs; clear hfs) | skip)
      | (go_at_call 15; refine (pnull_calls c _ _ (HH.out.1.below H2.out.1) HF.out.2.1 HF.out.1).mono ?_; rintro e w3 ⟨N, nl, rfl, hn1, hn2, hb⟩; have hx := H2.out.2.1.below hb; have p0 := hx.cell 0 (v := .slice A1 c.toks.length c1) rfl; have p1 := hx.cell 1 (v := .slice A2 c.names.length c2) rfl; have p2 := hx.cell 2 (v := .slice A3 c.alts.length c3) rfl; have H3 := Lib.hid (And.intro hn1 (And.intro hn2 (And.intro (below2 H2.out.1 hb) hx))); clear hn1 hn2 hb hx)
      | (go_at_call 18; refine (pfirst_calls c _ _ (HH.out.1.below H3.out.2.2.1) HF.out.2.1 HF.out.1).mono ?_; rintro e w4 ⟨O, fs, rfl, hL, hR, hb, _⟩; have hx := H3.out.2.2.2.below hb; have q0 := hx.cell 0 (v := .slice A1 c.toks.length c1) rfl; have q1 := hx.cell 1 (v := .slice A2 c.names.length c2) rfl; have q2 := hx.cell 2 (v := .slice A3 c.alts.length c3) rfl; have H4 := Lib.hid (And.intro (H3.out.1.below hb) (And.intro hL (And.intro hR (And.intro (below2 H3.out.2.2.1 hb) hx)))); clear hL hR hb hx)
      | (go_at_call 20; refine (pfollow_calls c _ _ (HH.out.1.below H4.out.2.2.2.1) HF.out.2.1 HF.out.1 HF.out.2.2).mono ?_; rintro e w5 ⟨G, gs, rfl, hL, hR, hb, _⟩; have hx := H4.out.2.2.2.2.below hb; have r0 := hx.cell 0 (v := .slice A1 c.toks.length c1) rfl; have r1 := hx.cell 1 (v := .slice A2 c.names.length c2) rfl; have r2 := hx.cell 2 (v := .slice A3 c.alts.length c3) rfl; have H5 := Lib.hid (And.intro (H4.out.1.below hb) (And.intro (H4.out.2.1.below hb) (And.intro hL (And.intro hR (And.intro (below2 H4.out.2.2.2.1 hb) hx))))); clear hL hR hb hx)
      | (go_at_call 23; refine (short_calls c _ _ (HH.out.1.below H5.out.2.2.2.2.1) HF.out.2.1 HF.out.1 HF.out.2.2).mono ?_; rintro e w6 ⟨v6, short, rfl, hso, hI, hb⟩; obtain ⟨ad4, f4, e4v, hs6⟩ := sh_open hso hI HF.out.2.2; subst e4v; have hx := H5.out.2.2.2.2.2.below hb; have t0 := hx.cell 0 (v := .slice A1 c.toks.length c1) rfl; have t1 := hx.cell 1 (v := .slice A2 c.names.length c2) rfl; have t2 := hx.cell 2 (v := .slice A3 c.alts.length c3) rfl; have H6 := Lib.hid (And.intro (GrS.mk hx (H5.out.1.below hb) (H5.out.2.1.below hb) (H5.out.2.2.1.below hb) hs6 (below2 H5.out.2.2.2.2.1 hb) : GrS w w.heap.size N O G (.slice A1 c.toks.length c1) (.slice A2 c.names.length c2) (.slice A3 c.alts.length c3) (.slice (some ad4) c.alts.length f4) c nl fs gs short w6) (GrK.mk H3.out.2.1 H4.out.2.2.1 H5.out.2.2.2.1 hso)); clear hso hI hb hx hs6))
  · go_ret
    exact ⟨rfl, H2.out.1⟩
  · have HSH : Hid (∀ (w' : World), Sl Ty.int w' (.slice (some ad4) c.alts.length f4) short → ∀ (s : Nat) (m : Int), short[s]? = some m → w'.cell? (ad4.add s) = some (.int .i64 m)) := by
      intro w' hs s m hm
      obtain ⟨A5, c5, e5, _, _, _, h5⟩ := hs
      injection e5 with e5
      subst e5
      obtain ⟨ad, e6, _, hc⟩ := h5.int hm
      injection e6 with e6
      subst e6
      exact hc
    obtain ⟨g0, hg0⟩ := at_lt gs (show 0 < gs.length by rw [H6.out.2.g.1]; exact HF.out.2.2)
    have HG0 := Lib.hid (And.intro hg0 (ris_mem H6.out.2.g hg0 (Flw.start (c := c) HF.out.2.2)))
    clear hg0
    have HNE : Hid (c.alts ≠ []) := fun e => by have h := HF.out.2.2; rw [e] at h; simp at h
    refine wp_region_growG7 (by kernel_rfl) (by kernel_rfl) (G9V c.alts.length c.toks.length (.slice (some ⟨N, 0, none⟩) c.alts.length c.alts.length) (.slice (some ⟨O, 0, none⟩) c.alts.length c.alts.length) (.slice (some ⟨G, 0, none⟩) c.alts.length c.alts.length) (.slice (some ad4) c.alts.length f4) (.slice A1 c.toks.length c1) G w.heap.size g0) G9V.below ?_ ?_
    · intro i o ho val wv hBv hd
      have hW := H6.out.1.below hBv
      have x0 := hW.cb.cell 0 (v := .slice A1 c.toks.length c1) rfl
      have x1 := hW.cb.cell 1 (v := .slice A2 c.names.length c2) rfl
      have x2 := hW.cb.cell 2 (v := .slice A3 c.alts.length c3) rfl
      have hi : i < 32 := (List.getElem?_eq_some_iff.1 ho).1
      have : i = 0 ∨ i = 1 ∨ i = 2 ∨ i = 3 ∨ i = 4 ∨ i = 5 ∨ i = 6 ∨ i = 7 ∨ i = 8 ∨ i = 9 ∨ i = 10 ∨ i = 11 ∨ i = 12 ∨ i = 13 ∨ i = 14 ∨ i = 15 ∨ i = 16 ∨ i = 17 ∨ i = 18 ∨ i = 19 ∨ i = 20 ∨ i = 21 ∨ i = 22 ∨ i = 23 ∨ i = 24 ∨ i = 25 ∨ i = 26 ∨ i = 27 ∨ i = 28 ∨ i = 29 ∨ i = 30 ∨ i = 31 := by omega
      rcases this with rfl | rfl | rfl | rfl | rfl | rfl | rfl | rfl | rfl | rfl | rfl | rfl | rfl | rfl | rfl | rfl | rfl | rfl | rfl | rfl | rfl | rfl | rfl | rfl | rfl | rfl | rfl | rfl | rfl | rfl | rfl | rfl <;> cases ho
      · exact ite_do rfl (does_value (v := .slice (some ⟨N, 0, none⟩) c.alts.length c.alts.length) (w := wv) (exec_move (.inl rfl) rfl) ⟨Below.refl _ _, rfl⟩)
      · have e0 : val 0 = .slice (some ⟨N, 0, none⟩) c.alts.length c.alts.length := hd 0 ⟨⟨0, .data⟩, by simp, rfl, rfl⟩
        exact ite_do rfl (does_value (v := .int .i64 c.alts.length) (w := wv) (exec_len rfl e0 (by go_simp)) ⟨Below.refl _ _, rfl⟩)
      · exact ite_do rfl (does_value (v := .int .i64 c.alts.length) (w := wv) (exec_move (.inl rfl) rfl) ⟨Below.refl _ _, rfl⟩)
      · have e1 : val 1 = .int .i64 c.alts.length := hd 1 ⟨⟨1, .data⟩, by simp, rfl, rfl⟩
        have e2 : val 2 = .int .i64 c.alts.length := hd 2 ⟨⟨2, .data⟩, by simp, rfl, rfl⟩
        exact ite_do rfl (does_value (v := .bool false) (w := wv) (exec_bin rfl e1 e2 (by go_simp)) ⟨Below.refl _ _, rfl⟩)
      · have e3 : val 3 = .bool false := hd 3 ⟨⟨3, .data⟩, by simp, rfl, rfl⟩
        exact ite_do rfl (does_value (v := .bool false) (w := wv) (exec_move (.inl rfl) e3) ⟨Below.refl _ _, rfl⟩)
      · have eg : val 4 = .bool false := hd 4 ⟨⟨4, .guard⟩, by simp, rfl, rfl⟩
        exact ite_do ((guardv_eq rfl eg).trans rfl) (does_value (v := .slice (some ⟨O, 0, none⟩) c.alts.length c.alts.length) (w := wv) (exec_move (.inl rfl) rfl) ⟨Below.refl _ _, rfl⟩)
      · have eg : val 4 = .bool false := hd 4 ⟨⟨4, .guard⟩, by simp, rfl, rfl⟩
        have e5 : val 5 = .slice (some ⟨O, 0, none⟩) c.alts.length c.alts.length := hd 5 ⟨⟨5, .data⟩, by simp, rfl, rfl⟩
        exact ite_do ((guardv_eq rfl eg).trans rfl) (does_value (v := .int .i64 c.alts.length) (w := wv) (exec_len rfl e5 (by go_simp)) ⟨Below.refl _ _, rfl⟩)
      · have eg : val 4 = .bool false := hd 4 ⟨⟨4, .guard⟩, by simp, rfl, rfl⟩
        exact ite_do ((guardv_eq rfl eg).trans rfl) (does_value (v := .int .i64 c.alts.length) (w := wv) (exec_move (.inl rfl) rfl) ⟨Below.refl _ _, rfl⟩)
      · have eg : val 4 = .bool false := hd 4 ⟨⟨4, .guard⟩, by simp, rfl, rfl⟩
        have e6 : val 6 = .int .i64 c.alts.length := hd 6 ⟨⟨6, .data⟩, by simp, rfl, rfl⟩
        have e7 : val 7 = .int .i64 c.alts.length := hd 7 ⟨⟨7, .data⟩, by simp, rfl, rfl⟩
        exact ite_do ((guardv_eq rfl eg).trans rfl) (does_value (v := .bool false) (w := wv) (exec_bin rfl e6 e7 (by go_simp)) ⟨Below.refl _ _, rfl⟩)
      · have e4 : val 4 = .bool false := hd 4 ⟨⟨4, .data⟩, by simp, rfl, rfl⟩
        have e8 : val 8 = .bool false := hd 8 ⟨⟨8, .data⟩, by simp, rfl, rfl⟩
        exact ite_do rfl (does_value (v := .bool false) (w := wv) (exec_pick rfl e4 e8) ⟨Below.refl _ _, rfl⟩)
      · have e9 : val 9 = .bool false := hd 9 ⟨⟨9, .data⟩, by simp, rfl, rfl⟩
        exact ite_do rfl (does_value (v := .bool false) (w := wv) (exec_move (.inl rfl) e9) ⟨Below.refl _ _, rfl⟩)
      · have eg : val 10 = .bool false := hd 10 ⟨⟨10, .guard⟩, by simp, rfl, rfl⟩
        exact ite_do ((guardv_eq rfl eg).trans rfl) (does_value (v := .slice (some ⟨G, 0, none⟩) c.alts.length c.alts.length) (w := wv) (exec_move (.inl rfl) rfl) ⟨Below.refl _ _, rfl⟩)
      · have eg : val 10 = .bool false := hd 10 ⟨⟨10, .guard⟩, by simp, rfl, rfl⟩
        have e11 : val 11 = .slice (some ⟨G, 0, none⟩) c.alts.length c.alts.length := hd 11 ⟨⟨11, .data⟩, by simp, rfl, rfl⟩
        exact ite_do ((guardv_eq rfl eg).trans rfl) (does_value (v := .int .i64 c.alts.length) (w := wv) (exec_len rfl e11 (by go_simp)) ⟨Below.refl _ _, rfl⟩)
      · have eg : val 10 = .bool false := hd 10 ⟨⟨10, .guard⟩, by simp, rfl, rfl⟩
        exact ite_do ((guardv_eq rfl eg).trans rfl) (does_value (v := .int .i64 c.alts.length) (w := wv) (exec_move (.inl rfl) rfl) ⟨Below.refl _ _, rfl⟩)
      · have eg : val 10 = .bool false := hd 10 ⟨⟨10, .guard⟩, by simp, rfl, rfl⟩
        have e12 : val 12 = .int .i64 c.alts.length := hd 12 ⟨⟨12, .data⟩, by simp, rfl, rfl⟩
        have e13 : val 13 = .int .i64 c.alts.length := hd 13 ⟨⟨13, .data⟩, by simp, rfl, rfl⟩
        exact ite_do ((guardv_eq rfl eg).trans rfl) (does_value (v := .bool false) (w := wv) (exec_bin rfl e12 e13 (by go_simp)) ⟨Below.refl _ _, rfl⟩)
      · have e10 : val 10 = .bool false := hd 10 ⟨⟨10, .data⟩, by simp, rfl, rfl⟩
        have e14 : val 14 = .bool false := hd 14 ⟨⟨14, .data⟩, by simp, rfl, rfl⟩
        exact ite_do rfl (does_value (v := .bool false) (w := wv) (exec_pick rfl e10 e14) ⟨Below.refl _ _, rfl⟩)
      · have e15 : val 15 = .bool false := hd 15 ⟨⟨15, .data⟩, by simp, rfl, rfl⟩
        exact ite_do rfl (does_value (v := .bool false) (w := wv) (exec_move (.inl rfl) e15) ⟨Below.refl _ _, rfl⟩)
      · have eg : val 16 = .bool false := hd 16 ⟨⟨16, .guard⟩, by simp, rfl, rfl⟩
        exact ite_do ((guardv_eq rfl eg).trans rfl) (does_value (v := .slice (some ad4) c.alts.length f4) (w := wv) (exec_move (.inl rfl) rfl) ⟨Below.refl _ _, rfl⟩)
      · have eg : val 16 = .bool false := hd 16 ⟨⟨16, .guard⟩, by simp, rfl, rfl⟩
        have e17 : val 17 = .slice (some ad4) c.alts.length f4 := hd 17 ⟨⟨17, .data⟩, by simp, rfl, rfl⟩
        exact ite_do ((guardv_eq rfl eg).trans rfl) (does_value (v := .int .i64 c.alts.length) (w := wv) (exec_len rfl e17 (by go_simp)) ⟨Below.refl _ _, rfl⟩)
      · have eg : val 16 = .bool false := hd 16 ⟨⟨16, .guard⟩, by simp, rfl, rfl⟩
        exact ite_do ((guardv_eq rfl eg).trans rfl) (does_value (v := .int .i64 c.alts.length) (w := wv) (exec_move (.inl rfl) rfl) ⟨Below.refl _ _, rfl⟩)
      · have eg : val 16 = .bool false := hd 16 ⟨⟨16, .guard⟩, by simp, rfl, rfl⟩
        have e18 : val 18 = .int .i64 c.alts.length := hd 18 ⟨⟨18, .data⟩, by simp, rfl, rfl⟩
        have e19 : val 19 = .int .i64 c.alts.length := hd 19 ⟨⟨19, .data⟩, by simp, rfl, rfl⟩
        exact ite_do ((guardv_eq rfl eg).trans rfl) (does_value (v := .bool false) (w := wv) (exec_bin rfl e18 e19 (by go_simp)) ⟨Below.refl _ _, rfl⟩)
      · have e16 : val 16 = .bool false := hd 16 ⟨⟨16, .data⟩, by simp, rfl, rfl⟩
        have e20 : val 20 = .bool false := hd 20 ⟨⟨20, .data⟩, by simp, rfl, rfl⟩
        exact ite_do rfl (does_value (v := .bool false) (w := wv) (exec_pick rfl e16 e20) ⟨Below.refl _ _, rfl⟩)
      · have e21 : val 21 = .bool false := hd 21 ⟨⟨21, .data⟩, by simp, rfl, rfl⟩
        exact ite_do rfl (does_value (v := .bool false) (w := wv) (exec_move (.inl rfl) e21) ⟨Below.refl _ _, rfl⟩)
      · have eg : val 22 = .bool false := hd 22 ⟨⟨22, .guard⟩, by simp, rfl, rfl⟩
        exact ite_do ((guardv_eq rfl eg).trans rfl) (does_value (v := .slice (some ⟨G, 0, none⟩) c.alts.length c.alts.length) (w := wv) (exec_move (.inl rfl) rfl) ⟨Below.refl _ _, rfl⟩)
      · have eg : val 22 = .bool false := hd 22 ⟨⟨22, .guard⟩, by simp, rfl, rfl⟩
        have e23 : val 23 = .slice (some ⟨G, 0, none⟩) c.alts.length c.alts.length := hd 23 ⟨⟨23, .data⟩, by simp, rfl, rfl⟩
        exact ite_do ((guardv_eq rfl eg).trans rfl) (does_value (v := .pointer (some ⟨G, 0, none⟩)) (w := wv) (exec_indexAddr (v := .int .i64 0) rfl e23 rfl (by go_simp; intro e; exact absurd e HNE.out)) ⟨Below.refl _ _, rfl⟩)
      · have eg : val 22 = .bool false := hd 22 ⟨⟨22, .guard⟩, by simp, rfl, rfl⟩
        have e24 : val 24 = .pointer (some ⟨G, 0, none⟩) := hd 24 ⟨⟨24, .data⟩, by simp, rfl, rfl⟩
        obtain ⟨vg, hcg, _, hig⟩ := hW.go.at_ HG0.out.1
        exact ite_do ((guardv_eq rfl eg).trans rfl) (does_value (v := vg) (w := wv) (exec_load rfl e24 (by go_simp)) ⟨Below.refl _ _, hig⟩)
      · have eg : val 22 = .bool false := hd 22 ⟨⟨22, .guard⟩, by simp, rfl, rfl⟩
        exact ite_do ((guardv_eq rfl eg).trans rfl) (does_value (v := .pointer (some ⟨w.heap.size, 0, none⟩)) (w := wv) (exec_fieldAddr (vx := .pointer (some ⟨w.heap.size, 0, none⟩)) rfl rfl (by go_simp)) ⟨Below.refl _ _, rfl⟩)
      · have eg : val 22 = .bool false := hd 22 ⟨⟨22, .guard⟩, by simp, rfl, rfl⟩
        have e26 : val 26 = .pointer (some ⟨w.heap.size, 0, none⟩) := hd 26 ⟨⟨26, .data⟩, by simp, rfl, rfl⟩
        exact ite_do ((guardv_eq rfl eg).trans rfl) (does_value (v := .slice A1 c.toks.length c1) (w := wv) (exec_load rfl e26 (by go_simp)) ⟨Below.refl _ _, rfl⟩)
      · have eg : val 22 = .bool false := hd 22 ⟨⟨22, .guard⟩, by simp, rfl, rfl⟩
        have e27 : val 27 = .slice A1 c.toks.length c1 := hd 27 ⟨⟨27, .data⟩, by simp, rfl, rfl⟩
        exact ite_do ((guardv_eq rfl eg).trans rfl) (does_value (v := .int .i64 c.toks.length) (w := wv) (exec_len rfl e27 (by go_simp)) ⟨Below.refl _ _, rfl⟩)
      · have eg : val 22 = .bool false := hd 22 ⟨⟨22, .guard⟩, by simp, rfl, rfl⟩
        have e25 : IL wv (val 25) g0 := hd 25 ⟨⟨25, .data⟩, by simp, rfl, rfl⟩
        have e28 : val 28 = .int .i64 c.toks.length := hd 28 ⟨⟨28, .data⟩, by simp, rfl, rfl⟩
        refine ite_do ((guardv_eq rfl eg).trans rfl) (does_enter (f := 28) (args := #[val 25, .int .i64 c.toks.length]) (w := wv) (exec_call rfl rfl (by simp only [List.map_toArray, List.map_cons, List.map_nil]; exact args2 rfl e28) Try.func28 (by decide) rfl) ?_)
        refine (in_calls _ g0 c.toks.length wv e25.sl (by unfold Ty.i64; omega)).mono ?_
        rw [decide_eq_true HG0.out.2]
        rintro e w5 ⟨rfl, hD⟩
        exact ⟨_, rfl, hD.below, rfl⟩
      · have eg : val 22 = .bool false := hd 22 ⟨⟨22, .guard⟩, by simp, rfl, rfl⟩
        have e29 : val 29 = .bool true := hd 29 ⟨⟨29, .data⟩, by simp, rfl, rfl⟩
        exact ite_do ((guardv_eq rfl eg).trans rfl) (does_value (v := .bool false) (w := wv) (exec_not (b := true) rfl e29) ⟨Below.refl _ _, rfl⟩)
      · have e22 : val 22 = .bool false := hd 22 ⟨⟨22, .data⟩, by simp, rfl, rfl⟩
        have e30 : val 30 = .bool false := hd 30 ⟨⟨30, .data⟩, by simp, rfl, rfl⟩
        exact ite_do rfl (does_value (v := .bool false) (w := wv) (exec_pick rfl e22 e30) ⟨Below.refl _ _, rfl⟩)
    · intro val wv hBv hV
      have e31 : val 31 = .bool false := hV 31 (by decide)
      have H7 := Lib.hid (H6.out.1.below hBv)
      clear hV hBv
      simp [fillAll, List.range, List.range.loop, dstOf, Act.put, e31]
      clear e31
      have y2 := H7.out.cb.cell 2 (v := .slice A3 c.alts.length c3) rfl
      go_wp2
      go_loopw [70] (fun i wr => ∃ s : Nat, s ≤ c.alts.length ∧ i = .int .i64 s ∧ GrS w w.heap.size N O G (.slice A1 c.toks.length c1) (.slice A2 c.names.length c2) (.slice A3 c.alts.length c3) (.slice (some ad4) c.alts.length f4) c nl fs gs short wr) (fun i _ => c.alts.length - (intOf i).toNat)
      case atStart => exact ⟨0, Nat.zero_le _, rfl, H7.out⟩
      case round =>
        obtain ⟨s, hs, rfl, hS⟩ := hrel
        have H8 := Lib.hid hS
        clear hS
        by_cases hlt : s < c.alts.length
        · obtain ⟨al, hal1⟩ := at_lt c.alts hlt
          obtain ⟨ad3, B3, c4, rfl, hcellB, g1', g2', g3', g4⟩ := (hr3.below H8.out.bl).slice hal1
          have hrowB : Hid (∀ w' : World, Below w.heap.size w w' → Row (Ty.slice Ty.int) w' B3 al) := by
            intro w' hb
            obtain ⟨ad0, B0, c0, e0, hcell0, _, _, _, g40⟩ := hr3.slice hal1
            injection e0 with e0
            subst e0
            have q1 := cell_far hcell0 H8.out.bl.block
            rw [hcellB] at q1; injection q1 with q1; injection q1 with q1 _ _
            rw [q1]; exact g40.below hb
          obtain ⟨b, hbn⟩ := at_lt nl (show s < nl.length by rw [H6.out.2.n.inv.1]; exact hlt)
          obtain ⟨m, hms⟩ := at_lt short (show s < short.length by rw [H6.out.2.s.1]; exact hlt)
          obtain ⟨gs2, hgs2⟩ := at_lt gs (show s < gs.length by rw [H6.out.2.g.1]; exact hlt)
          obtain ⟨fs2, hfs2⟩ := at_lt fs (show s < fs.length by rw [H6.out.2.f.1]; exact hlt)
          obtain rfl := H6.out.2.nul_short hbn hms
          have HNM := Lib.hid (And.intro hbn hms)
          have HAL := Lib.hid (And.intro hal1 (And.intro hgs2 hfs2))
          clear hbn hms hal1 g4 hgs2 hfs2
          go_wp2
          refine wp_region_growG7 (by kernel_rfl) (by kernel_rfl) (G14V s m (.slice (some ⟨N, 0, none⟩) c.alts.length c.alts.length) (.slice (some ad4) c.alts.length f4) N ad4) G14V.below ?_ ?_
          · intro i o ho val wv hBv hd
            have hW := H8.out.below hBv
            have x0 := hW.cb.cell 0 (v := .slice A1 c.toks.length c1) rfl
            have x1 := hW.cb.cell 1 (v := .slice A2 c.names.length c2) rfl
            have x2 := hW.cb.cell 2 (v := .slice (some ad3) c.alts.length c3) rfl
            have hi : i < 10 := (List.getElem?_eq_some_iff.1 ho).1
            have : i = 0 ∨ i = 1 ∨ i = 2 ∨ i = 3 ∨ i = 4 ∨ i = 5 ∨ i = 6 ∨ i = 7 ∨ i = 8 ∨ i = 9 := by omega
            rcases this with rfl | rfl | rfl | rfl | rfl | rfl | rfl | rfl | rfl | rfl <;> cases ho
            · exact ite_do rfl (does_value (v := .slice (some ⟨N, 0, none⟩) c.alts.length c.alts.length) (w := wv) (exec_move (.inl rfl) rfl) ⟨Below.refl _ _, rfl⟩)
            · exact ite_do rfl (does_value (v := .int .i64 s) (w := wv) (exec_move (.inl rfl) rfl) ⟨Below.refl _ _, rfl⟩)
            · have e0 : val 0 = .slice (some ⟨N, 0, none⟩) c.alts.length c.alts.length := hd 0 ⟨⟨0, .data⟩, by simp, rfl, rfl⟩
              have e1 : val 1 = .int .i64 s := hd 1 ⟨⟨1, .data⟩, by simp, rfl, rfl⟩
              exact ite_do rfl (does_value (v := .pointer (some ⟨N, s, none⟩)) (w := wv) (exec_indexAddr rfl e0 e1 (by go_simp)) ⟨Below.refl _ _, rfl⟩)
            · have e2 : val 2 = .pointer (some ⟨N, s, none⟩) := hd 2 ⟨⟨2, .data⟩, by simp, rfl, rfl⟩
              have hcn : wv.cell? ⟨N, s, none⟩ = some (.bool (decide (m = 0))) := hW.nb.cell s (by have := HNM.out.1; simp [this])
              exact ite_do rfl (does_value (v := .bool (decide (m = 0))) (w := wv) (exec_load rfl e2 (by go_simp)) ⟨Below.refl _ _, rfl⟩)
            · exact ite_do rfl (does_value (v := .slice (some ad4) c.alts.length f4) (w := wv) (exec_move (.inl rfl) rfl) ⟨Below.refl _ _, rfl⟩)
            · exact ite_do rfl (does_value (v := .int .i64 s) (w := wv) (exec_move (.inl rfl) rfl) ⟨Below.refl _ _, rfl⟩)
            · have e4 : val 4 = .slice (some ad4) c.alts.length f4 := hd 4 ⟨⟨4, .data⟩, by simp, rfl, rfl⟩
              have e5 : val 5 = .int .i64 s := hd 5 ⟨⟨5, .data⟩, by simp, rfl, rfl⟩
              exact ite_do rfl (does_value (v := .pointer (some (ad4.add s))) (w := wv) (exec_indexAddr rfl e4 e5 (by go_simp)) ⟨Below.refl _ _, rfl⟩)
            · have e6 : val 6 = .pointer (some (ad4.add s)) := hd 6 ⟨⟨6, .data⟩, by simp, rfl, rfl⟩
              have hcs := HSH.out wv hW.sh s m HNM.out.2
              exact ite_do rfl (does_value (v := .int .i64 m) (w := wv) (exec_load rfl e6 (by go_simp)) ⟨Below.refl _ _, rfl⟩)
            · have e7 : val 7 = .int .i64 m := hd 7 ⟨⟨7, .data⟩, by simp, rfl, rfl⟩
              exact ite_do rfl (does_value (v := .bool (decide (m = 0))) (w := wv) (exec_bin (v := .int .i64 0) rfl e7 rfl (by go_simp; first | rfl | (rw [Bool.eq_iff_iff]; simp))) ⟨Below.refl _ _, rfl⟩)
            · have e3 : val 3 = .bool (decide (m = 0)) := hd 3 ⟨⟨3, .data⟩, by simp, rfl, rfl⟩
              have e8 : val 8 = .bool (decide (m = 0)) := hd 8 ⟨⟨8, .data⟩, by simp, rfl, rfl⟩
              exact ite_do rfl (does_value (v := .bool false) (w := wv) (exec_bin rfl e3 e8 (by go_simp)) ⟨Below.refl _ _, rfl⟩)
          · intro val wv hBv hV
            have e9 : val 9 = .bool false := hV 9 (by decide)
            have H9 := Lib.hid (H8.out.below hBv)
            clear hV hBv
            simp [fillAll, List.range, List.range.loop, dstOf, Act.put, e9]
            clear e9
            go_wp2
            go_loopw [87] (fun i wr => ∃ j : Nat, j ≤ al.length ∧ i = .int .i64 j ∧ GrS w w.heap.size N O G (.slice A1 c.toks.length c1) (.slice A2 c.names.length c2) (.slice (some ad3) c.alts.length c3) (.slice (some ad4) c.alts.length f4) c nl fs gs short wr) (fun i _ => al.length - (intOf i).toNat)
            case atStart => exact ⟨0, Nat.zero_le _, rfl, H9.out⟩
            case round =>
              obtain ⟨j, hj, rfl, hS⟩ := hrel
              have H10 := Lib.hid hS
              have z0 := hS.cb.cell 0 (v := .slice A1 c.toks.length c1) rfl
              have z1 := hS.cb.cell 1 (v := .slice A2 c.names.length c2) rfl
              have z2 := hS.cb.cell 2 (v := .slice (some ad3) c.alts.length c3) rfl
              clear hS
              by_cases hlt2 : j < al.length
              · obtain ⟨x, hx⟩ := at_lt al hlt2
                have hro : Row (Ty.slice Ty.int) wr B3 al := hrowB.out wr H10.out.bl
                obtain ⟨adA, BA, cX, rfl, hcellA, a1, a2, a3, a4⟩ := hro.slice hx
                have hua : Hid (∀ w' : World, Below w.heap.size w w' → Sl Ty.int w' (.slice BA x.length cX) x) := by
                  intro w' hb
                  obtain ⟨ad5, B5, c5, e5, hcell5, y1, y2, y3, y4⟩ := (hrowB.out w (Below.refl _ _)).slice hx
                  injection e5 with e5
                  subst e5
                  have q1 := cell_far hcell5 H10.out.bl.block
                  rw [hcellA] at q1; injection q1 with q1; injection q1 with q1 q2 q3
                  subst q1 q3
                  exact ⟨_, _, rfl, y1, y2, y3, y4.below hb⟩
                have hxm := List.mem_of_getElem? hx
                have hxl : x.length ≤ 200 := by have := (HF.out.1.2 al (List.mem_of_getElem? HAL.out.1)).2 x hxm; omega
                have hinA := HF.out.2.1.2 al (List.mem_of_getElem? HAL.out.1) x hxm
                have hlt9 : ∀ k ∈ x, k < c.toks.length := fun k hk => by rcases hinA k hk with h | h <;> omega
                have HX := Lib.hid (And.intro hxm (And.intro hinA hlt9))
                clear hx hro a4 hxm hinA hlt9
                obtain ⟨wb, rfl⟩ : ∃ wb : World, wb = wr := ⟨_, rfl⟩
                go_wp2_with (first
                  | (go_at_call 26; refine (plead_calls c _ _ x _ (HH.out.1.below H10.out.bl) HF.out.2.1 HF.out.1 (hua.out _ H10.out.bl) HX.out.2.2 hxl).mono ?_; rintro e w11 ⟨v11, k11, be11, rfl, hI, hR, hm, he, hb⟩; obtain ⟨A11, c11, rfl, _, _, _, _⟩ := id hI.sl; have H11 := Lib.hid (And.intro hI (And.intro hm (And.intro he (H10.out.below hb)))); obtain ⟨vf, hcf, _, hif⟩ := H11.out.2.2.2.fo.at_ HAL.out.2.2; have HIF := Lib.hid hif; clear hI hR hm he hb hif)
                  | (go_at_call 29; refine (part_calls _ _ k11 fs2 w11 H11.out.1.sl HIF.out.sl (fun t ht => H6.out.2.lead HAL.out.1 HX.out.1 HAL.out.2.2 ((H11.out.2.1 t).1 ht))).mono ?_; rintro e w12 ⟨rfl, hb⟩; have H12 := Lib.hid (H11.out.2.2.2.below hb); have hcn : w12.cell? ⟨N, s, none⟩ = some (.bool (decide (m = 0))) := H12.out.nb.cell s (by have := HNM.out.1; simp [this]); clear hb; have hnb := H6.out.2.nul HAL.out.1 HX.out.1 HNM.out.1 H11.out.2.2.1; cases be11; all_goals first | (have hnt := hnb rfl; clear hnb) | clear hnb))
                all_goals
                  go_loopw [116] (fun i wr => ∃ p : Nat, p ≤ x.length ∧ i = .int .i64 p ∧ GrS w w.heap.size N O G (.slice A1 c.toks.length c1) (.slice A2 c.names.length c2) (.slice (some ad3) c.alts.length c3) (.slice (some ad4) c.alts.length f4) c nl fs gs short wr) (fun i _ => x.length - (intOf i).toNat)
                  case atStart => exact ⟨0, Nat.zero_le _, rfl, H12.out⟩
                  case round =>
                    obtain ⟨p, hp, rfl, hS⟩ := hrel
                    have H13 := Lib.hid hS
                    clear hS
                    by_cases hlt3 : p < x.length
                    · obtain ⟨k, hk⟩ := at_lt x hlt3
                      obtain ⟨AX, cX', eX, _, _, _, hrx⟩ := id (hua.out wr H13.out.bl)
                      injection eX with eX1 eX2 eX3
                      subst eX1
                      obtain ⟨adx, rfl, hk64, hcellk⟩ := hrx.int hk
                      clear hrx eX2 eX3
                      have hkin := HX.out.2.1 k (List.mem_of_getElem? hk)
                      have hnm := HF.out.2.1.1
                      have hka := hk64.1
                      have hkb := hk64.2
                      have HK := Lib.hid hk
                      clear hk hk64
                      by_cases hk0 : k ≥ 0
                      · clear hkin hnm
                        go_wp2
                        exact ⟨⟨p + 1, by omega, by simp, H13.out⟩, by simp [intOf]; omega⟩
                      · obtain ⟨ρ, hρ⟩ : ∃ ρ : Nat, -1 - k = ρ := ⟨(-1 - k).toNat, by omega⟩
                        have hρl : ρ < c.alts.length := by rcases hkin with h | h <;> omega
                        have hwr : IntKind.i64.wrap (-1 - k) = ρ := by rw [IntKind.wrap_i64]; omega
                        have hpp : IntKind.i64.wrap ((p : Int) + 1) = (p : Int) + 1 := by rw [IntKind.wrap_i64]; omega
                        obtain ⟨gρ, hgρ⟩ := at_lt gs (show ρ < gs.length by rw [H6.out.2.g.1]; exact hρl)
                        have HGs := Lib.hid (And.intro hgρ HAL.out.2.1)
                        have HR := Lib.hid (And.intro hρ (show k < 0 by omega))
                        obtain ⟨VD, hVD, hVS⟩ := slDropI (hua.out wr H13.out.bl) (n := p + 1) (by omega)
                        have HVD := Lib.hid (And.intro hVD hVS)
                        obtain ⟨rest, hrest⟩ : ∃ rest, rest = x.drop (p + 1) := ⟨_, rfl⟩
                        have hrl : rest.length ≤ 200 := by rw [hrest]; simp; omega
                        have HRe := Lib.hid hrest
                        rw [← hrest] at HVD
                        clear hrest hVD hVS hgρ hρ hkin hnm
                        go_wp2
                        refine wp_region_growG7 (by kernel_rfl) (by kernel_rfl) (G26V c p (.agg #[.slice A1 c.toks.length c1, .slice A2 c.names.length c2, .slice (some ad3) c.alts.length c3]) (.slice (some adx) x.length cX) rest) G26V.below ?_ ?_
                        · intro i o ho val wv hBv hd
                          have hW := H13.out.below hBv
                          have x0 := hW.cb.cell 0 (v := .slice A1 c.toks.length c1) rfl
                          have x1 := hW.cb.cell 1 (v := .slice A2 c.names.length c2) rfl
                          have x2 := hW.cb.cell 2 (v := .slice (some ad3) c.alts.length c3) rfl
                          have hi : i < 11 := (List.getElem?_eq_some_iff.1 ho).1
                          have : i = 0 ∨ i = 1 ∨ i = 2 ∨ i = 3 ∨ i = 4 ∨ i = 5 ∨ i = 6 ∨ i = 7 ∨ i = 8 ∨ i = 9 ∨ i = 10 := by omega
                          rcases this with rfl | rfl | rfl | rfl | rfl | rfl | rfl | rfl | rfl | rfl | rfl <;> cases ho
                          · exact ite_do rfl (does_value (v := .agg #[.slice A1 c.toks.length c1, .slice A2 c.names.length c2, .slice (some ad3) c.alts.length c3]) (w := wv) (exec_load rfl rfl (by go_simp)) ⟨Below.refl _ _, rfl⟩)
                          · exact ite_do rfl (does_value (v := .slice (some adx) x.length cX) (w := wv) (exec_move (.inl rfl) rfl) ⟨Below.refl _ _, rfl⟩)
                          · exact ite_do rfl (does_value (v := .int .i64 p) (w := wv) (exec_move (.inl rfl) rfl) ⟨Below.refl _ _, rfl⟩)
                          · have e2 : val 2 = .int .i64 p := hd 2 ⟨⟨2, .data⟩, by simp, rfl, rfl⟩
                            exact ite_do rfl (does_value (v := .int .i64 ((p + 1 : Nat) : Int)) (w := wv) (exec_bin (u := .int .i64 (p : Nat)) (v := .int .i64 1) rfl e2 rfl (by simp [Go.binOp, go_sem]; rw [hpp]; try simp)) ⟨Below.refl _ _, rfl⟩)
                          · have e1 : val 1 = .slice (some adx) x.length cX := hd 1 ⟨⟨1, .data⟩, by simp, rfl, rfl⟩
                            have e3 : val 3 = .int .i64 ((p + 1 : Nat) : Int) := hd 3 ⟨⟨3, .data⟩, by simp, rfl, rfl⟩
                            exact ite_do rfl (does_value (v := VD) (w := wv) (exec_slice rfl e1 (l := some (.int .i64 ((p + 1 : Nat) : Int))) (congrArg some e3) (h := none) rfl (HVD.out.1 _)) ⟨Below.refl _ _, HVD.out.2 wv (hua.out wv hW.bl)⟩)
                          · have e0 : val 0 = .agg #[.slice A1 c.toks.length c1, .slice A2 c.names.length c2, .slice (some ad3) c.alts.length c3] := hd 0 ⟨⟨0, .data⟩, by simp, rfl, rfl⟩
                            have e4 : Sl Ty.int wv (val 4) rest := hd 4 ⟨⟨4, .data⟩, by simp, rfl, rfl⟩
                            refine ite_do rfl (does_enter (f := 26) (args := #[.agg #[.slice A1 c.toks.length c1, .slice A2 c.names.length c2, .slice (some ad3) c.alts.length c3], val 4]) (w := wv) (exec_call rfl rfl (by simp only [List.map_toArray, List.map_cons, List.map_nil]; exact args2 e0 rfl) Try.func26 (by decide) rfl) ?_)
                            refine (plead_calls c _ _ rest wv (HH.out.1.below hW.bl) HF.out.2.1 HF.out.1 e4 (fun k hk => HX.out.2.2 k (by rw [HRe.out] at hk; exact List.mem_of_mem_drop hk)) hrl).mono ?_
                            rintro e w' ⟨v', ks, be, rfl, hI', hR', hm', he', hb⟩
                            exact ⟨_, rfl, hb, _, ks, be, rfl, hI', hR', hm', he'⟩
                          · have e5 : LdT c rest (val 5) wv := hd 5 ⟨⟨5, .data⟩, by simp, rfl, rfl⟩
                            exact ite_do rfl (does_value (v := val 5) (w := wv) (exec_move (.inl rfl) rfl) ⟨Below.refl _ _, e5⟩)
                          · obtain ⟨x9, ks, be, e6, k1, k2, k3, k4⟩ : LdT c rest (val 6) wv := hd 6 ⟨⟨6, .data⟩, by simp, rfl, rfl⟩
                            exact ite_do rfl (does_value (v := x9) (w := wv) (exec_extract rfl e6 rfl) ⟨Below.refl _ _, ks, k1, k2, k3⟩)
                          · obtain ⟨x9, ks, be, e6, k1, k2, k3, k4⟩ : LdT c rest (val 6) wv := hd 6 ⟨⟨6, .data⟩, by simp, rfl, rfl⟩
                            exact ite_do rfl (does_value (v := .bool be) (w := wv) (exec_extract rfl e6 rfl) ⟨Below.refl _ _, be, rfl, k4⟩)
                          · have e7 : LdI c rest (val 7) wv := hd 7 ⟨⟨7, .data⟩, by simp, rfl, rfl⟩
                            exact ite_do rfl (does_value (v := val 7) (w := wv) (exec_move (.inr rfl) rfl) ⟨Below.refl _ _, e7⟩)
                          · have e8 : LdB c rest (val 8) := hd 8 ⟨⟨8, .data⟩, by simp, rfl, rfl⟩
                            exact ite_do rfl (does_value (v := val 8) (w := wv) (exec_move (.inr rfl) rfl) ⟨Below.refl _ _, e8⟩)
                        · intro val wv hBv hV
                          obtain ⟨k17, hI17, hR17, hm17⟩ : LdI c rest (val 9) wv := hV 9 (by decide)
                          obtain ⟨be, e10, he17⟩ : LdB c rest (val 10) := hV 10 (by decide)
                          obtain ⟨v17, hv17⟩ : ∃ v17, v17 = val 9 := ⟨_, rfl⟩
                          rw [← hv17] at hI17
                          have e9 : val 9 = v17 := hv17.symm
                          obtain ⟨A17, c17, rfl, _, _, _, _⟩ := id hI17.sl
                          have H14 := Lib.hid (H13.out.below hBv)
                          have H17 := Lib.hid (And.intro hI17 hm17)
                          have hsub1 : ∀ t ∈ k17, t ∈ gρ := fun t ht => H6.out.2.follow HAL.out.1 HX.out.1 HK.out HR.out.2 HR.out.1 HGs.out.1 (by rw [← HRe.out]; exact (hm17 t).1 ht)
                          have hsub2 : be = true → ∀ t ∈ gs2, t ∈ gρ := fun hb t ht => H6.out.2.pass HAL.out.1 HX.out.1 HK.out HR.out.2 HR.out.1 HGs.out.1 HGs.out.2 (by rw [← HRe.out]; exact he17.1 hb) ht
                          have HSub := Lib.hid (And.intro hsub1 hsub2)
                          clear hV hBv hI17 hR17 hm17 he17 hv17 hsub1 hsub2
                          simp [fillAll, List.range, List.range.loop, dstOf, Act.put, e9, e10]
                          clear e9 e10
                          cases be with
                          | false =>
                            go_wp2
                            refine wp_region_growG7 (by kernel_rfl) (by kernel_rfl) (G27V false s ρ k (.slice A17 k17.length c17) (.slice (some ⟨G, 0, none⟩) c.alts.length c.alts.length) G gρ gs2) G27V.below ?_ ?_
                            · intro i o ho val wv hBv hd
                              have hW := H14.out.below hBv
                              have x0 := hW.cb.cell 0 (v := .slice A1 c.toks.length c1) rfl
                              have x1 := hW.cb.cell 1 (v := .slice A2 c.names.length c2) rfl
                              have x2 := hW.cb.cell 2 (v := .slice (some ad3) c.alts.length c3) rfl
                              have hi : i < 24 := (List.getElem?_eq_some_iff.1 ho).1
                              have : i = 0 ∨ i = 1 ∨ i = 2 ∨ i = 3 ∨ i = 4 ∨ i = 5 ∨ i = 6 ∨ i = 7 ∨ i = 8 ∨ i = 9 ∨ i = 10 ∨ i = 11 ∨ i = 12 ∨ i = 13 ∨ i = 14 ∨ i = 15 ∨ i = 16 ∨ i = 17 ∨ i = 18 ∨ i = 19 ∨ i = 20 ∨ i = 21 ∨ i = 22 ∨ i = 23 := by omega
                              rcases this with rfl | rfl | rfl | rfl | rfl | rfl | rfl | rfl | rfl | rfl | rfl | rfl | rfl | rfl | rfl | rfl | rfl | rfl | rfl | rfl | rfl | rfl | rfl | rfl <;> cases ho
                              · exact ite_do rfl (does_value (v := .slice A17 k17.length c17) (w := wv) (exec_move (.inl rfl) rfl) ⟨Below.refl _ _, rfl⟩)
                              · exact ite_do rfl (does_value (v := .slice (some ⟨G, 0, none⟩) c.alts.length c.alts.length) (w := wv) (exec_move (.inl rfl) rfl) ⟨Below.refl _ _, rfl⟩)
                              · exact ite_do rfl (does_value (v := .int .i64 k) (w := wv) (exec_move (.inl rfl) rfl) ⟨Below.refl _ _, rfl⟩)
                              · have e2 : val 2 = .int .i64 k := hd 2 ⟨⟨2, .data⟩, by simp, rfl, rfl⟩
                                exact ite_do rfl (does_value (v := .int .i64 ρ) (w := wv) (exec_bin (u := .int .i64 (-1)) rfl rfl e2 (by go_simp)) ⟨Below.refl _ _, rfl⟩)
                              · have e1 : val 1 = .slice (some ⟨G, 0, none⟩) c.alts.length c.alts.length := hd 1 ⟨⟨1, .data⟩, by simp, rfl, rfl⟩
                                have e3 : val 3 = .int .i64 ρ := hd 3 ⟨⟨3, .data⟩, by simp, rfl, rfl⟩
                                exact ite_do rfl (does_value (v := .pointer (some ⟨G, ρ, none⟩)) (w := wv) (exec_indexAddr rfl e1 e3 (by go_simp)) ⟨Below.refl _ _, rfl⟩)
                              · have e4 : val 4 = .pointer (some ⟨G, ρ, none⟩) := hd 4 ⟨⟨4, .data⟩, by simp, rfl, rfl⟩
                                obtain ⟨vg, hcg, _, hig⟩ := hW.go.at_ HGs.out.1
                                exact ite_do rfl (does_value (v := vg) (w := wv) (exec_load rfl e4 (by go_simp)) ⟨Below.refl _ _, hig⟩)
                              · have e0 : val 0 = .slice A17 k17.length c17 := hd 0 ⟨⟨0, .data⟩, by simp, rfl, rfl⟩
                                have e5 : IL wv (val 5) gρ := hd 5 ⟨⟨5, .data⟩, by simp, rfl, rfl⟩
                                refine ite_do rfl (does_enter (f := 29) (args := #[.slice A17 k17.length c17, val 5]) (w := wv) (exec_call rfl rfl (by simp only [List.map_toArray, List.map_cons, List.map_nil]; exact args2 e0 rfl) Try.func29 (by decide) rfl) ?_)
                                refine (part_calls _ _ k17 gρ wv (H17.out.1.ki (KI.below hBv)).sl e5.sl HSub.out.1).mono ?_
                                rintro e w5 ⟨rfl, hb⟩
                                exact ⟨_, rfl, hb, rfl⟩
                              · have e6 : val 6 = .bool true := hd 6 ⟨⟨6, .data⟩, by simp, rfl, rfl⟩
                                exact ite_do rfl (does_value (v := .bool false) (w := wv) (exec_not (b := true) rfl e6) ⟨Below.refl _ _, rfl⟩)
                              · have e7 : val 7 = .bool false := hd 7 ⟨⟨7, .data⟩, by simp, rfl, rfl⟩
                                exact ite_do rfl (does_value (v := .bool false) (w := wv) (exec_move (.inl rfl) e7) ⟨Below.refl _ _, rfl⟩)
                              · have eg : val 8 = .bool false := hd 8 ⟨⟨8, .guard⟩, by simp, rfl, rfl⟩
                                exact ite_do ((guardv_eq rfl eg).trans rfl) (does_value (v := .bool false) (w := wv) (exec_move (.inl rfl) rfl) ⟨Below.refl _ _, rfl⟩)
                              · have eg : val 8 = .bool false := hd 8 ⟨⟨8, .guard⟩, by simp, rfl, rfl⟩
                                have e9 : val 9 = .bool false := hd 9 ⟨⟨9, .data⟩, by simp, rfl, rfl⟩
                                exact ite_do ((guardv_eq rfl eg).trans rfl) (does_value (v := .bool false) (w := wv) (exec_move (.inl rfl) e9) ⟨Below.refl _ _, rfl⟩)
                              · have eg : val 10 = .bool false := hd 10 ⟨⟨10, .guard⟩, by simp, rfl, rfl⟩
                                exact ite_no ((guardv_eq rfl eg).trans rfl) (fun h => by cases h)
                              · have eg : val 10 = .bool false := hd 10 ⟨⟨10, .guard⟩, by simp, rfl, rfl⟩
                                exact ite_no ((guardv_eq rfl eg).trans rfl) (fun h => by cases h)
                              · have eg : val 10 = .bool false := hd 10 ⟨⟨10, .guard⟩, by simp, rfl, rfl⟩
                                exact ite_no ((guardv_eq rfl eg).trans rfl) (fun h => by cases h)
                              · have eg : val 10 = .bool false := hd 10 ⟨⟨10, .guard⟩, by simp, rfl, rfl⟩
                                exact ite_no ((guardv_eq rfl eg).trans rfl) (fun h => by cases h)
                              · have eg : val 10 = .bool false := hd 10 ⟨⟨10, .guard⟩, by simp, rfl, rfl⟩
                                exact ite_no ((guardv_eq rfl eg).trans rfl) (fun h => by cases h)
                              · have eg : val 10 = .bool false := hd 10 ⟨⟨10, .guard⟩, by simp, rfl, rfl⟩
                                exact ite_no ((guardv_eq rfl eg).trans rfl) (fun h => by cases h)
                              · have eg : val 10 = .bool false := hd 10 ⟨⟨10, .guard⟩, by simp, rfl, rfl⟩
                                exact ite_no ((guardv_eq rfl eg).trans rfl) (fun h => by cases h)
                              · have eg : val 10 = .bool false := hd 10 ⟨⟨10, .guard⟩, by simp, rfl, rfl⟩
                                exact ite_no ((guardv_eq rfl eg).trans rfl) (fun h => by cases h)
                              · have eg : val 10 = .bool false := hd 10 ⟨⟨10, .guard⟩, by simp, rfl, rfl⟩
                                exact ite_no ((guardv_eq rfl eg).trans rfl) (fun h => by cases h)
                              · have eg : val 10 = .bool false := hd 10 ⟨⟨10, .guard⟩, by simp, rfl, rfl⟩
                                exact ite_no ((guardv_eq rfl eg).trans rfl) (fun h => by cases h)
                              · have eg : val 10 = .bool false := hd 10 ⟨⟨10, .guard⟩, by simp, rfl, rfl⟩
                                exact ite_no ((guardv_eq rfl eg).trans rfl) (fun h => by cases h)
                              · have eg : val 8 = .bool false := hd 8 ⟨⟨8, .guard⟩, by simp, rfl, rfl⟩
                                have e10 : val 10 = .bool false := hd 10 ⟨⟨10, .data⟩, by simp, rfl, rfl⟩
                                exact ite_do ((guardv_eq rfl eg).trans rfl) (does_value (v := .bool false) (w := wv) (exec_pick rfl e10 rfl) ⟨Below.refl _ _, rfl⟩)
                              · have e8 : val 8 = .bool false := hd 8 ⟨⟨8, .data⟩, by simp, rfl, rfl⟩
                                have e22 : val 22 = .bool false := hd 22 ⟨⟨22, .data⟩, by simp, rfl, rfl⟩
                                exact ite_do rfl (does_value (v := .bool false) (w := wv) (exec_pick rfl e8 e22) ⟨Below.refl _ _, rfl⟩)
                            · intro val wv hBv hV
                              have e23 : val 23 = .bool false := hV 23 (by decide)
                              have H15 := Lib.hid (H14.out.below hBv)
                              clear hV hBv
                              simp [fillAll, List.range, List.range.loop, dstOf, Act.put, e23]
                              clear e23
                              go_wp2
                              exact ⟨⟨p + 1, by omega, by simp, H15.out⟩, by simp [intOf]; omega⟩
                          | true =>
                            go_wp2
                            refine wp_region_growG7 (by kernel_rfl) (by kernel_rfl) (G27V true s ρ k (.slice A17 k17.length c17) (.slice (some ⟨G, 0, none⟩) c.alts.length c.alts.length) G gρ gs2) G27V.below ?_ ?_
                            · intro i o ho val wv hBv hd
                              have hW := H14.out.below hBv
                              have x0 := hW.cb.cell 0 (v := .slice A1 c.toks.length c1) rfl
                              have x1 := hW.cb.cell 1 (v := .slice A2 c.names.length c2) rfl
                              have x2 := hW.cb.cell 2 (v := .slice (some ad3) c.alts.length c3) rfl
                              have hi : i < 24 := (List.getElem?_eq_some_iff.1 ho).1
                              have : i = 0 ∨ i = 1 ∨ i = 2 ∨ i = 3 ∨ i = 4 ∨ i = 5 ∨ i = 6 ∨ i = 7 ∨ i = 8 ∨ i = 9 ∨ i = 10 ∨ i = 11 ∨ i = 12 ∨ i = 13 ∨ i = 14 ∨ i = 15 ∨ i = 16 ∨ i = 17 ∨ i = 18 ∨ i = 19 ∨ i = 20 ∨ i = 21 ∨ i = 22 ∨ i = 23 := by omega
                              rcases this with rfl | rfl | rfl | rfl | rfl | rfl | rfl | rfl | rfl | rfl | rfl | rfl | rfl | rfl | rfl | rfl | rfl | rfl | rfl | rfl | rfl | rfl | rfl | rfl <;> cases ho
                              · exact ite_do rfl (does_value (v := .slice A17 k17.length c17) (w := wv) (exec_move (.inl rfl) rfl) ⟨Below.refl _ _, rfl⟩)
                              · exact ite_do rfl (does_value (v := .slice (some ⟨G, 0, none⟩) c.alts.length c.alts.length) (w := wv) (exec_move (.inl rfl) rfl) ⟨Below.refl _ _, rfl⟩)
                              · exact ite_do rfl (does_value (v := .int .i64 k) (w := wv) (exec_move (.inl rfl) rfl) ⟨Below.refl _ _, rfl⟩)
                              · have e2 : val 2 = .int .i64 k := hd 2 ⟨⟨2, .data⟩, by simp, rfl, rfl⟩
                                exact ite_do rfl (does_value (v := .int .i64 ρ) (w := wv) (exec_bin (u := .int .i64 (-1)) rfl rfl e2 (by go_simp)) ⟨Below.refl _ _, rfl⟩)
                              · have e1 : val 1 = .slice (some ⟨G, 0, none⟩) c.alts.length c.alts.length := hd 1 ⟨⟨1, .data⟩, by simp, rfl, rfl⟩
                                have e3 : val 3 = .int .i64 ρ := hd 3 ⟨⟨3, .data⟩, by simp, rfl, rfl⟩
                                exact ite_do rfl (does_value (v := .pointer (some ⟨G, ρ, none⟩)) (w := wv) (exec_indexAddr rfl e1 e3 (by go_simp)) ⟨Below.refl _ _, rfl⟩)
                              · have e4 : val 4 = .pointer (some ⟨G, ρ, none⟩) := hd 4 ⟨⟨4, .data⟩, by simp, rfl, rfl⟩
                                obtain ⟨vg, hcg, _, hig⟩ := hW.go.at_ HGs.out.1
                                exact ite_do rfl (does_value (v := vg) (w := wv) (exec_load rfl e4 (by go_simp)) ⟨Below.refl _ _, hig⟩)
                              · have e0 : val 0 = .slice A17 k17.length c17 := hd 0 ⟨⟨0, .data⟩, by simp, rfl, rfl⟩
                                have e5 : IL wv (val 5) gρ := hd 5 ⟨⟨5, .data⟩, by simp, rfl, rfl⟩
                                refine ite_do rfl (does_enter (f := 29) (args := #[.slice A17 k17.length c17, val 5]) (w := wv) (exec_call rfl rfl (by simp only [List.map_toArray, List.map_cons, List.map_nil]; exact args2 e0 rfl) Try.func29 (by decide) rfl) ?_)
                                refine (part_calls _ _ k17 gρ wv (H17.out.1.ki (KI.below hBv)).sl e5.sl HSub.out.1).mono ?_
                                rintro e w5 ⟨rfl, hb⟩
                                exact ⟨_, rfl, hb, rfl⟩
                              · have e6 : val 6 = .bool true := hd 6 ⟨⟨6, .data⟩, by simp, rfl, rfl⟩
                                exact ite_do rfl (does_value (v := .bool false) (w := wv) (exec_not (b := true) rfl e6) ⟨Below.refl _ _, rfl⟩)
                              · have e7 : val 7 = .bool false := hd 7 ⟨⟨7, .data⟩, by simp, rfl, rfl⟩
                                exact ite_do rfl (does_value (v := .bool false) (w := wv) (exec_move (.inl rfl) e7) ⟨Below.refl _ _, rfl⟩)
                              · have eg : val 8 = .bool false := hd 8 ⟨⟨8, .guard⟩, by simp, rfl, rfl⟩
                                exact ite_do ((guardv_eq rfl eg).trans rfl) (does_value (v := .bool true) (w := wv) (exec_move (.inl rfl) rfl) ⟨Below.refl _ _, rfl⟩)
                              · have eg : val 8 = .bool false := hd 8 ⟨⟨8, .guard⟩, by simp, rfl, rfl⟩
                                have e9 : val 9 = .bool true := hd 9 ⟨⟨9, .data⟩, by simp, rfl, rfl⟩
                                exact ite_do ((guardv_eq rfl eg).trans rfl) (does_value (v := .bool true) (w := wv) (exec_move (.inl rfl) e9) ⟨Below.refl _ _, rfl⟩)
                              · have eg : val 10 = .bool true := hd 10 ⟨⟨10, .guard⟩, by simp, rfl, rfl⟩
                                exact ite_do ((guardv_eq rfl eg).trans rfl) (does_value (v := .slice (some ⟨G, 0, none⟩) c.alts.length c.alts.length) (w := wv) (exec_move (.inl rfl) rfl) ⟨Below.refl _ _, fun _ => rfl⟩)
                              · have eg : val 10 = .bool true := hd 10 ⟨⟨10, .guard⟩, by simp, rfl, rfl⟩
                                exact ite_do ((guardv_eq rfl eg).trans rfl) (does_value (v := .int .i64 s) (w := wv) (exec_move (.inl rfl) rfl) ⟨Below.refl _ _, fun _ => rfl⟩)
                              · have eg : val 10 = .bool true := hd 10 ⟨⟨10, .guard⟩, by simp, rfl, rfl⟩
                                have e11 : val 11 = .slice (some ⟨G, 0, none⟩) c.alts.length c.alts.length := hd 11 ⟨⟨11, .data⟩, by simp, rfl, rfl⟩ rfl
                                have e12 : val 12 = .int .i64 s := hd 12 ⟨⟨12, .data⟩, by simp, rfl, rfl⟩ rfl
                                exact ite_do ((guardv_eq rfl eg).trans rfl) (does_value (v := .pointer (some ⟨G, s, none⟩)) (w := wv) (exec_indexAddr rfl e11 e12 (by go_simp)) ⟨Below.refl _ _, fun _ => rfl⟩)
                              · have eg : val 10 = .bool true := hd 10 ⟨⟨10, .guard⟩, by simp, rfl, rfl⟩
                                have e13 : val 13 = .pointer (some ⟨G, s, none⟩) := hd 13 ⟨⟨13, .data⟩, by simp, rfl, rfl⟩ rfl
                                obtain ⟨vg, hcg, _, hig⟩ := hW.go.at_ HGs.out.2
                                exact ite_do ((guardv_eq rfl eg).trans rfl) (does_value (v := vg) (w := wv) (exec_load rfl e13 (by go_simp)) ⟨Below.refl _ _, fun _ => hig⟩)
                              · have eg : val 10 = .bool true := hd 10 ⟨⟨10, .guard⟩, by simp, rfl, rfl⟩
                                exact ite_do ((guardv_eq rfl eg).trans rfl) (does_value (v := .slice (some ⟨G, 0, none⟩) c.alts.length c.alts.length) (w := wv) (exec_move (.inl rfl) rfl) ⟨Below.refl _ _, fun _ => rfl⟩)
                              · have eg : val 10 = .bool true := hd 10 ⟨⟨10, .guard⟩, by simp, rfl, rfl⟩
                                exact ite_do ((guardv_eq rfl eg).trans rfl) (does_value (v := .int .i64 k) (w := wv) (exec_move (.inl rfl) rfl) ⟨Below.refl _ _, fun _ => rfl⟩)
                              · have eg : val 10 = .bool true := hd 10 ⟨⟨10, .guard⟩, by simp, rfl, rfl⟩
                                have e16 : val 16 = .int .i64 k := hd 16 ⟨⟨16, .data⟩, by simp, rfl, rfl⟩ rfl
                                exact ite_do ((guardv_eq rfl eg).trans rfl) (does_value (v := .int .i64 ρ) (w := wv) (exec_bin (u := .int .i64 (-1)) rfl rfl e16 (by go_simp)) ⟨Below.refl _ _, fun _ => rfl⟩)
                              · have eg : val 10 = .bool true := hd 10 ⟨⟨10, .guard⟩, by simp, rfl, rfl⟩
                                have e15 : val 15 = .slice (some ⟨G, 0, none⟩) c.alts.length c.alts.length := hd 15 ⟨⟨15, .data⟩, by simp, rfl, rfl⟩ rfl
                                have e17 : val 17 = .int .i64 ρ := hd 17 ⟨⟨17, .data⟩, by simp, rfl, rfl⟩ rfl
                                exact ite_do ((guardv_eq rfl eg).trans rfl) (does_value (v := .pointer (some ⟨G, ρ, none⟩)) (w := wv) (exec_indexAddr rfl e15 e17 (by go_simp)) ⟨Below.refl _ _, fun _ => rfl⟩)
                              · have eg : val 10 = .bool true := hd 10 ⟨⟨10, .guard⟩, by simp, rfl, rfl⟩
                                have e18 : val 18 = .pointer (some ⟨G, ρ, none⟩) := hd 18 ⟨⟨18, .data⟩, by simp, rfl, rfl⟩ rfl
                                obtain ⟨vg, hcg, _, hig⟩ := hW.go.at_ HGs.out.1
                                exact ite_do ((guardv_eq rfl eg).trans rfl) (does_value (v := vg) (w := wv) (exec_load rfl e18 (by go_simp)) ⟨Below.refl _ _, fun _ => hig⟩)
                              · have eg : val 10 = .bool true := hd 10 ⟨⟨10, .guard⟩, by simp, rfl, rfl⟩
                                have e14 : IL wv (val 14) gs2 := hd 14 ⟨⟨14, .data⟩, by simp, rfl, rfl⟩ rfl
                                have e19 : IL wv (val 19) gρ := hd 19 ⟨⟨19, .data⟩, by simp, rfl, rfl⟩ rfl
                                refine ite_do ((guardv_eq rfl eg).trans rfl) (does_enter (f := 29) (args := #[val 14, val 19]) (w := wv) (exec_call rfl rfl (by simp only [List.map_toArray, List.map_cons, List.map_nil]; rfl) Try.func29 (by decide) rfl) ?_)
                                refine (part_calls _ _ gs2 gρ wv e14.sl e19.sl (HSub.out.2 (by first | rfl | trivial))).mono ?_
                                rintro e w5 ⟨rfl, hb⟩
                                exact ⟨_, rfl, hb, fun _ => rfl⟩
                              · have eg : val 10 = .bool true := hd 10 ⟨⟨10, .guard⟩, by simp, rfl, rfl⟩
                                have e20 : val 20 = .bool true := hd 20 ⟨⟨20, .data⟩, by simp, rfl, rfl⟩ rfl
                                exact ite_do ((guardv_eq rfl eg).trans rfl) (does_value (v := .bool false) (w := wv) (exec_not (b := true) rfl e20) ⟨Below.refl _ _, fun _ => rfl⟩)
                              · have eg : val 8 = .bool false := hd 8 ⟨⟨8, .guard⟩, by simp, rfl, rfl⟩
                                have e10 : val 10 = .bool true := hd 10 ⟨⟨10, .data⟩, by simp, rfl, rfl⟩
                                have e21 : val 21 = .bool false := hd 21 ⟨⟨21, .data⟩, by simp, rfl, rfl⟩ rfl
                                exact ite_do ((guardv_eq rfl eg).trans rfl) (does_value (v := .bool false) (w := wv) (exec_pick rfl e10 e21) ⟨Below.refl _ _, rfl⟩)
                              · have e8 : val 8 = .bool false := hd 8 ⟨⟨8, .data⟩, by simp, rfl, rfl⟩
                                have e22 : val 22 = .bool false := hd 22 ⟨⟨22, .data⟩, by simp, rfl, rfl⟩
                                exact ite_do rfl (does_value (v := .bool false) (w := wv) (exec_pick rfl e8 e22) ⟨Below.refl _ _, rfl⟩)
                            · intro val wv hBv hV
                              have e23 : val 23 = .bool false := hV 23 (by decide)
                              have H15 := Lib.hid (H14.out.below hBv)
                              clear hV hBv
                              simp [fillAll, List.range, List.range.loop, dstOf, Act.put, e23]
                              clear e23
                              go_wp2
                              exact ⟨⟨p + 1, by omega, by simp, H15.out⟩, by simp [intOf]; omega⟩
                    · have hpe : p = x.length := by omega
                      subst hpe
                      go_wp2
                      exact ⟨⟨j + 1, by omega, by simp, H13.out⟩, by simp [intOf]; omega⟩
              · have hje : j = al.length := by omega
                subst hje
                go_wp2
                exact ⟨⟨s + 1, by omega, by simp, H10.out⟩, by simp [intOf]; omega⟩
        · have hse : s = c.alts.length := by omega
          subst hse
          go_wp2
          go_ret
          exact ⟨rfl, H8.out.bl⟩
end Go.Proofs.Ytigbfankkmmnbaa
