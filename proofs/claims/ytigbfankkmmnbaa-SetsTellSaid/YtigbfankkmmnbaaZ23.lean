/- SetsTell: the walk. -/
import Derived.Test.YtigbfankkmmnbaaZ21
import Derived.Test.YtigbfankkmmnbaaZ22
import Derived.Test.YtigbfankkmmnbaaZ08
set_option linter.unusedVariables false
set_option linter.unusedSimpArgs false
namespace Go.Proofs.Ytigbfankkmmnbaa
open Go.RowKit Gk

def TlV (c : Cfg) (cv : Value) (i : Nat) (v : Value) (w : World) : Prop := match i with
  | 0 => v = .bool true
  | 1 => v = .bool true
  | 2 => v = cv
  | 3 => ∃ (N : Nat) (nl : List Bool), v = .slice (some ⟨N, 0, none⟩) c.alts.length c.alts.length ∧ Box w N (nl.map Value.bool).toArray 4 ∧ NulOk c nl
  | 4 => v = cv
  | 5 => ∃ (N : Nat) (nl : List Bool), v = .slice (some ⟨N, 0, none⟩) c.alts.length c.alts.length ∧ Box w N (nl.map Value.bool).toArray 4 ∧ NulOk c nl
  | 6 => v = .bool true
  | 7 => v = .bool true
  | 8 => v = .bool true
  | 9 => v = cv
  | 10 => ∃ (O : Nat) (ls : List (List Int)), v = .slice (some ⟨O, 0, none⟩) c.alts.length c.alts.length ∧ LRow w O ls ∧ RisAll c.alts.length (Frs c) ls
  | 11 => v = cv
  | 12 => ∃ (O : Nat) (ls : List (List Int)), v = .slice (some ⟨O, 0, none⟩) c.alts.length c.alts.length ∧ LRow w O ls ∧ RisAll c.alts.length (Frs c) ls
  | 13 => v = .bool true
  | 14 => v = .bool true
  | 15 => v = .bool true
  | 16 => v = cv
  | 17 => ∃ (O : Nat) (ls : List (List Int)), v = .slice (some ⟨O, 0, none⟩) c.alts.length c.alts.length ∧ LRow w O ls ∧ RisAll c.alts.length (Flw c) ls
  | 18 => v = cv
  | 19 => ∃ (O : Nat) (ls : List (List Int)), v = .slice (some ⟨O, 0, none⟩) c.alts.length c.alts.length ∧ LRow w O ls ∧ RisAll c.alts.length (Flw c) ls
  | 20 => v = .bool true
  | 21 => v = .bool true
  | 22 => v = .bool true
  | 23 => v = cv
  | 24 => ∃ short : List Int, IL w v short ∧ ShortOk c short
  | 25 => v = cv
  | 26 => ∃ short : List Int, IL w v short ∧ ShortOk c short
  | 27 => v = .bool true
  | 28 => v = .bool true
  | _ => v = .bool true
theorem TlV.below {c : Cfg} {cv : Value} : ∀ (i : Nat) (v : Value) (w w' : World), TlV c cv i v w → Below w.heap.size w w' → TlV c cv i v w'
  | 0, _, _, _, h, _ => h
  | 1, _, _, _, h, _ => h
  | 2, _, _, _, h, _ => h
  | 3, _, _, _, ⟨N, nl, h1, h2, h3⟩, k => ⟨N, nl, h1, h2.below k, h3⟩
  | 4, _, _, _, h, _ => h
  | 5, _, _, _, ⟨N, nl, h1, h2, h3⟩, k => ⟨N, nl, h1, h2.below k, h3⟩
  | 6, _, _, _, h, _ => h
  | 7, _, _, _, h, _ => h
  | 8, _, _, _, h, _ => h
  | 9, _, _, _, h, _ => h
  | 10, _, _, _, ⟨O, ls, h1, h2, h3⟩, k => ⟨O, ls, h1, h2.below k, h3⟩
  | 11, _, _, _, h, _ => h
  | 12, _, _, _, ⟨O, ls, h1, h2, h3⟩, k => ⟨O, ls, h1, h2.below k, h3⟩
  | 13, _, _, _, h, _ => h
  | 14, _, _, _, h, _ => h
  | 15, _, _, _, h, _ => h
  | 16, _, _, _, h, _ => h
  | 17, _, _, _, ⟨O, ls, h1, h2, h3⟩, k => ⟨O, ls, h1, h2.below k, h3⟩
  | 18, _, _, _, h, _ => h
  | 19, _, _, _, ⟨O, ls, h1, h2, h3⟩, k => ⟨O, ls, h1, h2.below k, h3⟩
  | 20, _, _, _, h, _ => h
  | 21, _, _, _, h, _ => h
  | 22, _, _, _, h, _ => h
  | 23, _, _, _, h, _ => h
  | 24, _, _, _, ⟨s, h1, h2⟩, k => ⟨s, h1.ki (KI.below k), h2⟩
  | 25, _, _, _, h, _ => h
  | 26, _, _, _, ⟨s, h1, h2⟩, k => ⟨s, h1.ki (KI.below k), h2⟩
  | 27, _, _, _, h, _ => h
  | 28, _, _, _, h, _ => h
  | _ + 29, _, _, _, h, _ => h
set_option maxRecDepth 100000 in
set_option maxHeartbeats 8000000 in
theorem setsTell_walk (w : World) {v : Value} (c : Cfg) (h : CfgV w v c) (ht : TokOk v) :
    Calls Try.prog 3 #[v] w fun e w' => e = .returned (.bool true) ∧ Below w.heap.size w w' := by
  obtain ⟨a0, b0, d0, rfl, h1, h2, h3⟩ := id h
  obtain ⟨A1, c1, rfl, hc1, hm1, _, hr1⟩ := id h1
  obtain ⟨A2, c2, rfl, hc2, hm2, _, hr2⟩ := id h2
  obtain ⟨A3, c3, rfl, hc3, hm3, hl3, hr3⟩ := id h3
  unfold LB at hl3
  have HH := Lib.hid (And.intro h (And.intro ht True.intro))
  clear h ht h1 h2 h3 hr1 hr2 hr3
  have hB1 := Box.new w #[.slice A1 c.toks.length c1, .slice A2 c.names.length c2, .slice A3 c.alts.length c3] 25
  have hb1 : Below w.heap.size w (w.alloc (.cells #[.slice A1 c.toks.length c1, .slice A2 c.names.length c2, .slice A3 c.alts.length c3] 25)) := (Below.refl _ _).alloc (Nat.le_refl _) _
  have HB := Lib.hid (And.intro hB1 hb1)
  clear hB1 hb1
  go_enter Try.func3, Try.ntmps3
  go_wp2_with (first
      | (go_at_call 12; refine (live9_calls _).mono ?_; rintro e w1 ⟨rfl, hbl⟩; have hbx1 := HB.out.1.below hbl; have x0 := hbx1.cell 0 (v := .slice A1 c.toks.length c1) rfl; have x1 := hbx1.cell 1 (v := .slice A2 c.names.length c2) rfl; have x2 := hbx1.cell 2 (v := .slice A3 c.alts.length c3) rfl; have H1 := Lib.hid (And.intro (below2 HB.out.2 hbl) hbx1); clear hbl hbx1)
      | (go_at_call 13; refine (fewS_calls _ c _ (HH.out.1.below H1.out.1) HH.out.2.1).mono ?_; rintro e w2 ⟨bf, rfl, hbf, hfw⟩; have hbx2 := H1.out.2.below hbf; have y0 := hbx2.cell 0 (v := .slice A1 c.toks.length c1) rfl; have y1 := hbx2.cell 1 (v := .slice A2 c.names.length c2) rfl; have y2 := hbx2.cell 2 (v := .slice A3 c.alts.length c3) rfl; have H2 := Lib.hid (And.intro (below2 H1.out.1 hbf) (And.intro hbx2 hfw)); clear hbf hbx2 hfw; cases bf; all_goals first | (have hfs := H2.out.2.2 (by first | rfl | trivial); have hsa : c.alts.length ≤ 200 := (by have q1 := hfs.2.1.1; have q2 := hfs.1.1; omega); have hsb : c.toks.length ≤ 200 := (by have q1 := hfs.2.1.1; have q2 := hfs.1.1; omega); have HF := Lib.hid hfs; clear hfs) | skip))
  · go_ret
    exact ⟨rfl, H2.out.1⟩
  · refine wp_region_growG4 (by kernel_rfl) (by kernel_rfl) (TlV c (.agg #[.slice A1 c.toks.length c1, .slice A2 c.names.length c2, .slice A3 c.alts.length c3])) TlV.below ?_ ?_
    · intro i o ho val w4 hB4 hd
      have hX := H2.out.2.1.below hB4
      have x0 := hX.cell 0 (v := .slice A1 c.toks.length c1) rfl
      have x1 := hX.cell 1 (v := .slice A2 c.names.length c2) rfl
      have x2 := hX.cell 2 (v := .slice A3 c.alts.length c3) rfl
      have hcfg := HH.out.1.below (below2 H2.out.1 hB4)
      have hi : i < 30 := (List.getElem?_eq_some_iff.1 ho).1
      have : i = 0 ∨ i = 1 ∨ i = 2 ∨ i = 3 ∨ i = 4 ∨ i = 5 ∨ i = 6 ∨ i = 7 ∨ i = 8 ∨ i = 9 ∨ i = 10 ∨ i = 11 ∨ i = 12 ∨ i = 13 ∨ i = 14 ∨ i = 15 ∨ i = 16 ∨ i = 17 ∨ i = 18 ∨ i = 19 ∨ i = 20 ∨ i = 21 ∨ i = 22 ∨ i = 23 ∨ i = 24 ∨ i = 25 ∨ i = 26 ∨ i = 27 ∨ i = 28 ∨ i = 29 := by omega
      rcases this with rfl | rfl | rfl | rfl | rfl | rfl | rfl | rfl | rfl | rfl | rfl | rfl | rfl | rfl | rfl | rfl | rfl | rfl | rfl | rfl | rfl | rfl | rfl | rfl | rfl | rfl | rfl | rfl | rfl | rfl <;> cases ho
      · exact ite_do rfl (does_value (v := .bool true) (w := w4) (exec_move (.inl rfl) rfl) ⟨Below.refl _ _, rfl⟩)
      · have e0 : val 0 = .bool true := hd 0 ⟨⟨0, .data⟩, by simp, rfl, rfl⟩
        exact ite_do rfl (does_value (v := .bool true) (w := w4) (exec_move (.inl rfl) e0) ⟨Below.refl _ _, rfl⟩)
      · have eg : val 1 = .bool true := hd 1 ⟨⟨1, .guard⟩, by simp, rfl, rfl⟩
        exact ite_do ((guardv_eq rfl eg).trans rfl) (does_value (v := .agg #[.slice A1 c.toks.length c1, .slice A2 c.names.length c2, .slice A3 c.alts.length c3]) (w := w4) (exec_load rfl rfl (by go_simp)) ⟨Below.refl _ _, rfl⟩)
      · have eg : val 1 = .bool true := hd 1 ⟨⟨1, .guard⟩, by simp, rfl, rfl⟩
        have ea : val 2 = .agg #[.slice A1 c.toks.length c1, .slice A2 c.names.length c2, .slice A3 c.alts.length c3] := hd 2 ⟨⟨2, .data⟩, by simp, rfl, rfl⟩
        refine ite_do ((guardv_eq rfl eg).trans rfl) (does_enter (f := 15) (args := #[.agg #[.slice A1 c.toks.length c1, .slice A2 c.names.length c2, .slice A3 c.alts.length c3]]) (w := w4) (exec_call rfl rfl (by simp only [List.map_toArray, List.map_cons, List.map_nil]; exact congrArg (fun x => #[x]) ea) Try.func15 (by decide) rfl) ?_)
        refine (pnull_calls c _ w4 hcfg HF.out.2.1 HF.out.1).mono ?_
        rintro e w5 ⟨N, nl, rfl, h1, h2, hb⟩
        exact ⟨_, rfl, hb, N, nl, rfl, h1, h2⟩
      · have eg : val 1 = .bool true := hd 1 ⟨⟨1, .guard⟩, by simp, rfl, rfl⟩
        exact ite_do ((guardv_eq rfl eg).trans rfl) (does_value (v := .agg #[.slice A1 c.toks.length c1, .slice A2 c.names.length c2, .slice A3 c.alts.length c3]) (w := w4) (exec_load rfl rfl (by go_simp)) ⟨Below.refl _ _, rfl⟩)
      · have eg : val 1 = .bool true := hd 1 ⟨⟨1, .guard⟩, by simp, rfl, rfl⟩
        have ea : val 4 = .agg #[.slice A1 c.toks.length c1, .slice A2 c.names.length c2, .slice A3 c.alts.length c3] := hd 4 ⟨⟨4, .data⟩, by simp, rfl, rfl⟩
        refine ite_do ((guardv_eq rfl eg).trans rfl) (does_enter (f := 16) (args := #[.agg #[.slice A1 c.toks.length c1, .slice A2 c.names.length c2, .slice A3 c.alts.length c3]]) (w := w4) (exec_call rfl rfl (by simp only [List.map_toArray, List.map_cons, List.map_nil]; exact congrArg (fun x => #[x]) ea) Try.func16 (by decide) rfl) ?_)
        refine (nullable_calls c _ w4 hcfg HF.out.2.1 HF.out.1 HF.out.2.2).mono ?_
        rintro e w5 ⟨N, nl, rfl, h1, h2, h3, hb⟩
        exact ⟨_, rfl, hb, N, nl, rfl, h1, ⟨h2, h3⟩⟩
      · have eg : val 1 = .bool true := hd 1 ⟨⟨1, .guard⟩, by simp, rfl, rfl⟩
        obtain ⟨N, nl, e1, h1, h2⟩ : ∃ (N : Nat) (nl : List Bool), val 3 = .slice (some ⟨N, 0, none⟩) c.alts.length c.alts.length ∧ Box w4 N (nl.map Value.bool).toArray 4 ∧ NulOk c nl := hd 3 ⟨⟨3, .data⟩, by simp, rfl, rfl⟩
        obtain ⟨N2, nl2, e2, k1, k2⟩ : ∃ (N : Nat) (nl : List Bool), val 5 = .slice (some ⟨N, 0, none⟩) c.alts.length c.alts.length ∧ Box w4 N (nl.map Value.bool).toArray 4 ∧ NulOk c nl := hd 5 ⟨⟨5, .data⟩, by simp, rfl, rfl⟩
        obtain rfl := k2.one h2
        refine ite_do ((guardv_eq rfl eg).trans rfl) (does_enter (f := 14) (args := #[.slice (some ⟨N, 0, none⟩) c.alts.length c.alts.length, .slice (some ⟨N2, 0, none⟩) c.alts.length c.alts.length]) (w := w4) (exec_call rfl rfl (by simp only [List.map_toArray, List.map_cons, List.map_nil]; exact args2 e1 e2) Try.func14 (by decide) rfl) ?_)
        refine (sameBools_calls _ _ nl2 nl2 w4 (slBool h1 h2.inv.1 (by omega)) (slBool k1 h2.inv.1 (by omega))).mono ?_
        rw [decide_eq_true (rfl : nl2 = nl2)]
        rintro e w5 ⟨rfl, hD⟩
        exact ⟨_, rfl, hD.below, rfl⟩
      · have ea : val 1 = .bool true := hd 1 ⟨⟨1, .data⟩, by simp, rfl, rfl⟩
        have eb : val 6 = .bool true := hd 6 ⟨⟨6, .data⟩, by simp, rfl, rfl⟩
        exact ite_do rfl (does_value (v := .bool true) (w := w4) (exec_pick rfl ea eb) ⟨Below.refl _ _, rfl⟩)
      · have ea : val 7 = .bool true := hd 7 ⟨⟨7, .data⟩, by simp, rfl, rfl⟩
        exact ite_do rfl (does_value (v := .bool true) (w := w4) (exec_move (.inl rfl) ea) ⟨Below.refl _ _, rfl⟩)
      · have eg : val 8 = .bool true := hd 8 ⟨⟨8, .guard⟩, by simp, rfl, rfl⟩
        exact ite_do ((guardv_eq rfl eg).trans rfl) (does_value (v := .agg #[.slice A1 c.toks.length c1, .slice A2 c.names.length c2, .slice A3 c.alts.length c3]) (w := w4) (exec_load rfl rfl (by go_simp)) ⟨Below.refl _ _, rfl⟩)
      · have eg : val 8 = .bool true := hd 8 ⟨⟨8, .guard⟩, by simp, rfl, rfl⟩
        have ea : val 9 = .agg #[.slice A1 c.toks.length c1, .slice A2 c.names.length c2, .slice A3 c.alts.length c3] := hd 9 ⟨⟨9, .data⟩, by simp, rfl, rfl⟩
        refine ite_do ((guardv_eq rfl eg).trans rfl) (does_enter (f := 18) (args := #[.agg #[.slice A1 c.toks.length c1, .slice A2 c.names.length c2, .slice A3 c.alts.length c3]]) (w := w4) (exec_call rfl rfl (by simp only [List.map_toArray, List.map_cons, List.map_nil]; exact congrArg (fun x => #[x]) ea) Try.func18 (by decide) rfl) ?_)
        refine (pfirst_calls c _ w4 hcfg HF.out.2.1 HF.out.1).mono ?_
        rintro e w5 ⟨O, ls, rfl, h1, h2, hb, _⟩
        exact ⟨_, rfl, hb, O, ls, rfl, h1, h2⟩
      · have eg : val 8 = .bool true := hd 8 ⟨⟨8, .guard⟩, by simp, rfl, rfl⟩
        exact ite_do ((guardv_eq rfl eg).trans rfl) (does_value (v := .agg #[.slice A1 c.toks.length c1, .slice A2 c.names.length c2, .slice A3 c.alts.length c3]) (w := w4) (exec_load rfl rfl (by go_simp)) ⟨Below.refl _ _, rfl⟩)
      · have eg : val 8 = .bool true := hd 8 ⟨⟨8, .guard⟩, by simp, rfl, rfl⟩
        have ea : val 11 = .agg #[.slice A1 c.toks.length c1, .slice A2 c.names.length c2, .slice A3 c.alts.length c3] := hd 11 ⟨⟨11, .data⟩, by simp, rfl, rfl⟩
        refine ite_do ((guardv_eq rfl eg).trans rfl) (does_enter (f := 19) (args := #[.agg #[.slice A1 c.toks.length c1, .slice A2 c.names.length c2, .slice A3 c.alts.length c3]]) (w := w4) (exec_call rfl rfl (by simp only [List.map_toArray, List.map_cons, List.map_nil]; exact congrArg (fun x => #[x]) ea) Try.func19 (by decide) rfl) ?_)
        refine (refFirst_calls c _ w4 hcfg HF.out.2.1 HF.out.1 HF.out.2.2).mono ?_
        rintro e w5 ⟨O, ls, rfl, h1, h2, hb, _⟩
        exact ⟨_, rfl, hb, O, ls, rfl, h1, h2⟩
      · have eg : val 8 = .bool true := hd 8 ⟨⟨8, .guard⟩, by simp, rfl, rfl⟩
        obtain ⟨N, nl, e1, h1, h2⟩ : ∃ (O : Nat) (ls : List (List Int)), val 10 = .slice (some ⟨O, 0, none⟩) c.alts.length c.alts.length ∧ LRow w4 O ls ∧ RisAll c.alts.length (Frs c) ls := hd 10 ⟨⟨10, .data⟩, by simp, rfl, rfl⟩
        obtain ⟨N2, nl2, e2, k1, k2⟩ : ∃ (O : Nat) (ls : List (List Int)), val 12 = .slice (some ⟨O, 0, none⟩) c.alts.length c.alts.length ∧ LRow w4 O ls ∧ RisAll c.alts.length (Frs c) ls := hd 12 ⟨⟨12, .data⟩, by simp, rfl, rfl⟩
        obtain rfl := k2.one h2
        refine ite_do ((guardv_eq rfl eg).trans rfl) (does_enter (f := 17) (args := #[.slice (some ⟨N, 0, none⟩) c.alts.length c.alts.length, .slice (some ⟨N2, 0, none⟩) c.alts.length c.alts.length]) (w := w4) (exec_call rfl rfl (by simp only [List.map_toArray, List.map_cons, List.map_nil]; exact args2 e1 e2) Try.func17 (by decide) rfl) ?_)
        refine (sameLists_calls _ _ nl2 nl2 w4 (h1.sl h2.1 (by omega)) (k1.sl h2.1 (by omega))).mono ?_
        rw [decide_eq_true (rfl : nl2 = nl2)]
        rintro e w5 ⟨rfl, hD⟩
        exact ⟨_, rfl, hD.below, rfl⟩
      · have ea : val 8 = .bool true := hd 8 ⟨⟨8, .data⟩, by simp, rfl, rfl⟩
        have eb : val 13 = .bool true := hd 13 ⟨⟨13, .data⟩, by simp, rfl, rfl⟩
        exact ite_do rfl (does_value (v := .bool true) (w := w4) (exec_pick rfl ea eb) ⟨Below.refl _ _, rfl⟩)
      · have ea : val 14 = .bool true := hd 14 ⟨⟨14, .data⟩, by simp, rfl, rfl⟩
        exact ite_do rfl (does_value (v := .bool true) (w := w4) (exec_move (.inl rfl) ea) ⟨Below.refl _ _, rfl⟩)
      · have eg : val 15 = .bool true := hd 15 ⟨⟨15, .guard⟩, by simp, rfl, rfl⟩
        exact ite_do ((guardv_eq rfl eg).trans rfl) (does_value (v := .agg #[.slice A1 c.toks.length c1, .slice A2 c.names.length c2, .slice A3 c.alts.length c3]) (w := w4) (exec_load rfl rfl (by go_simp)) ⟨Below.refl _ _, rfl⟩)
      · have eg : val 15 = .bool true := hd 15 ⟨⟨15, .guard⟩, by simp, rfl, rfl⟩
        have ea : val 16 = .agg #[.slice A1 c.toks.length c1, .slice A2 c.names.length c2, .slice A3 c.alts.length c3] := hd 16 ⟨⟨16, .data⟩, by simp, rfl, rfl⟩
        refine ite_do ((guardv_eq rfl eg).trans rfl) (does_enter (f := 20) (args := #[.agg #[.slice A1 c.toks.length c1, .slice A2 c.names.length c2, .slice A3 c.alts.length c3]]) (w := w4) (exec_call rfl rfl (by simp only [List.map_toArray, List.map_cons, List.map_nil]; exact congrArg (fun x => #[x]) ea) Try.func20 (by decide) rfl) ?_)
        refine (pfollow_calls c _ w4 hcfg HF.out.2.1 HF.out.1 HF.out.2.2).mono ?_
        rintro e w5 ⟨O, ls, rfl, h1, h2, hb, _⟩
        exact ⟨_, rfl, hb, O, ls, rfl, h1, h2⟩
      · have eg : val 15 = .bool true := hd 15 ⟨⟨15, .guard⟩, by simp, rfl, rfl⟩
        exact ite_do ((guardv_eq rfl eg).trans rfl) (does_value (v := .agg #[.slice A1 c.toks.length c1, .slice A2 c.names.length c2, .slice A3 c.alts.length c3]) (w := w4) (exec_load rfl rfl (by go_simp)) ⟨Below.refl _ _, rfl⟩)
      · have eg : val 15 = .bool true := hd 15 ⟨⟨15, .guard⟩, by simp, rfl, rfl⟩
        have ea : val 18 = .agg #[.slice A1 c.toks.length c1, .slice A2 c.names.length c2, .slice A3 c.alts.length c3] := hd 18 ⟨⟨18, .data⟩, by simp, rfl, rfl⟩
        refine ite_do ((guardv_eq rfl eg).trans rfl) (does_enter (f := 21) (args := #[.agg #[.slice A1 c.toks.length c1, .slice A2 c.names.length c2, .slice A3 c.alts.length c3]]) (w := w4) (exec_call rfl rfl (by simp only [List.map_toArray, List.map_cons, List.map_nil]; exact congrArg (fun x => #[x]) ea) Try.func21 (by decide) rfl) ?_)
        refine (refFollow_calls c _ w4 hcfg HF.out.2.1 HF.out.1 HF.out.2.2).mono ?_
        rintro e w5 ⟨O, ls, rfl, h1, h2, hb, _⟩
        exact ⟨_, rfl, hb, O, ls, rfl, h1, h2⟩
      · have eg : val 15 = .bool true := hd 15 ⟨⟨15, .guard⟩, by simp, rfl, rfl⟩
        obtain ⟨N, nl, e1, h1, h2⟩ : ∃ (O : Nat) (ls : List (List Int)), val 17 = .slice (some ⟨O, 0, none⟩) c.alts.length c.alts.length ∧ LRow w4 O ls ∧ RisAll c.alts.length (Flw c) ls := hd 17 ⟨⟨17, .data⟩, by simp, rfl, rfl⟩
        obtain ⟨N2, nl2, e2, k1, k2⟩ : ∃ (O : Nat) (ls : List (List Int)), val 19 = .slice (some ⟨O, 0, none⟩) c.alts.length c.alts.length ∧ LRow w4 O ls ∧ RisAll c.alts.length (Flw c) ls := hd 19 ⟨⟨19, .data⟩, by simp, rfl, rfl⟩
        obtain rfl := k2.one h2
        refine ite_do ((guardv_eq rfl eg).trans rfl) (does_enter (f := 17) (args := #[.slice (some ⟨N, 0, none⟩) c.alts.length c.alts.length, .slice (some ⟨N2, 0, none⟩) c.alts.length c.alts.length]) (w := w4) (exec_call rfl rfl (by simp only [List.map_toArray, List.map_cons, List.map_nil]; exact args2 e1 e2) Try.func17 (by decide) rfl) ?_)
        refine (sameLists_calls _ _ nl2 nl2 w4 (h1.sl h2.1 (by omega)) (k1.sl h2.1 (by omega))).mono ?_
        rw [decide_eq_true (rfl : nl2 = nl2)]
        rintro e w5 ⟨rfl, hD⟩
        exact ⟨_, rfl, hD.below, rfl⟩
      · have ea : val 15 = .bool true := hd 15 ⟨⟨15, .data⟩, by simp, rfl, rfl⟩
        have eb : val 20 = .bool true := hd 20 ⟨⟨20, .data⟩, by simp, rfl, rfl⟩
        exact ite_do rfl (does_value (v := .bool true) (w := w4) (exec_pick rfl ea eb) ⟨Below.refl _ _, rfl⟩)
      · have ea : val 21 = .bool true := hd 21 ⟨⟨21, .data⟩, by simp, rfl, rfl⟩
        exact ite_do rfl (does_value (v := .bool true) (w := w4) (exec_move (.inl rfl) ea) ⟨Below.refl _ _, rfl⟩)
      · have eg : val 22 = .bool true := hd 22 ⟨⟨22, .guard⟩, by simp, rfl, rfl⟩
        exact ite_do ((guardv_eq rfl eg).trans rfl) (does_value (v := .agg #[.slice A1 c.toks.length c1, .slice A2 c.names.length c2, .slice A3 c.alts.length c3]) (w := w4) (exec_load rfl rfl (by go_simp)) ⟨Below.refl _ _, rfl⟩)
      · have eg : val 22 = .bool true := hd 22 ⟨⟨22, .guard⟩, by simp, rfl, rfl⟩
        have ea : val 23 = .agg #[.slice A1 c.toks.length c1, .slice A2 c.names.length c2, .slice A3 c.alts.length c3] := hd 23 ⟨⟨23, .data⟩, by simp, rfl, rfl⟩
        refine ite_do ((guardv_eq rfl eg).trans rfl) (does_enter (f := 23) (args := #[.agg #[.slice A1 c.toks.length c1, .slice A2 c.names.length c2, .slice A3 c.alts.length c3]]) (w := w4) (exec_call rfl rfl (by simp only [List.map_toArray, List.map_cons, List.map_nil]; exact congrArg (fun x => #[x]) ea) Try.func23 (by decide) rfl) ?_)
        refine (short_calls c _ w4 hcfg HF.out.2.1 HF.out.1 HF.out.2.2).mono ?_
        rintro e w5 ⟨v5, short, rfl, h1, h2, hb⟩
        exact ⟨_, rfl, hb, short, h2, h1⟩
      · have eg : val 22 = .bool true := hd 22 ⟨⟨22, .guard⟩, by simp, rfl, rfl⟩
        exact ite_do ((guardv_eq rfl eg).trans rfl) (does_value (v := .agg #[.slice A1 c.toks.length c1, .slice A2 c.names.length c2, .slice A3 c.alts.length c3]) (w := w4) (exec_load rfl rfl (by go_simp)) ⟨Below.refl _ _, rfl⟩)
      · have eg : val 22 = .bool true := hd 22 ⟨⟨22, .guard⟩, by simp, rfl, rfl⟩
        have ea : val 25 = .agg #[.slice A1 c.toks.length c1, .slice A2 c.names.length c2, .slice A3 c.alts.length c3] := hd 25 ⟨⟨25, .data⟩, by simp, rfl, rfl⟩
        refine ite_do ((guardv_eq rfl eg).trans rfl) (does_enter (f := 24) (args := #[.agg #[.slice A1 c.toks.length c1, .slice A2 c.names.length c2, .slice A3 c.alts.length c3]]) (w := w4) (exec_call rfl rfl (by simp only [List.map_toArray, List.map_cons, List.map_nil]; exact congrArg (fun x => #[x]) ea) Try.func24 (by decide) rfl) ?_)
        refine (refShort_calls c _ w4 hcfg HF.out.2.1 HF.out.1 HF.out.2.2).mono ?_
        rintro e w5 ⟨O, out, rfl, h1, h2, hb, _⟩
        exact ⟨_, rfl, hb, out, ilOfBox h1 h2.1 (by omega) (shI64 h2.inv), h2⟩
      · have eg : val 22 = .bool true := hd 22 ⟨⟨22, .guard⟩, by simp, rfl, rfl⟩
        obtain ⟨s1, h1, h2⟩ : ∃ short : List Int, IL w4 (val 24) short ∧ ShortOk c short := hd 24 ⟨⟨24, .data⟩, by simp, rfl, rfl⟩
        obtain ⟨s2, k1, k2⟩ : ∃ short : List Int, IL w4 (val 26) short ∧ ShortOk c short := hd 26 ⟨⟨26, .data⟩, by simp, rfl, rfl⟩
        obtain rfl := k2.one h2
        refine ite_do ((guardv_eq rfl eg).trans rfl) (does_enter (f := 22) (args := #[val 24, val 26]) (w := w4) (exec_call rfl rfl (by simp only [List.map_toArray, List.map_cons, List.map_nil]; exact rfl) Try.func22 (by decide) rfl) ?_)
        refine (sameInts_calls _ _ s2 s2 w4 h1.sl k1.sl).mono ?_
        rw [decide_eq_true (rfl : s2 = s2)]
        rintro e w5 ⟨rfl, hD⟩
        exact ⟨_, rfl, hD.below, rfl⟩
      · have ea : val 22 = .bool true := hd 22 ⟨⟨22, .data⟩, by simp, rfl, rfl⟩
        have eb : val 27 = .bool true := hd 27 ⟨⟨27, .data⟩, by simp, rfl, rfl⟩
        exact ite_do rfl (does_value (v := .bool true) (w := w4) (exec_pick rfl ea eb) ⟨Below.refl _ _, rfl⟩)
      · have ea : val 28 = .bool true := hd 28 ⟨⟨28, .data⟩, by simp, rfl, rfl⟩
        exact ite_do rfl (does_value (v := .bool true) (w := w4) (exec_move (.inr rfl) ea) ⟨Below.refl _ _, rfl⟩)
    · intro val w4 hB4 hV
      have e29 : val 29 = .bool true := hV 29 (by decide)
      have HB4 := Lib.hid (below2 H2.out.1 hB4)
      clear hV hB4
      simp [fillAll, List.range, List.range.loop, dstOf, Act.put, e29]
      clear e29
      go_wp2
      go_ret
      exact ⟨rfl, HB4.out⟩
end Go.Proofs.Ytigbfankkmmnbaa
