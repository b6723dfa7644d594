/- DeriveSelf: the walk. -/
import Derived.Test.YtgjobbapnileiaaZ15
import Derived.Test.YtgjobbapnileiaaZ20
import Derived.Test.YtgjobbapnileiaaZ16
set_option linter.unusedVariables false
set_option linter.unusedSimpArgs false
namespace Go.Proofs.Ytgjobbapnileiaa
open Go.RowKit Gk

theorem ownNilOr' {α : Type} {T : Ty α} {e : TypeId} {B : Nat} {D : Nat → Prop} {w : World} {v : Value} {xs : List α} (h : Own T e B D w v xs) : NilOr v := by
  obtain ⟨css, h1, _⟩ := h
  rcases h1.2 with ⟨h1, _⟩ | ⟨b, c, row, h1, _⟩
  · exact .inl h1
  · exact .inr ⟨_, _, _, h1⟩
theorem exec_indexAddr {P : Program} {ρ : Operand → Value} {o : Oper} {t : TypeId} {x y : Operand} {u v r : Value} {w w' : World} (ho : o.op = .indexAddr t x y) (hx : ρ x = u) (hy : ρ y = v) (hr : (Instr.indexAt t u v).run P w = .ok r w') : (execOp ρ o).run P w = .ok (.value r) w' := by
  unfold execOp
  simp only [ho, hx, hy, Sem.run_bind, Sem.run_pure, Result.andThen_ok, hr]
/-- the last region -/
def SelfV (cv tv ov : Value) (ρ n : Nat) (sm nl : Bool) (i : Nat) (v : Value) (w : World) : Prop := match i with
  | 2 => v = cv
  | 8 => v = cv
  | 18 => v = cv
  | 23 => v = cv
  | 3 => v = tv
  | 4 => v = tv
  | 9 => v = tv
  | 12 => v = tv
  | 10 => v = ov
  | 13 => v = ov
  | 11 => v = .bool sm
  | 14 => v = .bool sm
  | 19 => v = .int .i64 ρ
  | 25 => v = .int .i64 ρ
  | 20 => v = .int .i64 (-1 - (ρ : Int))
  | 21 => Sl Ty.int w v [-1 - (ρ : Int)]
  | 22 => v = .bool nl
  | 27 => v = .bool nl
  | 24 => ∃ (O : Nat) (out : List Bool), v = .slice (some ⟨O, 0, none⟩) n n ∧ Box w O (out.map Value.bool).toArray 4 ∧ out[ρ]? = some nl
  | 26 => ∃ (O : Nat) (out : List Bool), v = .pointer (some ⟨O, ρ, none⟩) ∧ Box w O (out.map Value.bool).toArray 4 ∧ out[ρ]? = some nl
  | _ => v = .bool true
theorem SelfV.below {cv tv ov : Value} {ρ n : Nat} {sm nl : Bool} (i : Nat) (v : Value) (w w' : World) (h : SelfV cv tv ov ρ n sm nl i v w) (hb : Below w.heap.size w w') : SelfV cv tv ov ρ n sm nl i v w' := by
  unfold SelfV at h ⊢
  split at h <;> first
    | exact h
    | exact h.below hb
    | (obtain ⟨O, out, h1, h2, h3⟩ := h; exact ⟨O, out, h1, h2.below hb, h3⟩)
set_option maxRecDepth 100000 in
set_option maxHeartbeats 8000000 in
theorem deriveSelf_walk (w : World) {v u1 u2 : Value} (c : Cfg) (h : CfgV w v c) (ht : TokOk v) (toks : List Int) (hk : Sl Ty.int w u1 toks) (hkn : NilOr u1) (other : List Int) (ho : Sl Ty.int w u2 other) (hon : NilOr u2) (r : Int) (hr64 : Ty.i64 r) :
    Calls Try.prog 6 #[v, u1, u2, .int .i64 r] w fun e w' => e = .returned (.bool true) ∧ Below w.heap.size w w' := by
  obtain ⟨a0, b0, d0, rfl, h1, h2, h3⟩ := id h
  obtain ⟨A1, c1, rfl, hc1, hm1, _, hr1⟩ := id h1
  obtain ⟨A2, c2, rfl, hc2, hm2, _, hr2⟩ := id h2
  obtain ⟨A3, c3, rfl, hc3, hm3, hl3, hr3⟩ := id h3
  obtain ⟨AO, cO, rfl, p1, p2, p3, _⟩ := id ho
  obtain ⟨AT, cT, rfl, t1, t2, t3, _⟩ := id hk
  unfold LB at hl3 t3 p3
  have HH := Lib.hid (And.intro h (And.intro ht (And.intro hk (And.intro ho (And.intro hkn hon)))))
  have hr64a := hr64.1
  have hr64b := hr64.2
  clear h ht hk ho h1 h2 h3 hr1 hr2 hr3 hkn hon hr64
  have hB1 := Box.new w #[.slice A1 c.toks.length c1, .slice A2 c.names.length c2, .slice A3 c.alts.length c3] 25
  have hb1 : Below w.heap.size w (w.alloc (.cells #[.slice A1 c.toks.length c1, .slice A2 c.names.length c2, .slice A3 c.alts.length c3] 25)) := (Below.refl _ _).alloc (Nat.le_refl _) _
  have HB := Lib.hid (And.intro hB1 hb1)
  clear hB1 hb1
  go_enter Try.func6, Try.ntmps6
  by_cases ha12 : (toks.length : Int) > 12
  · go_wp2_with (first | (go_at_call 7; refine (live_calls _).mono ?_; rintro e w1 ⟨rfl, hbl⟩; have hbx1 := HB.out.1.below hbl; have x0 := hbx1.cell 0 (v := .slice A1 c.toks.length c1) rfl; have x1 := hbx1.cell 1 (v := .slice A2 c.names.length c2) rfl; have x2 := hbx1.cell 2 (v := .slice A3 c.alts.length c3) rfl; have H1 := Lib.hid (And.intro (below2 HB.out.2 hbl) hbx1); clear hbl hbx1) | (go_at_call 8; refine (lawfew_calls _ c _ (HH.out.1.below H1.out.1) HH.out.2.1).mono ?_; rintro e w2 ⟨bf, rfl, hbf, hfw⟩; have H2 := Lib.hid (below2 H1.out.1 hbf); clear hbf hfw; cases bf))
    all_goals (go_ret; exact ⟨rfl, H2.out⟩)
  by_cases hb12 : (other.length : Int) > 12
  · go_wp2_with (first | (go_at_call 7; refine (live_calls _).mono ?_; rintro e w1 ⟨rfl, hbl⟩; have hbx1 := HB.out.1.below hbl; have x0 := hbx1.cell 0 (v := .slice A1 c.toks.length c1) rfl; have x1 := hbx1.cell 1 (v := .slice A2 c.names.length c2) rfl; have x2 := hbx1.cell 2 (v := .slice A3 c.alts.length c3) rfl; have H1 := Lib.hid (And.intro (below2 HB.out.2 hbl) hbx1); clear hbl hbx1) | (go_at_call 8; refine (lawfew_calls _ c _ (HH.out.1.below H1.out.1) HH.out.2.1).mono ?_; rintro e w2 ⟨bf, rfl, hbf, hfw⟩; have H2 := Lib.hid (below2 H1.out.1 hbf); clear hbf hfw; cases bf))
    all_goals (go_ret; exact ⟨rfl, H2.out⟩)
  have ha12' : toks.length ≤ 12 := by omega
  have hb12' : other.length ≤ 12 := by omega
  obtain ⟨J, hJ⟩ : ∃ J, J = toks ++ other := ⟨_, rfl⟩
  have hJl : J.length ≤ 24 := by rw [hJ]; simp; omega
  have HJ := Lib.hid hJ; clear hJ
  go_wp2_with (first | (go_at_call 7; refine (live_calls _).mono ?_; rintro e w1 ⟨rfl, hbl⟩; have hbx1 := HB.out.1.below hbl; have x0 := hbx1.cell 0 (v := .slice A1 c.toks.length c1) rfl; have x1 := hbx1.cell 1 (v := .slice A2 c.names.length c2) rfl; have x2 := hbx1.cell 2 (v := .slice A3 c.alts.length c3) rfl; have H1 := Lib.hid (And.intro (below2 HB.out.2 hbl) hbx1); clear hbl hbx1) | (go_at_call 8; refine (lawfew_calls _ c _ (HH.out.1.below H1.out.1) HH.out.2.1).mono ?_; rintro e w2 ⟨bf, rfl, hbf, hfw⟩; have hbx2 := H1.out.2.below hbf; have y0 := hbx2.cell 0 (v := .slice A1 c.toks.length c1) rfl; have y1 := hbx2.cell 1 (v := .slice A2 c.names.length c2) rfl; have y2 := hbx2.cell 2 (v := .slice A3 c.alts.length c3) rfl; have H2 := Lib.hid (And.intro (below2 H1.out.1 hbf) (And.intro hbx2 hfw)); clear hbf hbx2 hfw; cases bf; all_goals first | (have hfs := H2.out.2.2 (by first | rfl | trivial); have hsa : c.alts.length ≤ 60 := (by have q1 := hfs.2.1.1; have q2 := hfs.1.1; omega); have hsb : c.toks.length ≤ 60 := (by have q1 := hfs.2.1.1; have q2 := hfs.1.1; omega); have hsc : 0 < c.alts.length := hfs.2.2; clear hfs) | skip) | (at_builtin; refine wpList_appAll (T := Ty.int) (v := .slice none 0 0) (xs := []) (w0 := w2) (B := w2.heap.size) (D := fun _ => True) rfl (.const (.slice none 0 0)) (.tmp 27) 34 3 8 rfl elemInt rfl rfl (.slice AT toks.length cT) toks rfl (Own.nil _ _ _ _ _) (fun _ _ => trivial) (HH.out.2.2.1.below H2.out.1) (fun y u _ h => fun _ _ _ => h) HH.out.2.2.2.2.1 (Below.refl _ _) (Nat.le_refl _) (by simp; omega) ?_; intro v3 w3 hO3 hB3 _ _; have HO3 := Lib.hid (And.intro hO3 hB3); clear hO3 hB3) | (at_builtin; refine wpList_appAll (T := Ty.int) (v := v3) (xs := toks) (w0 := w2) (B := w2.heap.size) (D := fun _ => True) rfl (.tmp 28) (.tmp 29) 34 3 8 rfl elemInt rfl rfl (.slice AO other.length cO) other rfl HO3.out.1 (fun _ _ => trivial) (HH.out.2.2.2.1.below (below2 H2.out.1 HO3.out.2)) (fun y u _ h => fun _ _ _ => h) HH.out.2.2.2.2.2 HO3.out.2 HO3.out.2.size (by omega) ?_; intro v4 w4 hO4 hB4 _ _; obtain ⟨AJ, cJ, eJ, j1, j2, j3, jrow⟩ := hO4.sl; (rw [← HJ.out] at eJ j1 j3 jrow hO4); subst eJ; have HO4 := Lib.hid (And.intro hO4 hB4); have hbx4 := H2.out.2.1.below hB4; have z0 := hbx4.cell 0 (v := .slice A1 c.toks.length c1) rfl; have z1 := hbx4.cell 1 (v := .slice A2 c.names.length c2) rfl; have z2 := hbx4.cell 2 (v := .slice A3 c.alts.length c3) rfl; have HX4 := Lib.hid hbx4; clear hO4 hB4 hbx4))
  · go_ret
    exact ⟨rfl, H2.out.1⟩
  · have hda : decide (12 < (toks.length : Int)) = false := decide_eq_false (by omega)
    have hdb : decide (12 < (other.length : Int)) = false := decide_eq_false (by omega)
    rw [hda, hdb]
    try rw [show (false || false) = false from rfl]
    clear hda hdb
    have hDer : ∀ (wx : World) (s x : List Int) (U V : Value), Below w4.heap.size w4 wx → Sl Ty.int wx U s → Sl Ty.int wx V x → x.length ≤ 1000 → Calls Try.prog 12 #[.agg #[.slice A1 c.toks.length c1, .slice A2 c.names.length c2, .slice A3 c.alts.length c3], U, V] wx fun e w' => e = .returned (.bool (dec (Gen c s x))) ∧ Below wx.heap.size wx w' := fun wx s x U V hbx hU hV hxl =>
      derives_calls c s x _ _ _ _ (HH.out.1.below (below2 (below2 H2.out.1 HO4.out.2) hbx)) hU hV hxl (by omega)
    have HD := Lib.hid hDer
    clear hDer
    obtain ⟨wo, hwo⟩ : ∃ wo : World, wo = w4 := ⟨_, rfl⟩
    subst hwo
    go_loop [32] (fun i => ∃ n : Nat, n ≤ J.length ∧ i = .int .i64 n ∧ Hid (∀ k ∈ J.take n, 0 ≤ k)) (fun i => J.length - (intOf i).toNat)
    case atStart => exact ⟨0, Nat.zero_le _, rfl, by simp [Hid]⟩
    case round =>
      obtain ⟨n, hn, rfl, hall⟩ := hrel
      have HA := Lib.hid hall; clear hall
      by_cases hlt : n < J.length
      · obtain ⟨k, hk⟩ := at_lt J hlt
        obtain ⟨ad, rfl, hk64, hcell⟩ := jrow.int hk
        have HK := Lib.hid hk; clear hk
        have hk1 := hk64.1
        have hk2 := hk64.2
        by_cases hk0 : k < 0
        · go_wp2
          go_ret
          exact ⟨rfl, below2 H2.out.1 HO4.out.2⟩
        · by_cases hkt : k ≥ (c.toks.length : Int)
          · go_wp2
            go_ret
            exact ⟨rfl, below2 H2.out.1 HO4.out.2⟩
          · go_wp2
            go_round
            case rel => exact ⟨n + 1, by omega, by go_num, by
              have h := HA.out.out
              unfold Hid; rw [take_next HK.out]; intro y hy
              rcases List.mem_append.1 hy with hy | hy
              · exact h y hy
              · simp at hy; omega⟩
            case measure => simp [intOf]; omega
      · have hpos : Hid (∀ k ∈ toks ++ other, 0 ≤ k) := by
          have h := HA.out.out
          rw [List.take_of_length_le (by omega), HJ.out] at h
          exact h
        have hnn : Hid ((c.alts.length : Int) ≠ 0) := by show _ ≠ _; omega
        have hsc' : (0 : Int) < (c.alts.length : Int) := by omega
        have hq1 := Int.emod_nonneg r (b := (c.alts.length : Int)) hnn
        obtain ⟨q, hq⟩ : ∃ q : Int, q = r.tmod (c.alts.length : Int) := ⟨_, rfl⟩
        have hqb : -(c.alts.length : Int) < q ∧ q < c.alts.length := by
          rw [hq]
          have h1 := Int.lt_tmod_of_pos r hsc'
          have h2 := Int.tmod_lt_of_pos r hsc'
          exact ⟨h1, h2⟩
        have HQ := Lib.hid hq
        have hw1 : IntKind.i64.wrap (q + (c.alts.length : Int)) = q + (c.alts.length : Int) := by rw [IntKind.wrap_i64]; omega
        obtain ⟨ρ, hρ⟩ : ∃ ρ : Nat, (ρ : Int) = (q + (c.alts.length : Int)).tmod (c.alts.length : Int) := ⟨_, Int.toNat_of_nonneg (Int.tmod_nonneg _ (by omega))⟩
        have hρl : ρ < c.alts.length := by have := Int.tmod_lt_of_pos (q + (c.alts.length : Int)) hsc'; omega
        have HR := Lib.hid hρ
        clear hρ hq hq1
        go_wp2
        go_quiet (fail)
        have hfin : (wrap64 (r.tmod (c.alts.length : Int) + (c.alts.length : Int))).tmod (c.alts.length : Int) = (ρ : Int) := by
          rw [HR.out, ← HQ.out]
          congr 1
          unfold wrap64
          omega
        rw [hfin]
        clear hfin
        have hBq : Below wo.heap.size wo (wo.drewN nq) := below_drewN (Below.refl _ _) nq
        obtain ⟨wq, hwq⟩ : ∃ wq, wq = wo.drewN nq := ⟨_, rfl⟩
        rw [← hwq] at hBq ⊢
        clear hwq
        go_wp2
        refine wp_region_growG (by kernel_rfl) (by kernel_rfl) (SelfV (.agg #[.slice A1 c.toks.length c1, .slice A2 c.names.length c2, .slice A3 c.alts.length c3]) (.slice AT toks.length cT) (.slice AO other.length cO) ρ c.alts.length (decide (toks = other)) (dec (Gen c [-1 - (ρ : Int)] []))) SelfV.below ?_ ?_
        · intro i o ho val w2 hB2' hd
          have hB2 : Below wo.heap.size wo w2 := below2 hBq hB2'
          have hi31 : i < 31 := (List.getElem?_eq_some_iff.1 ho).1
          have : i = 0 ∨ i = 1 ∨ i = 2 ∨ i = 3 ∨ i = 4 ∨ i = 5 ∨ i = 6 ∨ i = 7 ∨ i = 8 ∨ i = 9 ∨ i = 10 ∨ i = 11 ∨ i = 12 ∨ i = 13 ∨ i = 14 ∨ i = 15 ∨ i = 16 ∨ i = 17 ∨ i = 18 ∨ i = 19 ∨ i = 20 ∨ i = 21 ∨ i = 22 ∨ i = 23 ∨ i = 24 ∨ i = 25 ∨ i = 26 ∨ i = 27 ∨ i = 28 ∨ i = 29 ∨ i = 30 := by omega
          have hbx2 := HX4.out.below hB2
          have x0 := hbx2.cell 0 (v := .slice A1 c.toks.length c1) rfl
          have x1 := hbx2.cell 1 (v := .slice A2 c.names.length c2) rfl
          have x2 := hbx2.cell 2 (v := .slice A3 c.alts.length c3) rfl
          have hT2 : Sl Ty.int w2 (.slice AT toks.length cT) toks := HH.out.2.2.1.below (below2 (below2 H2.out.1 HO4.out.2) hB2)
          have hO2 : Sl Ty.int w2 (.slice AO other.length cO) other := HH.out.2.2.2.1.below (below2 (below2 H2.out.1 HO4.out.2) hB2)
          rcases this with rfl | rfl | rfl | rfl | rfl | rfl | rfl | rfl | rfl | rfl | rfl | rfl | rfl | rfl | rfl | rfl | rfl | rfl | rfl | rfl | rfl | rfl | rfl | rfl | rfl | rfl | rfl | rfl | rfl | rfl | rfl <;> cases ho
          · exact ite_do rfl (does_value (v := .bool true) (exec_move (.inl rfl) rfl) ⟨Below.refl _ _, rfl⟩)
          · have e0 : val 0 = .bool true := hd 0 ⟨⟨0, .data⟩, by simp, rfl, rfl⟩
            exact ite_do rfl (does_value (exec_move (.inl rfl) e0) ⟨Below.refl _ _, rfl⟩)
          · have eg : val 1 = .bool true := hd 1 ⟨⟨1, .guard⟩, by simp, rfl, rfl⟩
            exact ite_do ((guardv_eq rfl eg).trans rfl) (does_value (exec_load rfl rfl (by go_simp)) ⟨Below.refl _ _, rfl⟩)
          · have eg : val 1 = .bool true := hd 1 ⟨⟨1, .guard⟩, by simp, rfl, rfl⟩
            exact ite_do ((guardv_eq rfl eg).trans rfl) (does_value (exec_move (.inl rfl) rfl) ⟨Below.refl _ _, rfl⟩)
          · have eg : val 1 = .bool true := hd 1 ⟨⟨1, .guard⟩, by simp, rfl, rfl⟩
            exact ite_do ((guardv_eq rfl eg).trans rfl) (does_value (exec_move (.inl rfl) rfl) ⟨Below.refl _ _, rfl⟩)
          · have eg : val 1 = .bool true := hd 1 ⟨⟨1, .guard⟩, by simp, rfl, rfl⟩
            have e2 : val 2 = .agg #[.slice A1 c.toks.length c1, .slice A2 c.names.length c2, .slice A3 c.alts.length c3] := hd 2 ⟨⟨2, .data⟩, by simp, rfl, rfl⟩
            have e3 : val 3 = .slice AT toks.length cT := hd 3 ⟨⟨3, .data⟩, by simp, rfl, rfl⟩
            have e4 : val 4 = .slice AT toks.length cT := hd 4 ⟨⟨4, .data⟩, by simp, rfl, rfl⟩
            refine ite_do ((guardv_eq rfl eg).trans rfl) (does_enter (f := 12) (args := #[.agg #[.slice A1 c.toks.length c1, .slice A2 c.names.length c2, .slice A3 c.alts.length c3], .slice AT toks.length cT, .slice AT toks.length cT]) (w := w2) (exec_call rfl rfl (by simp only [List.map_toArray, List.map_cons, List.map_nil]; exact args3 e2 e3 e4) Try.func12 (by decide) rfl) ?_)
            refine (HD.out w2 toks toks _ _ hB2 hT2 hT2 (by omega)).mono ?_
            rintro e w' ⟨rfl, hb⟩
            exact ⟨_, rfl, hb, show _ = _ by rw [dec_true ((gen_toks _ (fun k hk => hpos.out k (List.mem_append_left _ hk)) _).2 rfl)]⟩
          · have e1 : val 1 = .bool true := hd 1 ⟨⟨1, .data⟩, by simp, rfl, rfl⟩
            have e5 : val 5 = .bool true := hd 5 ⟨⟨5, .data⟩, by simp, rfl, rfl⟩
            exact ite_do rfl (does_value (exec_pick (v := .bool true) rfl e1 e5) ⟨Below.refl _ _, rfl⟩)
          · have e6 : val 6 = .bool true := hd 6 ⟨⟨6, .data⟩, by simp, rfl, rfl⟩
            exact ite_do rfl (does_value (exec_move (.inl rfl) e6) ⟨Below.refl _ _, rfl⟩)
          · have eg : val 7 = .bool true := hd 7 ⟨⟨7, .guard⟩, by simp, rfl, rfl⟩
            exact ite_do ((guardv_eq rfl eg).trans rfl) (does_value (exec_load rfl rfl (by go_simp)) ⟨Below.refl _ _, rfl⟩)
          · have eg : val 7 = .bool true := hd 7 ⟨⟨7, .guard⟩, by simp, rfl, rfl⟩
            exact ite_do ((guardv_eq rfl eg).trans rfl) (does_value (exec_move (.inl rfl) rfl) ⟨Below.refl _ _, rfl⟩)
          · have eg : val 7 = .bool true := hd 7 ⟨⟨7, .guard⟩, by simp, rfl, rfl⟩
            exact ite_do ((guardv_eq rfl eg).trans rfl) (does_value (exec_move (.inl rfl) rfl) ⟨Below.refl _ _, rfl⟩)
          · have eg : val 7 = .bool true := hd 7 ⟨⟨7, .guard⟩, by simp, rfl, rfl⟩
            have e8 : val 8 = .agg #[.slice A1 c.toks.length c1, .slice A2 c.names.length c2, .slice A3 c.alts.length c3] := hd 8 ⟨⟨8, .data⟩, by simp, rfl, rfl⟩
            have e9 : val 9 = .slice AT toks.length cT := hd 9 ⟨⟨9, .data⟩, by simp, rfl, rfl⟩
            have e10 : val 10 = .slice AO other.length cO := hd 10 ⟨⟨10, .data⟩, by simp, rfl, rfl⟩
            refine ite_do ((guardv_eq rfl eg).trans rfl) (does_enter (f := 12) (args := #[.agg #[.slice A1 c.toks.length c1, .slice A2 c.names.length c2, .slice A3 c.alts.length c3], .slice AT toks.length cT, .slice AO other.length cO]) (w := w2) (exec_call rfl rfl (by simp only [List.map_toArray, List.map_cons, List.map_nil]; exact args3 e8 e9 e10) Try.func12 (by decide) rfl) ?_)
            refine (HD.out w2 toks other _ _ hB2 hT2 hO2 (by omega)).mono ?_
            rintro e w' ⟨rfl, hb⟩
            refine ⟨_, rfl, hb, ?_⟩
            show _ = _
            have hg := gen_toks (c := c) toks (fun k hk => hpos.out k (List.mem_append_left _ hk)) other
            by_cases he : toks = other
            · rw [dec_true (hg.2 he.symm), decide_eq_true he]
            · rw [dec_false (fun h => he (hg.1 h).symm), decide_eq_false he]
          · have eg : val 7 = .bool true := hd 7 ⟨⟨7, .guard⟩, by simp, rfl, rfl⟩
            exact ite_do ((guardv_eq rfl eg).trans rfl) (does_value (exec_move (.inl rfl) rfl) ⟨Below.refl _ _, rfl⟩)
          · have eg : val 7 = .bool true := hd 7 ⟨⟨7, .guard⟩, by simp, rfl, rfl⟩
            exact ite_do ((guardv_eq rfl eg).trans rfl) (does_value (exec_move (.inl rfl) rfl) ⟨Below.refl _ _, rfl⟩)
          · have eg : val 7 = .bool true := hd 7 ⟨⟨7, .guard⟩, by simp, rfl, rfl⟩
            have e12 : val 12 = .slice AT toks.length cT := hd 12 ⟨⟨12, .data⟩, by simp, rfl, rfl⟩
            have e13 : val 13 = .slice AO other.length cO := hd 13 ⟨⟨13, .data⟩, by simp, rfl, rfl⟩
            refine ite_do ((guardv_eq rfl eg).trans rfl) (does_enter (f := 13) (args := #[.slice AT toks.length cT, .slice AO other.length cO]) (w := w2) (exec_call rfl rfl (by simp only [List.map_toArray, List.map_cons, List.map_nil]; exact args2 e12 e13) Try.func13 (by decide) rfl) ?_)
            refine (sameInts_calls _ _ toks other w2 hT2 hO2).mono ?_
            rintro e w' ⟨rfl, hd⟩
            exact ⟨_, rfl, hd.below, rfl⟩
          · have eg : val 7 = .bool true := hd 7 ⟨⟨7, .guard⟩, by simp, rfl, rfl⟩
            have e11 : val 11 = .bool (decide (toks = other)) := hd 11 ⟨⟨11, .data⟩, by simp, rfl, rfl⟩
            have e14 : val 14 = .bool (decide (toks = other)) := hd 14 ⟨⟨14, .data⟩, by simp, rfl, rfl⟩
            exact ite_do ((guardv_eq rfl eg).trans rfl) (does_value (v := .bool true) (w := w2) (exec_bin rfl e11 e14 (by go_simp)) ⟨Below.refl _ _, rfl⟩)
          · have e7 : val 7 = .bool true := hd 7 ⟨⟨7, .data⟩, by simp, rfl, rfl⟩
            have e15 : val 15 = .bool true := hd 15 ⟨⟨15, .data⟩, by simp, rfl, rfl⟩
            exact ite_do rfl (does_value (exec_pick (v := .bool true) rfl e7 e15) ⟨Below.refl _ _, rfl⟩)
          · have e16 : val 16 = .bool true := hd 16 ⟨⟨16, .data⟩, by simp, rfl, rfl⟩
            exact ite_do rfl (does_value (exec_move (.inl rfl) e16) ⟨Below.refl _ _, rfl⟩)
          · have eg : val 17 = .bool true := hd 17 ⟨⟨17, .guard⟩, by simp, rfl, rfl⟩
            exact ite_do ((guardv_eq rfl eg).trans rfl) (does_value (exec_load rfl rfl (by go_simp)) ⟨Below.refl _ _, rfl⟩)
          · have eg : val 17 = .bool true := hd 17 ⟨⟨17, .guard⟩, by simp, rfl, rfl⟩
            exact ite_do ((guardv_eq rfl eg).trans rfl) (does_value (exec_move (.inl rfl) rfl) ⟨Below.refl _ _, rfl⟩)
          · have eg : val 17 = .bool true := hd 17 ⟨⟨17, .guard⟩, by simp, rfl, rfl⟩
            have e19 : val 19 = .int .i64 ρ := hd 19 ⟨⟨19, .data⟩, by simp, rfl, rfl⟩
            exact ite_do ((guardv_eq rfl eg).trans rfl) (does_value (v := .int .i64 (-1 - (ρ : Int))) (w := w2) (exec_bin (u := .int .i64 (-1)) (v := .int .i64 ρ) rfl rfl e19 (by simp [eqGuard, Go.binOp, go_sem]; rw [IntKind.wrap_i64]; omega)) ⟨Below.refl _ _, rfl⟩)
          · have eg : val 17 = .bool true := hd 17 ⟨⟨17, .guard⟩, by simp, rfl, rfl⟩
            have e20 : val 20 = .int .i64 (-1 - (ρ : Int)) := hd 20 ⟨⟨20, .data⟩, by simp, rfl, rfl⟩
            refine ite_do ((guardv_eq rfl eg).trans rfl) (does_value (v := .slice (some ⟨w2.heap.size, 0, none⟩) 1 1) (w := w2.alloc (.cells #[.int .i64 (-1 - (ρ : Int))] 3)) (exec_buildSlice (A := #[(0, .int .i64 (-1 - (ρ : Int)))]) rfl (by simp; exact e20) (by go_simp)) ⟨(Below.refl _ _).alloc (Nat.le_refl _) _, ?_⟩)
            exact litInt (xs := [-1 - (ρ : Int)]) (Box.new w2 _ _) (by simp) (fun y hy => by simp at hy; subst hy; unfold Ty.i64; omega)
          · have eg : val 17 = .bool true := hd 17 ⟨⟨17, .guard⟩, by simp, rfl, rfl⟩
            have e18 : val 18 = .agg #[.slice A1 c.toks.length c1, .slice A2 c.names.length c2, .slice A3 c.alts.length c3] := hd 18 ⟨⟨18, .data⟩, by simp, rfl, rfl⟩
            have e21 : Sl Ty.int w2 (val 21) [-1 - (ρ : Int)] := hd 21 ⟨⟨21, .data⟩, by simp, rfl, rfl⟩
            refine ite_do ((guardv_eq rfl eg).trans rfl) (does_enter (f := 12) (args := #[.agg #[.slice A1 c.toks.length c1, .slice A2 c.names.length c2, .slice A3 c.alts.length c3], val 21, .slice none 0 0]) (w := w2) (exec_call rfl rfl (by simp only [List.map_toArray, List.map_cons, List.map_nil]; exact args3 e18 rfl rfl) Try.func12 (by decide) rfl) ?_)
            refine (HD.out w2 [-1 - (ρ : Int)] [] _ _ hB2 e21 (Sl.nil _ _) (by simp)).mono ?_
            rintro e w' ⟨rfl, hb⟩
            exact ⟨_, rfl, hb, rfl⟩
          · have eg : val 17 = .bool true := hd 17 ⟨⟨17, .guard⟩, by simp, rfl, rfl⟩
            exact ite_do ((guardv_eq rfl eg).trans rfl) (does_value (exec_load rfl rfl (by go_simp)) ⟨Below.refl _ _, rfl⟩)
          · have eg : val 17 = .bool true := hd 17 ⟨⟨17, .guard⟩, by simp, rfl, rfl⟩
            have e23 : val 23 = .agg #[.slice A1 c.toks.length c1, .slice A2 c.names.length c2, .slice A3 c.alts.length c3] := hd 23 ⟨⟨23, .data⟩, by simp, rfl, rfl⟩
            refine ite_do ((guardv_eq rfl eg).trans rfl) (does_enter (f := 15) (args := #[.agg #[.slice A1 c.toks.length c1, .slice A2 c.names.length c2, .slice A3 c.alts.length c3]]) (w := w2) (exec_call rfl rfl (by simp only [List.map_toArray, List.map_cons, List.map_nil]; exact congrArg (fun x => #[x]) e23) Try.func15 (by decide) rfl) ?_)
            refine (nullable_calls c _ w2 (HH.out.1.below (below2 (below2 H2.out.1 HO4.out.2) hB2)) (H2.out.2.2 (by first | rfl | trivial)).2.1 (H2.out.2.2 (by first | rfl | trivial)).1 hsc).mono ?_
            rintro e w' ⟨O, out, rfl, hbo, hi, hc, hb⟩
            refine ⟨_, rfl, hb, O, out, rfl, hbo, ?_⟩
            have hlen : out.length = c.alts.length := hi.1
            have hni := nul_iff hi hc hρl
            obtain ⟨b, hbb⟩ := at_lt out (show ρ < out.length by omega)
            rw [hbb]
            rw [hbb] at hni
            cases b with
            | true => rw [dec_true (hni.2 rfl)]
            | false => rw [dec_false (fun h => by have := hni.1 h; cases this)]
          · have eg : val 17 = .bool true := hd 17 ⟨⟨17, .guard⟩, by simp, rfl, rfl⟩
            exact ite_do ((guardv_eq rfl eg).trans rfl) (does_value (exec_move (.inl rfl) rfl) ⟨Below.refl _ _, rfl⟩)
          · have eg : val 17 = .bool true := hd 17 ⟨⟨17, .guard⟩, by simp, rfl, rfl⟩
            have e25 : val 25 = .int .i64 ρ := hd 25 ⟨⟨25, .data⟩, by simp, rfl, rfl⟩
            obtain ⟨O, out, e24, hbo, hbb⟩ : ∃ (O : Nat) (out : List Bool), val 24 = .slice (some ⟨O, 0, none⟩) c.alts.length c.alts.length ∧ Box w2 O (out.map Value.bool).toArray 4 ∧ out[ρ]? = some (dec (Gen c [-1 - (ρ : Int)] [])) := hd 24 ⟨⟨24, .data⟩, by simp, rfl, rfl⟩
            exact ite_do ((guardv_eq rfl eg).trans rfl) (does_value (v := .pointer (some ⟨O, ρ, none⟩)) (w := w2) (exec_indexAddr rfl e24 e25 (by go_simp)) ⟨Below.refl _ _, O, out, rfl, hbo, hbb⟩)
          · have eg : val 17 = .bool true := hd 17 ⟨⟨17, .guard⟩, by simp, rfl, rfl⟩
            obtain ⟨O, out, e26, hbo, hbb⟩ : ∃ (O : Nat) (out : List Bool), val 26 = .pointer (some ⟨O, ρ, none⟩) ∧ Box w2 O (out.map Value.bool).toArray 4 ∧ out[ρ]? = some (dec (Gen c [-1 - (ρ : Int)] [])) := hd 26 ⟨⟨26, .data⟩, by simp, rfl, rfl⟩
            have hcell : w2.cell? ⟨O, ρ, none⟩ = some (.bool (dec (Gen c [-1 - (ρ : Int)] []))) := hbo.cell ρ (by simp [hbb])
            exact ite_do ((guardv_eq rfl eg).trans rfl) (does_value (exec_load rfl e26 (by go_simp)) ⟨Below.refl _ _, rfl⟩)
          · have eg : val 17 = .bool true := hd 17 ⟨⟨17, .guard⟩, by simp, rfl, rfl⟩
            have e22 : val 22 = .bool (dec (Gen c [-1 - (ρ : Int)] [])) := hd 22 ⟨⟨22, .data⟩, by simp, rfl, rfl⟩
            have e27 : val 27 = .bool (dec (Gen c [-1 - (ρ : Int)] [])) := hd 27 ⟨⟨27, .data⟩, by simp, rfl, rfl⟩
            exact ite_do ((guardv_eq rfl eg).trans rfl) (does_value (v := .bool true) (w := w2) (exec_bin rfl e22 e27 (by go_simp)) ⟨Below.refl _ _, rfl⟩)
          · have e17 : val 17 = .bool true := hd 17 ⟨⟨17, .data⟩, by simp, rfl, rfl⟩
            have e28 : val 28 = .bool true := hd 28 ⟨⟨28, .data⟩, by simp, rfl, rfl⟩
            exact ite_do rfl (does_value (exec_pick (v := .bool true) rfl e17 e28) ⟨Below.refl _ _, rfl⟩)
          · have e29 : val 29 = .bool true := hd 29 ⟨⟨29, .data⟩, by simp, rfl, rfl⟩
            exact ite_do rfl (does_value (exec_move (.inr rfl) e29) ⟨Below.refl _ _, rfl⟩)
        · rintro val w2 hB2' hV
          have e30 : val 30 = .bool true := hV 30 (by decide)
          have hB2 : Below wo.heap.size wo w2 := below2 hBq hB2'
          clear hV
          simp [fillAll, List.range, List.range.loop, dstOf, Act.put]
          rw [e30]
          go_wp2
          go_ret
          exact ⟨rfl, below2 (below2 H2.out.1 HO4.out.2) hB2⟩
end Go.Proofs.Ytgjobbapnileiaa
