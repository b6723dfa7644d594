/- The reference's Nullable: the walk; A region whose operations but the last only read what is old and lay what is new; the last one may do anything. -/
import Derived.Test.YtgjobbapnileiaaZ19
import Derived.Test.YtgjobbapnileiaaZ13
set_option linter.unusedVariables false
set_option linter.unusedSimpArgs false
namespace Go.Proofs.Ytgjobbapnileiaa
open Go.RowKit Gk

theorem nulStep_closed {c : Cfg} {out : List Bool} (h : NulC c out) (hl : out.length = c.alts.length) {r : Nat} {al : List (List Int)} {a : List Int} (hal : c.alts[r]? = some al) (ha : a ∈ al) : nulStep out r a = out := by
  have hr : r < out.length := by rw [hl]; exact (List.getElem?_eq_some_iff.1 hal).1
  rcases nulStep_cases (a := a) hr with ⟨e, _⟩ | e
  · exact e
  · unfold nulStep
    have h1 : ((out[r]?).getD false || emptyP out a) = out[r] := by
      rw [List.getElem?_eq_getElem hr]
      cases hb : out[r] with
      | true => rfl
      | false =>
        cases he : emptyP out a with
        | false => rfl
        | true => have := h r al a hal ha he; rw [List.getElem?_eq_getElem hr, hb] at this; cases this
    rw [h1]
    exact List.set_getElem_self hr
/-- what is known, in memory -/
structure NulS (w0 : World) (X O : Nat) (a b d : Value) (c : Cfg) (out : List Bool) (w : World) : Prop where
  cb : Box w X #[a, b, d] 25
  ob : Box w O (out.map Value.bool).toArray 4
  ne : O ≠ X
  lb : w0.heap.size ≤ O
  bl : Below w0.heap.size w0 w
  inv : NulI c out
theorem NulS.below {w0 : World} {X O : Nat} {a b d : Value} {c : Cfg} {out : List Bool} {w w' : World} (h : NulS w0 X O a b d c out w) (k : Below w.heap.size w w') : NulS w0 X O a b d c out w' :=
  ⟨h.cb.below k, h.ob.below k, h.ne, h.lb, below2 h.bl k, h.inv⟩
theorem NulS.cell {w0 : World} {X O : Nat} {a b d : Value} {c : Cfg} {out : List Bool} {w : World} (h : NulS w0 X O a b d c out w) {r : Nat} {m : Bool} (hm : out[r]? = some m) : w.cell? ⟨O, r, none⟩ = some (.bool m) :=
  h.ob.cell r (by simp [hm])
theorem NulS.sl {w0 : World} {X O : Nat} {a b d : Value} {c : Cfg} {out : List Bool} {w : World} (h : NulS w0 X O a b d c out w) (hn : c.alts.length ≤ 1000) : Sl Ty.bool w (.slice (some ⟨O, 0, none⟩) c.alts.length c.alts.length) out := by
  have hl := h.inv.1
  rw [← hl] at hn ⊢
  refine ⟨_, _, rfl, Nat.le_refl _, by simp only [maxLen]; omega, by unfold LB; omega, fun i x hx => ⟨_, [.bool x], rfl, ⟨rfl, trivial⟩, fun j u hj => ?_⟩⟩
  match j, hj with
  | 0, hj =>
    simp at hj; subst hj
    show w.cell? (Addr.add _ (i * 1 + 0)) = _
    rw [Addr.add_lit]
    simpa using h.cell hx
theorem NulS.set {w0 : World} {X O : Nat} {a b d : Value} {c : Cfg} {out : List Bool} {w : World} (h : NulS w0 X O a b d c out w) {r : Nat} {m : Bool} (hi : NulI c (out.set r m)) : NulS w0 X O a b d c (out.set r m) (w.setCell ⟨O, r, none⟩ (.bool m)) := by
  have hk : ∀ g, g ≠ O → (w.setCell ⟨O, r, none⟩ (.bool m)).heap[g]? = w.heap[g]? := fun g hg => Below.heap_setCell w ⟨O, r, none⟩ _ g hg
  refine ⟨h.cb.keep (hk _ h.ne.symm), ?_, h.ne, h.lb, h.bl.setCell h.lb _, hi⟩
  have := h.ob.set r (.bool m)
  rwa [List.setIfInBounds_toArray, ← List.map_set] at this
def NullTo (c : Cfg) (out : List Bool) (s : Nat) : Prop := ∀ r, r < s → ∀ al a, c.alts[r]? = some al → a ∈ al → emptyP out a = true → out[r]? = some true
/-- the round's part: nothing was found yet, or more is known -/
def NulR (c : Cfg) (out0 out : List Bool) (P : Prop) : Prop := (NulC c out0 → out = out0) ∧ ((out = out0 ∧ P) ∨ cntT out0 < cntT out)
theorem NulR.step {c : Cfg} {out0 out : List Bool} {P P' : Prop} (h : NulR c out0 out P) (hl : out.length = c.alts.length) {r : Nat} {al : List (List Int)} {a : List Int} (hal : c.alts[r]? = some al) (ha : a ∈ al) (hp : P → (emptyP out0 a = true → out0[r]? = some true) → P') : NulR c out0 (nulStep out r a) P' := by
  have hr : r < out.length := by rw [hl]; exact (List.getElem?_eq_some_iff.1 hal).1
  refine ⟨fun hc => ?_, ?_⟩
  · have e := h.1 hc
    rw [e] at hl
    rw [e]; exact nulStep_closed hc hl hal ha
  · rcases nulStep_cases (a := a) hr with ⟨e, h1⟩ | e
    · rw [e]
      rcases h.2 with ⟨e2, h2⟩ | h2
      · subst e2; exact .inl ⟨rfl, hp h2 h1⟩
      · exact .inr h2
    · right
      rcases h.2 with ⟨e2, _⟩ | h2
      · rw [e2] at e; rw [e2]; omega
      · omega
def nulEnd (c : Cfg) (w : World) (e : Ending) (w' : World) : Prop := ∃ O out, e = .returned (.slice (some ⟨O, 0, none⟩) c.alts.length c.alts.length) ∧ Box w' O (out.map Value.bool).toArray 4 ∧ NulI c out ∧ NulC c out ∧ Below w.heap.size w w'
theorem infoBool : (Try.prog.info? 4).map (fun i => (i.zero, i.size, i.bytes)) = some (some (.bool false), 1, 1) := by kernel_rfl
theorem madeFalse (n : Nat) : madeCells #[Value.bool false] (n * 1) = Array.replicate n (.bool false) := by
  apply Array.ext_getElem?
  intro j
  by_cases hj : j < n
  · simp [madeCells, hj, Nat.mod_one]
  · simp [madeCells, hj]
set_option maxRecDepth 100000 in
set_option maxHeartbeats 4000000 in
theorem nullable_calls (c : Cfg) (v : Value) (w : World) (h : CfgV w v c) (hok : CfgOk c) (hsm : Small 60 c) (h0 : 0 < c.alts.length) : Calls Try.prog 15 #[v] w (nulEnd c w) := by
  have hal : c.alts.length ≤ 60 := by have := hok.1; have := hsm.1; omega
  obtain ⟨a0, b0, d0, rfl, h1, h2, h3⟩ := id h
  obtain ⟨A1, c1, rfl, hc1, hm1, _, hr1⟩ := id h1
  obtain ⟨A2, c2, rfl, hc2, hm2, _, hr2⟩ := id h2
  obtain ⟨A3, c3, rfl, hc3, hm3, hl3, hr3⟩ := id h3
  have HH := Lib.hid (And.intro h (And.intro hok hsm))
  unfold LB at hl3
  clear h hok hsm h1 h2 h3 hr1 hr2
  have hB1 := Box.new w #[.slice A1 c.toks.length c1, .slice A2 c.names.length c2, .slice A3 c.alts.length c3] 25
  have hb1 : Below w.heap.size w (w.alloc (.cells #[.slice A1 c.toks.length c1, .slice A2 c.names.length c2, .slice A3 c.alts.length c3] 25)) := (Below.refl _ _).alloc (Nat.le_refl _) _
  obtain ⟨i0, hi0, hz0, hzs, hzb⟩ := info_parts infoBool
  have hmk := run_makeSlice (P := Try.prog) (w.alloc (.cells #[.slice A1 c.toks.length c1, .slice A2 c.names.length c2, .slice A3 c.alts.length c3] 25)) 40 4 i0 _ Try.underlying40 hi0 hz0 .i64 .i64 c.alts.length c.alts.length (by omega) (by omega) (by rw [hzs]; omega) (by rw [hzb]; omega) (by omega)
  have e0 : (madeCells (Value.bool false).cells ((c.alts.length : Int).toNat * i0.size)) = Array.replicate c.alts.length (.bool false) := by rw [hzs, Int.toNat_natCast]; exact madeFalse _
  rw [e0, Int.toNat_natCast] at hmk
  clear hi0 hz0 hzs hzb e0
  have hsz1 : (w.alloc (.cells #[.slice A1 c.toks.length c1, .slice A2 c.names.length c2, .slice A3 c.alts.length c3] 25)).heap.size = w.heap.size + 1 := by simp
  have hS0 : Hid (NulS w w.heap.size (w.heap.size + 1) (.slice A1 c.toks.length c1) (.slice A2 c.names.length c2) (.slice A3 c.alts.length c3) c (List.replicate c.alts.length false) ((w.alloc (.cells #[.slice A1 c.toks.length c1, .slice A2 c.names.length c2, .slice A3 c.alts.length c3] 25)).alloc (.cells (Array.replicate c.alts.length (.bool false)) 4))) := by
    have hO := Box.new (w.alloc (.cells #[.slice A1 c.toks.length c1, .slice A2 c.names.length c2, .slice A3 c.alts.length c3] 25)) (Array.replicate c.alts.length (Value.bool false)) 4
    rw [hsz1] at hO
    refine ⟨hB1.alloc _, by rw [List.map_replicate]; simpa using hO, by omega, by omega, hb1.alloc (by omega) _, by simp, fun r hr => ?_⟩
    rw [List.getElem?_replicate] at hr
    split at hr
    · injection hr with hr; cases hr
    · cases hr
  have hbc := hB1.cell 2 (v := .slice A3 c.alts.length c3) rfl
  clear hB1 hb1
  go_enter Try.func15, Try.ntmps15
  go_wp2
  clear hmk hbc hsz1
  go_loopw [14] (fun i wr => ∃ (j : Nat) (out : List Bool), j ≤ c.alts.length ∧ i = .int .i64 j ∧ NulS w w.heap.size (w.heap.size + 1) (.slice A1 c.toks.length c1) (.slice A2 c.names.length c2) (.slice A3 c.alts.length c3) c out wr ∧ Hid (j ≤ cntT out ∨ NulC c out)) (fun i _ => c.alts.length - (intOf i).toNat)
  case atStart => exact ⟨0, _, Nat.zero_le _, rfl, hS0, .inl (Nat.zero_le _)⟩
  case round =>
    obtain ⟨j0, out0, hj0, rfl, hS1, hc0⟩ := hrel
    have H0 := Lib.hid (And.intro hS1 hc0)
    have x2 := hS1.cb.cell 2 (v := .slice A3 c.alts.length c3) rfl
    clear hS1 hc0
    by_cases hlt0 : j0 < c.alts.length
    · obtain ⟨wa, rfl⟩ : ∃ wa : World, wa = wr := ⟨_, rfl⟩
      go_wp2
      go_loopw [19] (fun i wr => ∃ (s : Nat) (out : List Bool), s ≤ c.alts.length ∧ i = .int .i64 s ∧ NulS w w.heap.size (w.heap.size + 1) (.slice A1 c.toks.length c1) (.slice A2 c.names.length c2) (.slice A3 c.alts.length c3) c out wr ∧ Hid (NulR c out0 out (NullTo c out0 s))) (fun i _ => c.alts.length - (intOf i).toNat)
      case atStart => exact ⟨0, out0, Nat.zero_le _, rfl, H0.out.1, ⟨fun _ => rfl, .inl ⟨rfl, fun r hr => absurd hr (Nat.not_lt_zero _)⟩⟩⟩
      case round =>
        obtain ⟨s, out1, hs, rfl, hS2, hR2⟩ := hrel
        have H2 := Lib.hid (And.intro hS2 hR2)
        have y2 := hS2.cb.cell 2 (v := .slice A3 c.alts.length c3) rfl
        clear hS2 hR2
        by_cases hlt : s < c.alts.length
        · obtain ⟨al, hal1⟩ := at_lt c.alts hlt
          obtain ⟨ad3, B3, c4, rfl, hcellB, g1, g2, g3, g4⟩ := (hr3.below H2.out.1.bl).slice hal1
          have hrowB : Hid (∀ w' : World, Below w.heap.size w w' → Row (Ty.slice Ty.int) w' B3 al) := by
            intro w' hb
            obtain ⟨ad0, B0, c0, e0, hcell0, _, _, _, g40⟩ := hr3.slice hal1
            injection e0 with e0
            subst e0
            have q1 := cell_far hcell0 H2.out.1.bl.block
            rw [hcellB] at q1; injection q1 with q1; injection q1 with q1 _ _
            rw [q1]; exact g40.below hb
          have HAL := Lib.hid hal1; clear hal1 g4
          obtain ⟨w3, rfl⟩ : ∃ w3 : World, w3 = wr := ⟨_, rfl⟩
          go_wp2
          go_loopw [26] (fun i wr => ∃ (j : Nat) (out : List Bool), j ≤ al.length ∧ i = .int .i64 j ∧ NulS w w.heap.size (w.heap.size + 1) (.slice A1 c.toks.length c1) (.slice A2 c.names.length c2) (.slice (some ad3) c.alts.length c3) c out wr ∧ Hid (NulR c out0 out (NullTo c out0 s ∧ ∀ x ∈ al.take j, emptyP out0 x = true → out0[s]? = some true))) (fun i _ => al.length - (intOf i).toNat)
          case atStart =>
            refine ⟨0, out1, Nat.zero_le _, rfl, H2.out.1, ⟨H2.out.2.1, ?_⟩⟩
            rcases H2.out.2.2 with ⟨e, h⟩ | h
            · exact .inl ⟨e, h, fun x hx => by simp at hx⟩
            · exact .inr h
          case round =>
            obtain ⟨j, out2, hj, rfl, hS3, hR3⟩ := hrel
            have H3 := Lib.hid (And.intro hS3 hR3)
            have hlen2 := hS3.inv.1
            have q0 := hS3.cb.cell 0 (v := .slice A1 c.toks.length c1) rfl
            have q1 := hS3.cb.cell 1 (v := .slice A2 c.names.length c2) rfl
            have q2 := hS3.cb.cell 2 (v := .slice (some ad3) c.alts.length c3) rfl
            have HLEN := Lib.hid hlen2
            have hsl2 : s < out2.length := by omega
            clear hS3 hR3 hlen2
            by_cases hlt4 : j < al.length
            · obtain ⟨x, hx⟩ := at_lt al hlt4
              have hro : Row (Ty.slice Ty.int) wr B3 al := hrowB.out wr H3.out.1.bl
              obtain ⟨adA, BA, cA, rfl, hcellA, a1, a2, a3, a4⟩ := hro.slice hx
              have hua : Hid (Sl Ty.int wr (.slice BA x.length cA) x) := ⟨BA, cA, rfl, a1, a2, a3, a4⟩
              have hxm := List.mem_of_getElem? hx
              have hinv := nulStep_inv H3.out.1.inv HAL.out hxm
              have hstep : Hid (NulR c out0 (nulStep out2 s x) (NullTo c out0 s ∧ ∀ y ∈ al.take (j + 1), emptyP out0 y = true → out0[s]? = some true)) := H3.out.2.step H3.out.1.inv.1 HAL.out hxm fun hp hn => ⟨hp.1, fun y hy => by
                rw [take_next hx] at hy
                rcases List.mem_append.1 hy with hy | hy
                · exact hp.2 y hy
                · simp at hy; subst hy; exact hn⟩
              have hemp := empty_calls c x out2 _ _ _ wr (HH.out.1.below H3.out.1.bl) hua.out (H3.out.1.sl (by omega)) H3.out.1.inv.1 (by omega)
              have HEMP := Lib.hid hemp
              have HINV := Lib.hid hinv
              clear hx hro a4 hxm hemp hinv
              obtain ⟨b, hb⟩ := at_lt out2 hsl2
              have hcb := H3.out.1.cell hb
              have hfr := H3.out.1.ob.frozen s
              have hst : nulStep out2 s x = out2.set s (b || emptyP out2 x) := by unfold nulStep; rw [hb]; rfl
              have HST := Lib.hid hst
              clear hst hb
              obtain ⟨wb, rfl⟩ : ∃ wb : World, wb = wr := ⟨_, rfl⟩
              cases b with
              | true =>
                go_wp2
                have hst : nulStep out2 s x = _ := HST.out
                rw [Bool.true_or] at hst
                refine ⟨⟨j + 1, nulStep out2 s x, by omega, by simp, by rw [hst]; exact H3.out.1.set (by rw [← hst]; exact HINV.out), hstep⟩, by simp [intOf]; omega⟩
              | false =>
                obtain ⟨bb, hbb⟩ : ∃ bb, bb = emptyP out2 x := ⟨_, rfl⟩
                have hE := HEMP.out
                rw [← hbb] at hE
                have HE := Lib.hid hE
                have HBB := Lib.hid hbb
                clear hE hbb
                go_wp2_with (go_at_call 25; refine HE.out.mono ?_; rintro e w5 ⟨rfl, hb5⟩; have hS5 := Lib.hid (H3.out.1.below hb5); have hfr5 := hS5.out.ob.frozen s; have hcb5 := cell_far hcb hb5.block)
                have hst : nulStep out2 s x = _ := HST.out
                rw [Bool.false_or, ← HBB.out] at hst
                refine ⟨⟨j + 1, nulStep out2 s x, by omega, by simp, by rw [hst]; exact hS5.out.set (by rw [← hst]; exact HINV.out), hstep⟩, by simp [intOf]; omega⟩
            · have hje : j = al.length := by omega
              have HJE := Lib.hid hje; clear hje
              go_wp2
              refine ⟨⟨s + 1, out2, by omega, by simp, H3.out.1, ⟨H3.out.2.1, ?_⟩⟩, by simp [intOf]; omega⟩
              rcases H3.out.2.2 with ⟨e, h1, h2⟩ | h
              · refine .inl ⟨e, fun r hr al' x hal' hx => ?_⟩
                by_cases hrs : r = s
                · subst hrs
                  rw [HAL.out] at hal'; injection hal' with hal'; subst hal'
                  exact h2 x (by rw [HJE.out, List.take_length]; exact hx)
                · exact h1 r (by omega) al' x hal' hx
              · exact .inr h
        · have hse : s = c.alts.length := by omega
          have HSE := Lib.hid hse; clear hse
          go_wp2
          refine ⟨⟨j0 + 1, out1, by omega, by simp, H2.out.1, ?_⟩, by simp [intOf]; omega⟩
          rcases H2.out.2.2 with ⟨e, h⟩ | h
          · rw [e]
            exact .inr fun r al a hal' ha he => h r (by rw [HSE.out]; exact (List.getElem?_eq_some_iff.1 hal').1) al a hal' ha he
          · rcases H0.out.2 with h0 | h0
            · exact .inl (by omega)
            · have := H2.out.2.1 h0
              rw [this] at h; exact absurd h (Nat.lt_irrefl _)
    · have hje : j0 = c.alts.length := by omega
      have HJE := Lib.hid hje; clear hje
      go_wp2
      go_ret
      have hinv := H0.out.1.inv
      refine ⟨_, out0, rfl, H0.out.1.ob, hinv, ?_, H0.out.1.bl⟩
      rcases H0.out.2 with h0 | h0
      · intro r al a hal' _ _
        exact cnt_all (by rw [hinv.1, ← HJE.out]; exact h0) r (by rw [hinv.1]; exact (List.getElem?_eq_some_iff.1 hal').1)
      · exact h0
end Go.Proofs.Ytgjobbapnileiaa
set_option linter.unusedVariables false
set_option linter.unusedSimpArgs false
namespace Gk
open Go Go.RowKit
section
variable {P : Program} {Q : Exit → Act → World → Prop}
structure GrowI (V : Nat → Value → World → Prop) (n : Nat) (w0 : World) (K : (Nat → Value) → World → Prop) (L : Nat → Bool) (val : Nat → Value) (w : World) : Prop where
  pre : L n = false → Below w0.heap.size w0 w ∧ ∀ i, i < n → L i = true → V i (val i) w
  post : L n = true → K val w
  c : L n = true → ∀ i, i < n → L i = true
theorem wp_region_growLast {id : Nat} {l : List Oper} (n : Nat) {a0 : Act} {w : World} (hn : l.length = n + 1) (hm : P.follows .mixedOrders = true) (h : regOk l.toArray a0.tmps.size = true) (hng : noGuards l = true) (hlast : lastAll l n = true) (V : Nat → Value → World → Prop)
    (hV : ∀ i v w w', V i v w → Below w.heap.size w w' → V i v w')
    (hstep : ∀ i, i < n → ∀ o, l[i]? = some o → ∀ (val : Nat → Value) (w2 : World), Below w.heap.size w w2 → (∀ j, (∃ e ∈ o.after.toList, e.on = j ∧ Region.binds .any e = true) → V j (val j) w2) → does P ((execOp (opv l.toArray a0 val) o).run P w2) (fun v w' => Below w2.heap.size w2 w' ∧ V i v w'))
    (hl : ∀ o, l[n]? = some o → ∀ (val : Nat → Value) (w2 : World), Below w.heap.size w w2 → (∀ i, i < n → V i (val i) w2) → does P ((execOp (opv l.toArray a0 val) o).run P w2) (fun v w' => Q .normal (fillAll l.toArray (upd val n v) a0) w')) :
    (Code.region id l.toArray true).wp P Q a0 w := by
  refine wp_region_inv hm h (GrowI V n w (fun val w' => Q .normal (fillAll l.toArray val a0) w')) (fun _ => undef) ⟨fun _ => ⟨below_drewN (Below.refl _ _) 1, fun i _ hL => by simp at hL⟩, by simp, by simp⟩ ?_ ?_
  · intro i hi o ho L val w2 hI hL hd
    have hol : l[i]? = some o := by simpa using ho
    have hil : i < l.length := hi
    rw [guard_none hng hol, if_pos (by rfl)]
    by_cases hin : i < n
    · have hLn : L n = false := by
        rcases hx : L n with _ | _
        · rfl
        · have := hI.c hx i hin; rw [hL] at this; cases this
      have hP := hI.pre hLn
      refine does_mono (hstep i hin o hol val w2 hP.1 fun j hj => ?_) fun v w' hv => ?_
      · obtain ⟨e, he, rfl, hb⟩ := hj
        have hlt := (regOk_at h ho).2.1 e (Array.mem_toList_iff.1 he)
        exact hP.2 _ (by omega) (hd e (Array.mem_toList_iff.1 he) hb)
      · refine ⟨fun hLn' => ⟨below2 hP.1 hv.1, fun j hj hLj => ?_⟩, fun h' => ?_, fun h' => ?_⟩
        · by_cases e : j = i
          · subst e; simpa [upd] using hv.2
          · simp only [up, e, if_false] at hLj
            have := hP.2 j hj hLj
            simpa [upd, e] using hV _ _ _ _ this hv.1
        · simp only [up, show n ≠ i by omega, if_false] at h'; rw [hLn] at h'; cases h'
        · simp only [up, show n ≠ i by omega, if_false] at h'; rw [hLn] at h'; cases h'
    · have hie : i = n := by omega
      subst hie
      have hall : ∀ j, j < i → L j = true := by
        intro j hj
        unfold lastAll at hlast
        rw [hol] at hlast
        have := List.all_eq_true.1 hlast j (List.mem_range.2 hj)
        obtain ⟨e, he, hb⟩ := List.any_eq_true.1 this
        simp at hb
        have := hd e (Array.mem_toList_iff.1 he) hb.2
        rwa [hb.1] at this
      have hP := hI.pre hL
      refine does_mono (hl o hol val w2 hP.1 fun j hj => hP.2 j hj (hall j hj)) fun v w' hv => ?_
      refine ⟨fun h' => ?_, fun _ => hv, fun _ j hj => ?_⟩
      · simp [up] at h'
      · simp [up, show j ≠ i by omega, hall j hj]
  · intro val w2 hI
    exact hI.post (by simp [hn])
end
end Gk
