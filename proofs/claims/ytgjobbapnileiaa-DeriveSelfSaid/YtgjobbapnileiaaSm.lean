/- Same: it answers a bool. -/
import Derived.Test.YtgjobbapnileiaaFew
import Derived.Test.YtgjobbapnileiaaSame
set_option linter.unusedVariables false
set_option linter.unusedSimpArgs false
namespace Go.Proofs.Ytgjobbapnileiaa
open Go.RowKit Gk

def anyBool (w : World) (e : Ending) (w' : World) : Prop := ∃ b, e = .returned (.bool b) ∧ Below w.heap.size w w'
theorem anyBool.mk {w w' : World} {b : Bool} (h : Below w.heap.size w w') : anyBool w (.returned (.bool b)) w' := ⟨b, rfl, h⟩
theorem _root_.Gk.Sl.drewN' {α : Type} {T : Ty α} {w : World} {v : Value} {xs : List α} (h : Sl T w v xs) (n : Nat) : Sl T (w.drewN n) v xs := h.below (below_drewN (Below.refl _ _) n)
def SmB (w : World) (U V : Array Value) (wr : World) : Prop := Box wr w.heap.size U 25 ∧ Box wr (w.heap.size + 1) V 25 ∧ Below w.heap.size w wr
def SmR (n : Nat) (w : World) (U V : Array Value) (i : Value) (wr : World) : Prop := (∃ k : Nat, k ≤ n ∧ i = .int .i64 k) ∧ SmB w U V wr
theorem SmB.below {w : World} {U V : Array Value} {w1 w2 : World} (h : SmB w U V w1) (hb : Below w1.heap.size w1 w2) : SmB w U V w2 := ⟨h.1.below hb, h.2.1.below hb, below2 h.2.2 hb⟩

set_option maxRecDepth 100000 in
set_option maxHeartbeats 4000000 in
theorem same_calls (v u : Value) (c d : Cfg) (w : World) (h : CfgV w v c) (h' : CfgV w u d) :
    Calls Try.prog 28 #[v, u] w (anyBool w) := by
  obtain ⟨a0, b0, d0, rfl, h1, h2, h3⟩ := h
  obtain ⟨a0', b0', d0', rfl, h1', h2', h3'⟩ := h'
  have hA := (((Below.refl w.heap.size w).alloc (Nat.le_refl _) (.cells #[a0, b0, d0] 25)).alloc (by simp) (.cells #[a0', b0', d0'] 25))
  have s1 := h1.below hA
  have s2 := h2.below hA
  have s3 := h1'.below hA
  have s4 := h2'.below hA
  obtain ⟨A1, c1, rfl, hc1, hm1, hl1, hr1⟩ := h1
  obtain ⟨A2, c2, rfl, hc2, hm2, hl2, hr2⟩ := h2
  obtain ⟨A3, c3, rfl, hc3, hm3, hl3, hr3⟩ := h3
  obtain ⟨B1, d1, rfl, hd1, hn1, hk1, hs1⟩ := h1'
  obtain ⟨B2, d2, rfl, hd2, hn2, hk2, hs2⟩ := h2'
  obtain ⟨B3, d3, rfl, hd3, hn3, hk3, hs3⟩ := h3'
  unfold LB at hl1 hl2 hl3 hk1 hk2 hk3
  have hSB : SmB w #[.slice A1 c.toks.length c1, .slice A2 c.names.length c2, .slice A3 c.alts.length c3] #[.slice B1 d.toks.length d1, .slice B2 d.names.length d2, .slice B3 d.alts.length d3] ((w.alloc (.cells #[.slice A1 c.toks.length c1, .slice A2 c.names.length c2, .slice A3 c.alts.length c3] 25)).alloc (.cells #[.slice B1 d.toks.length d1, .slice B2 d.names.length d2, .slice B3 d.alts.length d3] 25)) := by
    refine ⟨(Box.new w _ _).alloc _, ?_, hA⟩
    have := Box.new (w.alloc (.cells #[.slice A1 c.toks.length c1, .slice A2 c.names.length c2, .slice A3 c.alts.length c3] 25)) #[.slice B1 d.toks.length d1, .slice B2 d.names.length d2, .slice B3 d.alts.length d3] 25
    simpa using this
  have k1 : Calls Try.prog 48 #[.slice A1 c.toks.length c1, .slice B1 d.toks.length d1] ((w.alloc (.cells #[.slice A1 c.toks.length c1, .slice A2 c.names.length c2, .slice A3 c.alts.length c3] 25)).alloc (.cells #[.slice B1 d.toks.length d1, .slice B2 d.names.length d2, .slice B3 d.alts.length d3] 25)) fun e w' => ∃ b, e = .returned (.bool b) ∧ SmB w #[.slice A1 c.toks.length c1, .slice A2 c.names.length c2, .slice A3 c.alts.length c3] #[.slice B1 d.toks.length d1, .slice B2 d.names.length d2, .slice B3 d.alts.length d3] w' :=
    (sameNames_calls _ _ _ _ _ s1 s3).mono fun e w' ⟨e1, e2⟩ => ⟨_, e1, hSB.below e2.below⟩
  have k2 : ∀ w1, SmB w #[.slice A1 c.toks.length c1, .slice A2 c.names.length c2, .slice A3 c.alts.length c3] #[.slice B1 d.toks.length d1, .slice B2 d.names.length d2, .slice B3 d.alts.length d3] w1 → Calls Try.prog 48 #[.slice A2 c.names.length c2, .slice B2 d.names.length d2] w1 fun e w' => ∃ b, e = .returned (.bool b) ∧ SmB w #[.slice A1 c.toks.length c1, .slice A2 c.names.length c2, .slice A3 c.alts.length c3] #[.slice B1 d.toks.length d1, .slice B2 d.names.length d2, .slice B3 d.alts.length d3] w' :=
    fun w1 hw1 => (sameNames_calls _ _ c.names d.names _ (show Sl Ty.str w1 (.slice A2 c.names.length c2) c.names from ⟨A2, c2, rfl, hc2, hm2, hl2, hr2.below hw1.2.2⟩) ⟨B2, d2, rfl, hd2, hn2, hk2, hs2.below hw1.2.2⟩).mono fun e w' ⟨e1, e2⟩ => ⟨_, e1, hw1.below e2.below⟩
  clear s1 s2 s3 s4 hr1 hr2 hs1 hs2
  obtain ⟨z1, z2, _⟩ := hSB
  have x0 := z1.cell 0 (v := .slice A1 c.toks.length c1) rfl
  have x1 := z2.cell 0 (v := .slice B1 d.toks.length d1) rfl
  clear z1 z2
  by_cases hl : c.alts.length = d.alts.length
  case neg =>
    obtain ⟨q1, q2, q3, q4⟩ := cmp_ne hl
    have HL := Lib.hid hl; clear hl
    go_enter Try.func28, Try.ntmps28
    go_wp2_with (first | (go_at_call 48; (with_reducible refine k1.mono ?_); rintro e w1 ⟨b1, rfl, hw1⟩; have hb1 := hw1; obtain ⟨y1, y2, hW⟩ := hb1; have y10 := y1.cell 1 (v := .slice A2 c.names.length c2) rfl; have y11 := y2.cell 1 (v := .slice B2 d.names.length d2) rfl; cases b1) | (go_at_call 48; (with_reducible refine (k2 w1 hw1).mono ?_); rintro e w2 ⟨b2, rfl, hw2⟩; have hb2 := hw2; obtain ⟨y3, y4, hW2⟩ := hb2; have y20 := y3.cell 2 (v := .slice A3 c.alts.length c3) rfl; have y21 := y4.cell 2 (v := .slice B3 d.alts.length d3) rfl; cases b2))
    all_goals
      go_ret
      first | exact anyBool.mk hW2 | exact anyBool.mk hW
  obtain ⟨q1, q2, q3, q4⟩ := cmp_eq hl
  have HL := Lib.hid hl; clear hl
  go_enter Try.func28, Try.ntmps28
  go_wp2_with (first | (go_at_call 48; (with_reducible refine k1.mono ?_); rintro e w1 ⟨b1, rfl, hw1⟩; have hb1 := hw1; obtain ⟨y1, y2, hW⟩ := hb1; have y10 := y1.cell 1 (v := .slice A2 c.names.length c2) rfl; have y11 := y2.cell 1 (v := .slice B2 d.names.length d2) rfl; cases b1) | (go_at_call 48; (with_reducible refine (k2 w1 hw1).mono ?_); rintro e w2 ⟨b2, rfl, hw2⟩; have hb2 := hw2; obtain ⟨y3, y4, hW2⟩ := hb2; have y20 := y3.cell 2 (v := .slice A3 c.alts.length c3) rfl; have y21 := y4.cell 2 (v := .slice B3 d.alts.length d3) rfl; cases b2))
  all_goals try
    (go_ret
     first | exact anyBool.mk hW2 | exact anyBool.mk hW)
  go_loopw [33] (fun i wr => SmR c.alts.length w #[.slice A1 c.toks.length c1, .slice A2 c.names.length c2, .slice A3 c.alts.length c3] #[.slice B1 d.toks.length d1, .slice B2 d.names.length d2, .slice B3 d.alts.length d3] i wr) (fun i _ => c.alts.length - (intOf i).toNat)
  case atStart => exact ⟨⟨0, Nat.zero_le _, rfl⟩, hw2⟩
  case round =>
    clear hw1 hw2 y1 y2 y3 y4 y10 y11 y20 y21 hW hW2 x0 x1 k1 k2
    obtain ⟨⟨k, hk, rfl⟩, hB⟩ := hrel
    have hB0 := hB
    obtain ⟨y1, y2, hW⟩ := hB0
    have y20 := y1.cell 2 (v := .slice A3 c.alts.length c3) rfl
    have y21 := y2.cell 2 (v := .slice B3 d.alts.length d3) rfl
    by_cases hlt : k < c.alts.length
    · have hlt2 : k < d.alts.length := by have := HL.out; omega
      obtain ⟨x, hx⟩ := at_lt c.alts hlt
      obtain ⟨y, hy⟩ := at_lt d.alts hlt2
      obtain ⟨ad, X, p, rfl, hcell, g1, g2, g3, g4⟩ := (hr3.below hW).slice hx
      obtain ⟨bd, Y, q, rfl, hcell2, g5, g6, g7, g8⟩ := (hs3.below hW).slice hy
      by_cases hxl : x.length = y.length
      · obtain ⟨q5, q6, q7, q8⟩ := cmp_eq hxl
        have HXL := Lib.hid hxl; clear hxl
        have HX := Lib.hid hx; clear hx
        have HY := Lib.hid hy; clear hy
        go_wp2
        go_quiet (fail)
        go_wp2
        go_loopw [55] (fun i wr => SmR x.length w #[.slice A1 c.toks.length c1, .slice A2 c.names.length c2, .slice (some ad) c.alts.length c3] #[.slice B1 d.toks.length d1, .slice B2 d.names.length d2, .slice (some bd) d.alts.length d3] i wr) (fun i _ => x.length - (intOf i).toNat)
        case atStart => exact ⟨⟨0, Nat.zero_le _, rfl⟩, hB.below (below_drewN (Below.refl _ _) _)⟩
        case round =>
          clear y1 y2 hW y20 y21 hB hcell hcell2 g4 g8
          obtain ⟨⟨j, hj, rfl⟩, hB⟩ := hrel
          have hB0 := hB
          obtain ⟨y1, y2, hW⟩ := hB0
          have y20 := y1.cell 2 (v := .slice (some ad) c.alts.length c3) rfl
          have y21 := y2.cell 2 (v := .slice (some bd) d.alts.length d3) rfl
          obtain ⟨ad', X', p', e, hcell, _, _, _, g4⟩ := (hr3.below hW).slice HX.out
          obtain ⟨bd', Y', q', e', hcell2, _, _, _, g8⟩ := (hs3.below hW).slice HY.out
          cases e
          cases e'
          by_cases hlt3 : j < x.length
          · have hlt4 : j < y.length := by have := HXL.out; omega
            obtain ⟨a, ha⟩ := at_lt x hlt3
            obtain ⟨b, hb⟩ := at_lt y hlt4
            obtain ⟨ae, Z, r, rfl, hcell3, t1, t2, t3, t4⟩ := g4.slice ha
            obtain ⟨be, Z', r', rfl, hcell4, t5, t6, t7, t8⟩ := g8.slice hb
            clear ha hb
            have hcall : ∀ n, Calls Try.prog 13 #[.slice Z a.length r, .slice Z' b.length r'] (wr.drewN n) fun e w' => e = .returned (.bool (decide (a = b))) ∧ Drawn (wr.drewN n) w' :=
              fun n => sameInts_calls _ _ a b _ (Sl.drewN ⟨Z, r, rfl, t1, t2, t3, t4⟩ n) (Sl.drewN ⟨Z', r', rfl, t5, t6, t7, t8⟩ n)
            generalize decide (a = b) = bb at hcall
            cases bb
            · go_wp2
              go_quiet ((go_at_call 13; exact Calls.quiet (hcall _)))
              go_wp2
              go_ret
              exact anyBool.mk (below_drewN hW _)
            · go_wp2
              go_quiet ((go_at_call 13; exact Calls.quiet (hcall _)))
              go_wp2
              go_roundw
              case rel => exact ⟨⟨j + 1, by omega, by go_num⟩, hB.below (below_drewN (Below.refl _ _) _)⟩
              case measure => simp [intOf]; omega
          · go_wp2
            go_roundw
            case rel => exact ⟨⟨k + 1, by omega, by go_num⟩, hB⟩
            case measure => simp [intOf]; omega
      · obtain ⟨q5, q6, q7, q8⟩ := cmp_ne hxl
        have HXL := Lib.hid hxl; clear hxl hx hy
        go_wp2
        go_quiet (fail)
        go_wp2
        go_ret
        exact anyBool.mk (below_drewN hW _)
    · go_wp2
      go_ret
      exact anyBool.mk hW
end Go.Proofs.Ytgjobbapnileiaa
