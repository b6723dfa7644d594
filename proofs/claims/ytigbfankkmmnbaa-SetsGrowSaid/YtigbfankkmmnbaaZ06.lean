/- Same: it answers a bool; Valid and few: if they answer yes the grammar is in shape; Sets of ints as maps, maps of places to sets, and ranging over a set; What comes in is read; Derivations; small laws on numbers and lists; Nullable: without a program. -/
import Derived.Test.YtigbfankkmmnbaaZ02
import Derived.Test.YtigbfankkmmnbaaZ03
import Derived.Test.YtigbfankkmmnbaaZ05
import Derived.Maps.RangeWalk
import Derived.Test.YtigbfankkmmnbaaRows
import Derived.ProofKit
import Derived.SizedLaws
import Derived.Below
import Derived.ChangeOld
import Derived.Lib.SmallJoins
import Derived.Deep.Slices
import Derived.DeepKeys4
set_option linter.unusedVariables false
set_option linter.unusedSimpArgs false
namespace Go.Proofs.Ytigbfankkmmnbaa
open Go.RowKit Gk

def anyBool (w : World) (e : Ending) (w' : World) : Prop := ∃ b, e = .returned (.bool b) ∧ Below w.heap.size w w'
theorem anyBool.mk {w w' : World} {b : Bool} (h : Below w.heap.size w w') : anyBool w (.returned (.bool b)) w' := ⟨b, rfl, h⟩
theorem _root_.Gk.Sl.drewN' {α : Type} {T : Ty α} {w : World} {v : Value} {xs : List α} (h : Sl T w v xs) (n : Nat) : Sl T (w.drewN n) v xs := h.below (below_drewN (Below.refl _ _) n)
def SmB (w : World) (U V : Array Value) (wr : World) : Prop := Box wr w.heap.size U 25 ∧ Box wr (w.heap.size + 1) V 25 ∧ Below w.heap.size w wr
def SmR (n : Nat) (w : World) (U V : Array Value) (i : Value) (wr : World) : Prop := (∃ k : Nat, k ≤ n ∧ i = .int .i64 k) ∧ SmB w U V wr
theorem SmB.below {w : World} {U V : Array Value} {w1 w2 : World} (h : SmB w U V w1) (hb : Below w1.heap.size w1 w2) : SmB w U V w2 := ⟨h.1.below hb, h.2.1.below hb, below2 h.2.2 hb⟩

set_option maxRecDepth 100000 in
set_option maxHeartbeats 4000000 in
theorem same_calls (v u : Value) (c d : Cfg) (w : World) (h : CfgV w v c) (h' : CfgV w u d) :
    Calls Try.prog 67 #[v, u] w (anyBool w) := by
  obtain ⟨a0, b0, d0, rfl, h1, h2, h3⟩ := h
  obtain ⟨a0', b0', d0', rfl, h1', h2', h3'⟩ := h'
  have hA := (((Below.refl w.heap.size w).alloc (Nat.le_refl _) (.cells #[a0, b0, d0] 25)).alloc (by simp) (.cells #[a0', b0', d0'] 25))
  have s1 := h1.below hA
  have s2 := h2.below hA
  have s3 := h1'.below hA
  have s4 := h2'.below hA
  obtain ⟨A1, c1, rfl, hc1, hm1, hl1, hr1⟩ := h1
  obtain ⟨A2, c2, rfl, hc2, hm2, hl2, hr2⟩ := h2
  obtain ⟨A3, c3, rfl, hc3, hm3, hl3, hr3⟩ := h3
  obtain ⟨B1, d1, rfl, hd1, hn1, hk1, hs1⟩ := h1'
  obtain ⟨B2, d2, rfl, hd2, hn2, hk2, hs2⟩ := h2'
  obtain ⟨B3, d3, rfl, hd3, hn3, hk3, hs3⟩ := h3'
  unfold LB at hl1 hl2 hl3 hk1 hk2 hk3
  have hSB : SmB w #[.slice A1 c.toks.length c1, .slice A2 c.names.length c2, .slice A3 c.alts.length c3] #[.slice B1 d.toks.length d1, .slice B2 d.names.length d2, .slice B3 d.alts.length d3] ((w.alloc (.cells #[.slice A1 c.toks.length c1, .slice A2 c.names.length c2, .slice A3 c.alts.length c3] 25)).alloc (.cells #[.slice B1 d.toks.length d1, .slice B2 d.names.length d2, .slice B3 d.alts.length d3] 25)) := by
    refine ⟨(Box.new w _ _).alloc _, ?_, hA⟩
    have := Box.new (w.alloc (.cells #[.slice A1 c.toks.length c1, .slice A2 c.names.length c2, .slice A3 c.alts.length c3] 25)) #[.slice B1 d.toks.length d1, .slice B2 d.names.length d2, .slice B3 d.alts.length d3] 25
    simpa using this
  have k1 : Calls Try.prog 82 #[.slice A1 c.toks.length c1, .slice B1 d.toks.length d1] ((w.alloc (.cells #[.slice A1 c.toks.length c1, .slice A2 c.names.length c2, .slice A3 c.alts.length c3] 25)).alloc (.cells #[.slice B1 d.toks.length d1, .slice B2 d.names.length d2, .slice B3 d.alts.length d3] 25)) fun e w' => ∃ b, e = .returned (.bool b) ∧ SmB w #[.slice A1 c.toks.length c1, .slice A2 c.names.length c2, .slice A3 c.alts.length c3] #[.slice B1 d.toks.length d1, .slice B2 d.names.length d2, .slice B3 d.alts.length d3] w' :=
    (sameNames_calls _ _ _ _ _ s1 s3).mono fun e w' ⟨e1, e2⟩ => ⟨_, e1, hSB.below e2.below⟩
  have k2 : ∀ w1, SmB w #[.slice A1 c.toks.length c1, .slice A2 c.names.length c2, .slice A3 c.alts.length c3] #[.slice B1 d.toks.length d1, .slice B2 d.names.length d2, .slice B3 d.alts.length d3] w1 → Calls Try.prog 82 #[.slice A2 c.names.length c2, .slice B2 d.names.length d2] w1 fun e w' => ∃ b, e = .returned (.bool b) ∧ SmB w #[.slice A1 c.toks.length c1, .slice A2 c.names.length c2, .slice A3 c.alts.length c3] #[.slice B1 d.toks.length d1, .slice B2 d.names.length d2, .slice B3 d.alts.length d3] w' :=
    fun w1 hw1 => (sameNames_calls _ _ c.names d.names _ (show Sl Ty.str w1 (.slice A2 c.names.length c2) c.names from ⟨A2, c2, rfl, hc2, hm2, hl2, hr2.below hw1.2.2⟩) ⟨B2, d2, rfl, hd2, hn2, hk2, hs2.below hw1.2.2⟩).mono fun e w' ⟨e1, e2⟩ => ⟨_, e1, hw1.below e2.below⟩
  clear s1 s2 s3 s4 hr1 hr2 hs1 hs2
  obtain ⟨z1, z2, _⟩ := hSB
  have x0 := z1.cell 0 (v := .slice A1 c.toks.length c1) rfl
  have x1 := z2.cell 0 (v := .slice B1 d.toks.length d1) rfl
  clear z1 z2
  by_cases hl : c.alts.length = d.alts.length
  case neg =>
    obtain ⟨q1, q2, q3, q4⟩ := cmp_ne hl
    have HL := Lib.hid hl; clear hl
    go_enter Try.func67, Try.ntmps67
    go_wp2_with (first | (go_at_call 82; (with_reducible refine k1.mono ?_); rintro e w1 ⟨b1, rfl, hw1⟩; have hb1 := hw1; obtain ⟨y1, y2, hW⟩ := hb1; have y10 := y1.cell 1 (v := .slice A2 c.names.length c2) rfl; have y11 := y2.cell 1 (v := .slice B2 d.names.length d2) rfl; cases b1) | (go_at_call 82; (with_reducible refine (k2 w1 hw1).mono ?_); rintro e w2 ⟨b2, rfl, hw2⟩; have hb2 := hw2; obtain ⟨y3, y4, hW2⟩ := hb2; have y20 := y3.cell 2 (v := .slice A3 c.alts.length c3) rfl; have y21 := y4.cell 2 (v := .slice B3 d.alts.length d3) rfl; cases b2))
    all_goals
      go_ret
      first | exact anyBool.mk hW2 | exact anyBool.mk hW
  obtain ⟨q1, q2, q3, q4⟩ := cmp_eq hl
  have HL := Lib.hid hl; clear hl
  go_enter Try.func67, Try.ntmps67
  go_wp2_with (first | (go_at_call 82; (with_reducible refine k1.mono ?_); rintro e w1 ⟨b1, rfl, hw1⟩; have hb1 := hw1; obtain ⟨y1, y2, hW⟩ := hb1; have y10 := y1.cell 1 (v := .slice A2 c.names.length c2) rfl; have y11 := y2.cell 1 (v := .slice B2 d.names.length d2) rfl; cases b1) | (go_at_call 82; (with_reducible refine (k2 w1 hw1).mono ?_); rintro e w2 ⟨b2, rfl, hw2⟩; have hb2 := hw2; obtain ⟨y3, y4, hW2⟩ := hb2; have y20 := y3.cell 2 (v := .slice A3 c.alts.length c3) rfl; have y21 := y4.cell 2 (v := .slice B3 d.alts.length d3) rfl; cases b2))
  all_goals try
    (go_ret
     first | exact anyBool.mk hW2 | exact anyBool.mk hW)
  go_loopw [33] (fun i wr => SmR c.alts.length w #[.slice A1 c.toks.length c1, .slice A2 c.names.length c2, .slice A3 c.alts.length c3] #[.slice B1 d.toks.length d1, .slice B2 d.names.length d2, .slice B3 d.alts.length d3] i wr) (fun i _ => c.alts.length - (intOf i).toNat)
  case atStart => exact ⟨⟨0, Nat.zero_le _, rfl⟩, hw2⟩
  case round =>
    clear hw1 hw2 y1 y2 y3 y4 y10 y11 y20 y21 hW hW2 x0 x1 k1 k2
    obtain ⟨⟨k, hk, rfl⟩, hB⟩ := hrel
    have hB0 := hB
    obtain ⟨y1, y2, hW⟩ := hB0
    have y20 := y1.cell 2 (v := .slice A3 c.alts.length c3) rfl
    have y21 := y2.cell 2 (v := .slice B3 d.alts.length d3) rfl
    by_cases hlt : k < c.alts.length
    · have hlt2 : k < d.alts.length := by have := HL.out; omega
      obtain ⟨x, hx⟩ := at_lt c.alts hlt
      obtain ⟨y, hy⟩ := at_lt d.alts hlt2
      obtain ⟨ad, X, p, rfl, hcell, g1, g2, g3, g4⟩ := (hr3.below hW).slice hx
      obtain ⟨bd, Y, q, rfl, hcell2, g5, g6, g7, g8⟩ := (hs3.below hW).slice hy
      by_cases hxl : x.length = y.length
      · obtain ⟨q5, q6, q7, q8⟩ := cmp_eq hxl
        have HXL := Lib.hid hxl; clear hxl
        have HX := Lib.hid hx; clear hx
        have HY := Lib.hid hy; clear hy
        go_wp2
        go_quiet (fail)
        go_wp2
        go_loopw [55] (fun i wr => SmR x.length w #[.slice A1 c.toks.length c1, .slice A2 c.names.length c2, .slice (some ad) c.alts.length c3] #[.slice B1 d.toks.length d1, .slice B2 d.names.length d2, .slice (some bd) d.alts.length d3] i wr) (fun i _ => x.length - (intOf i).toNat)
        case atStart => exact ⟨⟨0, Nat.zero_le _, rfl⟩, hB.below (below_drewN (Below.refl _ _) _)⟩
        case round =>
          clear y1 y2 hW y20 y21 hB hcell hcell2 g4 g8
          obtain ⟨⟨j, hj, rfl⟩, hB⟩ := hrel
          have hB0 := hB
          obtain ⟨y1, y2, hW⟩ := hB0
          have y20 := y1.cell 2 (v := .slice (some ad) c.alts.length c3) rfl
          have y21 := y2.cell 2 (v := .slice (some bd) d.alts.length d3) rfl
          obtain ⟨ad', X', p', e, hcell, _, _, _, g4⟩ := (hr3.below hW).slice HX.out
          obtain ⟨bd', Y', q', e', hcell2, _, _, _, g8⟩ := (hs3.below hW).slice HY.out
          cases e
          cases e'
          by_cases hlt3 : j < x.length
          · have hlt4 : j < y.length := by have := HXL.out; omega
            obtain ⟨a, ha⟩ := at_lt x hlt3
            obtain ⟨b, hb⟩ := at_lt y hlt4
            obtain ⟨ae, Z, r, rfl, hcell3, t1, t2, t3, t4⟩ := g4.slice ha
            obtain ⟨be, Z', r', rfl, hcell4, t5, t6, t7, t8⟩ := g8.slice hb
            clear ha hb
            have hcall : ∀ n, Calls Try.prog 22 #[.slice Z a.length r, .slice Z' b.length r'] (wr.drewN n) fun e w' => e = .returned (.bool (decide (a = b))) ∧ Drawn (wr.drewN n) w' :=
              fun n => sameInts_calls _ _ a b _ (Sl.drewN ⟨Z, r, rfl, t1, t2, t3, t4⟩ n) (Sl.drewN ⟨Z', r', rfl, t5, t6, t7, t8⟩ n)
            generalize decide (a = b) = bb at hcall
            cases bb
            · go_wp2
              go_quiet ((go_at_call 22; exact Calls.quiet (hcall _)))
              go_wp2
              go_ret
              exact anyBool.mk (below_drewN hW _)
            · go_wp2
              go_quiet ((go_at_call 22; exact Calls.quiet (hcall _)))
              go_wp2
              go_roundw
              case rel => exact ⟨⟨j + 1, by omega, by go_num⟩, hB.below (below_drewN (Below.refl _ _) _)⟩
              case measure => simp [intOf]; omega
          · go_wp2
            go_roundw
            case rel => exact ⟨⟨k + 1, by omega, by go_num⟩, hB⟩
            case measure => simp [intOf]; omega
      · obtain ⟨q5, q6, q7, q8⟩ := cmp_ne hxl
        have HXL := Lib.hid hxl; clear hxl hx hy
        go_wp2
        go_quiet (fail)
        go_wp2
        go_ret
        exact anyBool.mk (below_drewN hW _)
    · go_wp2
      go_ret
      exact anyBool.mk hW
end Go.Proofs.Ytigbfankkmmnbaa
set_option linter.unusedVariables false
set_option linter.unusedSimpArgs false
namespace Go.Proofs.Ytigbfankkmmnbaa
open Go.RowKit Gk

/-- a grammar in shape -/
def CfgOk (c : Cfg) : Prop := c.names.length = c.alts.length ∧ ∀ al ∈ c.alts, RuleIn c al
def NilOr (u : Value) : Prop := u = .slice none 0 0 ∨ ∃ ad n c, u = .slice (some ad) n c
def TokOk (v : Value) : Prop := ∃ a b d, v = .agg #[a, b, d] ∧ NilOr a
def validEnd (c : Cfg) (w : World) (e : Ending) (w' : World) : Prop := ∃ r, e = .returned (.int .i64 r) ∧ Below w.heap.size w w' ∧ (r = 0 → CfgOk c ∧ 0 < c.alts.length)
theorem shape_short {rs : Rules} {al : List (List (List Int))} (h : shapeN rs = shapeI al) (h1 : al.length ≤ 200) (h2 : ∀ x ∈ al, x.length ≤ 200 ∧ ∀ a ∈ x, a.length ≤ 200) : Short3 rs := by
  refine ⟨by have := congrArg List.length h; simp [shapeN, shapeI] at this; omega, fun r hr => ?_⟩
  have h3 : r.2.map (·.length) ∈ shapeI al := by rw [← h]; exact List.mem_map.2 ⟨r, hr, rfl⟩
  obtain ⟨x, hx, e⟩ := List.mem_map.1 h3
  obtain ⟨h4, h5⟩ := h2 x hx
  refine ⟨by have := congrArg List.length e; simp at this; omega, fun a ha => ?_⟩
  have h6 : a.length ∈ x.map (·.length) := by rw [e]; exact List.mem_map.2 ⟨a, ha, rfl⟩
  obtain ⟨y, hy, e2⟩ := List.mem_map.1 h6
  have := h5 y hy; omega
theorem validEnd.bad {c : Cfg} {w w' : World} (h : Below w.heap.size w w') : validEnd c w (.returned (.int .i64 80)) w' := ⟨80, rfl, h, fun h => by cases h⟩

set_option maxRecDepth 100000 in
set_option maxHeartbeats 4000000 in
theorem valid_calls (v : Value) (c : Cfg) (w : World) (h : CfgV w v c) (hu : TokOk v) (hs : Small 200 c) :
    Calls Try.prog 42 #[v] w (validEnd c w) := by
  have h0 := h
  obtain ⟨a0, b0, d0, rfl, h1, h2, h3⟩ := h
  have hu1 : NilOr a0 := by obtain ⟨a, b, d, e, h⟩ := hu; injection e with e; injection e with e; simp only [List.cons.injEq] at e; rw [e.1]; exact h
  obtain ⟨s1, s2⟩ := hs
  have hl1 : c.names.length ≤ 1000000 := by omega
  have hl2 : ∀ al ∈ c.alts, al.length ≤ 1000000 ∧ ∀ a ∈ al, a.length ≤ 1000000 := fun al hal => ⟨by have := (s2 al hal).1; omega, fun a ha => by have := (s2 al hal).2 a ha; omega⟩
  have ht : c.toks.length ≤ 1000 := by omega
  have hsh : ∀ rs, (c.names.length = c.alts.length ∧ shapeN rs = shapeI c.alts ∧ ∀ al ∈ c.alts, RuleIn c al) → Short3 rs := fun rs hh =>
    shape_short hh.2.1 (by have := hh.1; omega) fun al hal => ⟨by have := (s2 al hal).1; omega, fun a ha => by have := (s2 al hal).2 a ha; omega⟩
  have hA := (Below.refl w.heap.size w).alloc (Nat.le_refl _) (.cells #[a0, b0, d0] 25)
  have hB := Box.new w #[a0, b0, d0] 25
  have kb := back_calls _ c _ (h0.below hA) hl1 hl2
  obtain ⟨A1, c1, rfl, hc1, hm1, _, hr1⟩ := id h1
  obtain ⟨A2, c2, rfl, hc2, hm2, _, hr2⟩ := id h2
  obtain ⟨A3, c3, rfl, hc3, hm3, _, hr3⟩ := id h3
  have HH := Lib.hid (And.intro h0 h1)
  clear hr1 hr2 hr3 hl1 hl2 h0 h1 h2 h3 hu s1 s2
  go_enter Try.func42, Try.ntmps42
  go_wp2_with (first | (go_at_call 65; (with_reducible refine kb.mono ?_); rintro e w1 ⟨vr, rs, r, rfl, hW1, hrs, hr01, hok⟩; have hrs0 := hrs; obtain ⟨AR, cR, rfl, _⟩ := hrs0; have hB1 := hB.below hW1; have b10 := hB1.cell 0 (v := .slice A1 c.toks.length c1) rfl; have b11 := hB1.cell 1 (v := .slice A2 c.names.length c2) rfl; have b12 := hB1.cell 2 (v := .slice A3 c.alts.length c3) rfl; have hBW := below2 hA hW1; have hok := Lib.hid hok; have hB1a := hB1.alloc (.cells #[.slice AR rs.length cR] 82); have a10 := hB1a.cell 0 (v := .slice A1 c.toks.length c1) rfl; have a11 := hB1a.cell 1 (v := .slice A2 c.names.length c2) rfl; have a12 := hB1a.cell 2 (v := .slice A3 c.alts.length c3) rfl; rcases icmp_any r 0 with ⟨y1, y2, y3⟩ | ⟨y1, y2, y3⟩) | (go_at_call 66; have hA2 := (Below.refl w1.heap.size w1).alloc (Nat.le_refl _) (.cells #[.slice AR rs.length cR] 82); refine (number_calls _ _ rs c.toks _ (hrs.below hA2) (HH.out.2.below (below2 hBW hA2)) (hsh rs (hok.out y3.out)) ht hu1).mono ?_; rintro e w2 ⟨v2, d2, r2, rfl, hcv2, hW2, hr2p⟩; have HR2 := Lib.hid hr2p; clear hr2p; have hBW2 := below2 (below2 hBW hA2) hW2; have hcv3 := hcv2; obtain ⟨u1, u2, u3, rfl, ⟨W1, e1, rfl, _⟩, ⟨W2, e2, rfl, _⟩, ⟨W3, e3, rfl, _⟩⟩ := hcv3; have hB2 := (hB1.below hA2).below hW2; have b20 := hB2.cell 0 (v := .slice A1 c.toks.length c1) rfl; have b21 := hB2.cell 1 (v := .slice A2 c.names.length c2) rfl; have b22 := hB2.cell 2 (v := .slice A3 c.alts.length c3) rfl; have hB2a := hB2.alloc (.cells #[.slice W1 d2.toks.length e1, .slice W2 d2.names.length e2, .slice W3 d2.alts.length e3] 25); have a20 := hB2a.cell 0 (v := .slice A1 c.toks.length c1) rfl; have a21 := hB2a.cell 1 (v := .slice A2 c.names.length c2) rfl; have a22 := hB2a.cell 2 (v := .slice A3 c.alts.length c3) rfl; rcases icmp_any r2 0 with ⟨z1, z2, z3⟩ | ⟨z1, z2, z3⟩) | (go_at_call 67; have hA3 := (Below.refl w2.heap.size w2).alloc (Nat.le_refl _) (.cells #[.slice W1 d2.toks.length e1, .slice W2 d2.names.length e2, .slice W3 d2.alts.length e3] 25); refine (same_calls _ _ c d2 _ (HH.out.1.below (below2 hBW2 hA3)) (hcv2.below hA3)).mono ?_; rintro e w3 ⟨bb, rfl, hW3⟩; have hBW3 := below2 (below2 hBW2 hA3) hW3; cases bb))
  all_goals
    go_ret
    first
      | exact validEnd.bad hBW3
      | exact ⟨0, rfl, hBW3, fun _ => ⟨⟨(hok.out y3.out).1, (hok.out y3.out).2.2⟩, by have h := congrArg List.length (hok.out y3.out).2.1; have h2 := HR2.out z3.out; simp [shapeN, shapeI] at h; omega⟩⟩
      | exact validEnd.bad (below2 hBW2 ((Below.refl w2.heap.size w2).alloc (Nat.le_refl _) _))
      | exact validEnd.bad (below2 hBW ((Below.refl w1.heap.size w1).alloc (Nat.le_refl _) _))
def IfSmall (b : Bool) (c : Cfg) : Prop := b = true → Small 200 c
/-- what few promises -/
def fewOk (c : Cfg) (w : World) (e : Ending) (w' : World) : Prop := ∃ b, e = .returned (.bool b) ∧ Below w.heap.size w w' ∧ (b = true → Small 200 c ∧ CfgOk c ∧ 0 < c.alts.length)
theorem Small.le {m n : Int} {c : Cfg} (h : Small m c) (hmn : m ≤ n) : Small n c :=
  ⟨by have := h.1; omega, fun al hal => ⟨by have := (h.2 al hal).1; omega, fun a ha => by have := (h.2 al hal).2 a ha; omega⟩⟩
end Go.Proofs.Ytigbfankkmmnbaa
set_option linter.unusedVariables false
set_option linter.unusedSimpArgs false
namespace Gk
open Go Go.RowKit Go.Maps
section
variable {P : Program} {k e t : TypeId}

theorem wfOf {x : Int} (h : Ty.i64 x) : (Lit.int .i64 x).wf = true := by
  unfold Ty.i64 at h
  simp only [Lit.wf, Bool.and_eq_true, decide_eq_true_eq]
  exact h
theorem ofWf {x : Int} (h : (Lit.int .i64 x).wf = true) : Ty.i64 x := by
  simp only [Lit.wf, Bool.and_eq_true, decide_eq_true_eq] at h
  unfold Ty.i64
  exact h
theorem tight {H : Type} {R : Value → Option (DataW H × List MemPlace)} {w : World} {b n : Nat} {D : DataW H} (h : w.ownsMap P k R b n D) : w.ownsMap P k R b (Maps.size D) D := by
  obtain ⟨es, clock, hb, F, _, rfl⟩ := h
  exact ⟨es, clock, hb, F, by simp [Maps.size, length_sorted], rfl⟩
theorem ownsMap_keep {H : Type} {R : Value → Option (DataW H × List MemPlace)} {w w' : World} {b n : Nat} {D : DataW H} (h : w.ownsMap P k R b n D) (hb : w'.heap[b]? = w.heap[b]?) : w'.ownsMap P k R b n D := by
  obtain ⟨es, clock, h1, r⟩ := h
  exact ⟨es, clock, hb.trans h1, r⟩

/-- what the datum of a set of ints says -/
structure SetD (D : DataW Unit) (K : List Int) : Prop where
  nodup : K.Nodup
  i64 : ∀ x ∈ K, Ty.i64 x
  has : ∀ x, Ty.i64 x → Maps.has D (.int .i64 x) = decide (x ∈ K)
  size : Maps.size D = K.length
  at_ : ∀ x, Ty.i64 x → D.atKey (.int .i64 x) (.lit (.bool false)) = .lit (.bool (decide (x ∈ K)))
/-- block b is a set of ints, whose members are K's -/
def SetAt (P : Program) (k e : TypeId) (w : World) (b : Nat) (K : List Int) : Prop := ∃ D : DataW Unit, w.ownsMap P k (plainElem P e) b K.length D ∧ SetD D K
def insK (x : Int) (K : List Int) : List Int := if x ∈ K then K else K ++ [x]
theorem mem_insK {x y : Int} {K : List Int} : y ∈ insK x K ↔ y ∈ K ∨ y = x := by
  unfold insK; split
  · constructor
    · exact .inl
    · rintro (h | rfl) <;> assumption
  · simp
theorem nodup_insK {x : Int} {K : List Int} (h : K.Nodup) : (insK x K).Nodup := by
  unfold insK; split
  · exact h
  · exact nodup_snoc h (by assumption)
theorem SetAt.new (w : World) : SetAt P k e (w.alloc (.map #[] 0)) w.heap.size [] :=
  ⟨_, World.ownsMap_made w P k (plainElem P e), by simp, by simp, fun x _ => by simp [Maps.has], rfl, fun x _ => by simp [DataW.atKey]⟩
theorem SetAt.lt {w : World} {b : Nat} {K : List Int} (h : SetAt P k e w b K) : b < w.heap.size := by obtain ⟨D, h, _⟩ := h; exact h.lt
theorem SetAt.keep {w w' : World} {b : Nat} {K : List Int} (h : SetAt P k e w b K) (hb : w'.heap[b]? = w.heap[b]?) : SetAt P k e w' b K := by
  obtain ⟨D, h, r⟩ := h; exact ⟨D, ownsMap_keep h hb, r⟩
theorem isKey (x : Int) : WideAt.IsKeyLit (.int .i64 x) := by simp [WideAt.IsKeyLit]
theorem SetD.put {D : DataW Unit} {K : List Int} {x : Int} (hD : IsMap D) (hT : Tidy D) (hx : Ty.i64 x) (h : SetD D K) : SetD (D.put (.int .i64 x) (.lit (.bool true))) (insK x K) := by
  refine ⟨nodup_insK h.nodup, fun y hy => ?_, fun y hy => ?_, ?_, fun y hy => ?_⟩
  · rcases mem_insK.1 hy with hy | rfl
    · exact h.i64 y hy
    · exact hx
  · by_cases e : y = x
    · subst e; rw [has_put_same hD (isKey _)]; simp [mem_insK]
    · rw [has_put_other (by intro e'; injection e' with _ e'; exact e e'), h.has y hy]; simp [mem_insK, e]
  · rw [size_put hT, h.has x hx, h.size]
    unfold insK
    by_cases hm : x ∈ K <;> simp [hm]
  · by_cases e : y = x
    · subst e; rw [atKey_put_same hD (isKey _)]; simp [mem_insK]
    · rw [atKey_put_other (by intro e'; injection e' with _ e'; exact e e'), h.at_ y hy]; simp [mem_insK, e]
theorem SetAt.update {w : World} {b : Nat} {K : List Int} (h : SetAt P k e w b K) (hk : P.underlying k = some (.int .i64)) (he : P.underlying e = some .bool) (ht : P.underlying t = some (.map k e)) {x : Int} (hx : Ty.i64 x) (hn : K.length < maxLen) :
    ∃ w', (Instr.mapUpdate t (.map (some b)) (.int .i64 x) (.bool true)).run P w = .ok () w' ∧ SetAt P k e w' b (insK x K) ∧ w.grownBy w' (some b) := by
  obtain ⟨D, h, hS⟩ := h
  obtain ⟨w', h1, h2, h3⟩ := h.update (int_keyed hk) ht hn (keyOf_int_mk hk (wfOf hx)) (plainElem_bool he true)
  have hS' := hS.put h.isMap (h.tidy (int_keyed hk)) hx
  refine ⟨w', h1, ⟨_, ?_, hS'⟩, h3⟩
  rw [← hS'.size]; exact tight h2
theorem SetAt.lookup {w : World} {b : Nat} {K : List Int} (h : SetAt P k e w b K) (hk : P.underlying k = some (.int .i64)) (he : P.underlying e = some .bool) (ht : P.underlying t = some (.map k e)) (hz : (zeroValue e).run P w = .ok (.bool false) w) {x : Int} (hx : Ty.i64 x) :
    (Instr.lookup t (.map (some b)) (.int .i64 x) false).run P w = .ok (.bool (decide (x ∈ K))) w := by
  obtain ⟨D, h, hS⟩ := h
  obtain ⟨v, ps, hr, hv⟩ := h.lookup (int_keyed hk) ht hz (plainElem_bool he false) (keyOf_int_mk hk (wfOf hx))
  rw [hS.at_ x hx] at hv
  have : v = .bool (decide (x ∈ K)) := by
    unfold plainElem at hv; rw [he] at hv
    cases v <;> simp at hv
    rw [hv.1]
  rw [this] at hr; exact hr
theorem SetAt.len {w : World} {b : Nat} {K : List Int} (h : SetAt P k e w b K) (ht : P.underlying t = some (.map k e)) (ty : TypeId) : (Builtin.len_ #[t] ty #[.map (some b)]).run P w = .ok (.int .i64 K.length) w := by
  obtain ⟨D, h, hS⟩ := h
  rw [h.len ht ty, hS.size]
/-- ranging over it: L's are still to come -/
def RangeAt (P : Program) (k e : TypeId) (w : World) (b r : Nat) (K L : List Int) (cnt : Nat) : Prop :=
  ∃ (D : DataW Unit) (left : Lit → Bool), w.ranges P k (plainElem P e) b r K.length D left cnt ∧ SetD D K ∧ (∀ x, Ty.i64 x → left (.int .i64 x) = decide (x ∈ L)) ∧ ∀ x ∈ L, x ∈ K
theorem RangeAt.set {w : World} {b r : Nat} {K L : List Int} {cnt : Nat} (h : RangeAt P k e w b r K L cnt) : SetAt P k e w b K := by
  obtain ⟨D, left, h1, h2, _⟩ := h; exact ⟨D, h1.owns, h2⟩
theorem RangeAt.left_eq {w : World} {b r : Nat} {K L : List Int} {cnt : Nat} (h : RangeAt P k e w b r K L cnt) : w.rangeLeft b r = cnt := by
  obtain ⟨D, left, h1, h2, _⟩ := h; exact h1.left_eq
theorem RangeAt.lt {w : World} {b r : Nat} {K L : List Int} {cnt : Nat} (h : RangeAt P k e w b r K L cnt) : b < w.heap.size ∧ r < w.heap.size ∧ r ≠ b := by
  obtain ⟨D, left, h1, h2, _⟩ := h; exact ⟨h1.owns.lt, h1.lt, h1.ne⟩
theorem RangeAt.keep {w w' : World} {b r : Nat} {K L : List Int} {cnt : Nat} (h : RangeAt P k e w b r K L cnt) (hb : w'.heap[b]? = w.heap[b]?) (hr : w'.heap[r]? = w.heap[r]?) : RangeAt P k e w' b r K L cnt := by
  obtain ⟨D, left, ⟨es, clock, since, seen, c0, h1, F, h2, h3, h4, h5⟩, r⟩ := h
  exact ⟨D, left, ⟨es, clock, since, seen, c0, hb.trans h1, F, h2, h3, hr.trans h4, h5⟩, r⟩
theorem SetAt.range {w : World} {b : Nat} {K : List Int} (h : SetAt P k e w b K) (hk : P.underlying k = some (.int .i64)) (ht : P.underlying t = some (.map k e)) :
    ∃ w', (Instr.range t (.map (some b))).run P w = .ok (.pointer (some ⟨w.heap.size, 0, none⟩)) w' ∧ RangeAt P k e w' b w.heap.size K K K.length ∧ w.grownBy w' none ∧ w'.heap.size = w.heap.size + 1 := by
  obtain ⟨D, h, hS⟩ := h
  obtain ⟨w', h1, h2, h3, h4⟩ := h.range (int_keyed hk) ht
  rw [hS.size] at h2
  exact ⟨w', h1, ⟨D, _, h2, hS, hS.has, fun _ h => h⟩, h3, h4⟩
variable {w : World} {ops : Array Oper} {rest : List Oper} {o : Oper} {a : Act} {Q : Exit → Act → World → Prop}
theorem wpList_range (hg : o.guard = none) (m : Operand) (t k e : TypeId) (b : Nat) (K : List Int) (hop : o.op = Op.range t m) (hk : P.underlying k = some (.int .i64)) (ht : P.underlying t = some (.map k e)) (hm : a.eval m = .map (some b)) (h : SetAt P k e w b K)
    (hK : ∀ w', RangeAt P k e w' b w.heap.size K K K.length → w.grownBy w' none → w'.heap.size = w.heap.size + 1 → wpList P ops Q rest (a.put o.dst (.pointer (some ⟨w.heap.size, 0, none⟩))) w') : wpList P ops Q (o :: rest) a w := by
  refine wpList_plain hg fun K' hK' => ?_
  obtain ⟨w', hrun, r1, r2, r3⟩ := h.range hk ht
  unfold Oper.wp
  simp [execOp, hop, hm, hrun, Result.andThen]
  exact hK' _ _ (hK w' r1 r2 r3)
theorem wpList_next (hg : o.guard = none) (it : Operand) (k e : TypeId) (b r : Nat) (K L : List Int) (cnt : Nat) (hop : o.op = Op.next it false) (hk : P.underlying k = some (.int .i64)) (he : P.underlying e = some .bool) (hit : a.eval it = .pointer (some ⟨r, 0, none⟩)) (h : RangeAt P k e w b r K L cnt)
    (hDone : (∀ x, x ∉ L) → wpList P ops Q rest (a.put o.dst (.tuple #[.bool false])) w)
    (hMore : ∀ (x : Int) (c : Bool) (w' : World) (cnt' : Nat), Ty.i64 x → x ∈ L → x ∈ K → RangeAt P k e w' b r K (L.filter (· ≠ x)) cnt' → cnt' < cnt → w.grownBy w' (some r) → w'.heap.size = w.heap.size →
      (Instr.entry (.pointer (some ⟨r, 0, none⟩))).run P w' = .ok (.tuple #[.int .i64 x, .bool c]) w' → wpList P ops Q rest (a.put o.dst (.tuple #[.bool true, .int .i64 x, .bool c])) w') :
    wpList P ops Q (o :: rest) a w := by
  obtain ⟨D, left, h1, hS, hl, hLK⟩ := h
  refine wpList_next_ranges w hg it hop k (int_keyed hk) (plainElem P e) (Value.int .i64) Value.bool (fun key kl hkey => by obtain ⟨x, rfl, _⟩ := Maps.keyOf_int_inv hk hkey; exact ⟨x, rfl⟩)
    (fun v y hv => by unfold plainElem at hv; rw [he] at hv; cases v <;> simp at hv; exact ⟨_, rfl⟩) b r K.length D left cnt hit h1 (fun h0 hn => hDone fun x hx => ?_) (fun x c kl y w' cnt' hkey hlk hv hat hrg hlt hgr hsz hen => ?_)
  · have := hl x (hS.i64 x (hLK x hx)); rw [hn] at this; simp [hx] at this
  · obtain ⟨x', ex, rfl, hwx⟩ := Maps.keyOf_int_inv hk hkey
    cases ex
    have hx := ofWf hwx
    have hxL : x ∈ L := by have := hl x hx; rw [hlk] at this; simpa using this
    refine hMore x c w' cnt' hx hxL (hLK x hxL) ⟨D, _, hrg, hS, fun z hz => ?_, fun z hz => hLK z (List.mem_filter.1 hz).1⟩ hlt hgr hsz hen
    rw [hl z hz]
    by_cases e : z = x
    · subst e; rw [WideAt.sameKey_self (isKey _)]; simp
    · rw [sameKey_ne (by intro e'; injection e' with _ e'; exact e e')]; simp [e]
theorem wpList_put (hg : o.guard = none) (hdst : o.dst = none) (m x v : Operand) (t k e : TypeId) (b : Nat) (K : List Int) (z : Int) (hop : o.op = Op.mapUpdate t m x v ∨ o.op = Op.insert t m x v) (hk : P.underlying k = some (.int .i64)) (he : P.underlying e = some .bool) (ht : P.underlying t = some (.map k e))
    (hm : a.eval m = .map (some b)) (hx : a.eval x = .int .i64 z) (hv : a.eval v = .bool true) (hz : Ty.i64 z) (h : SetAt P k e w b K) (hn : K.length < maxLen)
    (hK : ∀ w', SetAt P k e w' b (insK z K) → w.grownBy w' (some b) → wpList P ops Q rest a w') : wpList P ops Q (o :: rest) a w := by
  have hput : a.put o.dst undef = a := by rw [hdst]; rfl
  refine wpList_plain hg fun K' hK' => ?_
  obtain ⟨w', hrun, r1, r2⟩ := h.update hk he ht hz hn
  unfold Oper.wp
  rcases hop with hop | hop <;> (simp [execOp, hop, hm, hx, hv, hrun, Result.andThen]; exact hK' _ _ (by rw [hput]; exact hK w' r1 r2))
end
end Gk
set_option linter.unusedVariables false
set_option linter.unusedSimpArgs false
namespace Go.Proofs.Ytigbfankkmmnbaa
open Go.RowKit Gk Go.ChangeShapes Go.WideShapes Go.ChangeAt Go.Deep Go.Joins

/-- whatever is read of a type is of a kind -/
def Rd {α : Type} (T : Ty α) (t : TypeId) : Prop :=
  ∀ {H : Type} {enc : TypeId × Value → H} {w : World} {base : Nat} {sp : Nat → Bool} {held : Bool} {fuel : Nat} {v : Value} {x : DataW H × List MemPlace}, DataW.trod enc Try.prog w base sp held fuel t [v] = some x → (x.1.weights Try.prog t).all (· ≤ reachBytes) = true → ∃ y, T.R w y [v]
theorem rdInt : Rd Ty.int 3 := by
  intro H enc w base sp held fuel v x h _
  obtain ⟨n, e, _, hw⟩ := DataW.trod_int Try.underlying3 h
  injection e with e
  subst e
  exact ⟨n, rfl, ofWf hw⟩
theorem rdStr : Rd Ty.str 9 := by
  intro H enc w base sp held fuel v x h hz
  obtain ⟨s, e, rfl, _⟩ := DataW.trod_string Try.underlying9 h
  injection e with e
  subst e
  refine ⟨s, rfl, ?_⟩
  have := List.all_eq_true.1 hz s.data.toList.length (by simp [DataW.weights])
  have h2 := reachBytes_lt
  simp only [decide_eq_true_eq, Array.length_toList] at this
  show s.data.size ≤ LB
  unfold LB; omega
theorem listOf {α : Type} {R : Nat → α → Prop} : ∀ n : Nat, (∀ i, i < n → ∃ y, R i y) → ∃ ys : List α, ys.length = n ∧ ∀ i y, ys[i]? = some y → R i y := by
  intro n
  induction n with
  | zero => intro _; exact ⟨[], rfl, by simp⟩
  | succ n ih =>
    intro h
    obtain ⟨ys, hl, hy⟩ := ih fun i hi => h i (by omega)
    obtain ⟨z, hz⟩ := h n (by omega)
    refine ⟨ys ++ [z], by simp [hl], fun i y hi => ?_⟩
    by_cases hin : i < n
    · rw [List.getElem?_append_left (by omega)] at hi; exact hy i y hi
    · have := (List.getElem?_eq_some_iff.1 hi).1
      simp at this
      have e : i = n := by omega
      subst e
      rw [List.getElem?_append_right (by omega), hl, Nat.sub_self] at hi
      simp at hi; subst hi; exact hz
theorem mem_weightsAll {H : Type} {e : TypeId} : ∀ (ds : List (DataW H)) (d : DataW H), d ∈ ds → ∀ n ∈ d.weights Try.prog e, n ∈ DataW.weightsAll Try.prog e ds := by
  intro ds
  induction ds with
  | nil => intro d h; simp at h
  | cons a ds ih =>
    intro d h n hn
    rw [DataW.weightsAll, List.mem_append]
    rcases List.mem_cons.1 h with rfl | h
    · exact .inl hn
    · exact .inr (ih d h n hn)
theorem rdSlice {α : Type} {T : Ty α} {t e : TypeId} (ht : Try.prog.underlying t = some (.slice e)) (hc : Try.prog.cellsOf e = 1) (hb : 0 < Try.prog.bytesOf e) (hT : T.sz = 1) (h1 : Rd T e) : Rd (Ty.slice T) t := by
  intro H enc w base sp held fuel v x h hz
  rcases open_slice1 ht hc h with ⟨e1, _⟩ | ⟨a, len, cap, m, n, V, D, Pl, e1, _, hl, hm, hmm, rfl, hx⟩
  · injection e1 with e1
    subst e1
    exact ⟨[], _, rfl, Sl.nil _ _⟩
  · injection e1 with e1
    subst e1
    simp only [DataW.weights, ht] at hz
    rw [List.all_cons, Bool.and_eq_true] at hz
    obtain ⟨z1, z2⟩ := hz
    simp only [List.length_map, List.length_range, decide_eq_true_eq] at z1
    have hlen : len ≤ LB := by
      have h2 := reachBytes_lt
      have h3 : len * 1 ≤ (len + (m - len)) * Try.prog.bytesOf e := Nat.mul_le_mul (by omega) hb
      unfold LB; omega
    have hml : len ≤ m := by rw [hmm]; split <;> omega
    obtain ⟨ys, hyl, hy⟩ := listOf (R := fun i y => T.R w y [V i]) len fun i hi => by
      refine h1 (hx i (by omega)).2 (List.all_eq_true.2 fun q hq => List.all_eq_true.1 z2 q ?_)
      rw [List.mem_append]
      exact .inl (mem_weightsAll _ (D i) (List.mem_map.2 ⟨i, List.mem_range.2 hi, rfl⟩) q hq)
    subst hyl
    refine ⟨ys, _, rfl, some a, cap, rfl, hl, hm, hlen, fun i y hi => ?_⟩
    have hlt := (List.getElem?_eq_some_iff.1 hi).1
    refine ⟨a, [V i], rfl, hy i y hi, fun j u hj => ?_⟩
    match j, hj with
    | 0, hj =>
      simp at hj; subst hj
      rw [hT, Nat.mul_one, Nat.add_zero]
      exact (hx i (by omega)).1
theorem rdInts : Rd (Ty.slice Ty.int) 35 := rdSlice Try.underlying35 (by kernel_rfl) (of_decide_eq_true (by kernel_rfl)) rfl rdInt
theorem rdInts2 : Rd rowsT 32 := rdSlice Try.underlying32 (by kernel_rfl) (of_decide_eq_true (by kernel_rfl)) rfl rdInts
theorem rdInts3 : Rd altsT 23 := rdSlice Try.underlying23 (by kernel_rfl) (of_decide_eq_true (by kernel_rfl)) rfl rdInts2
theorem rdStrs : Rd (Ty.slice Ty.str) 22 := rdSlice Try.underlying22 (by kernel_rfl) (of_decide_eq_true (by kernel_rfl)) rfl rdStr
theorem nilOr_of {H : Type} {enc : TypeId × Value → H} {w : World} {base : Nat} {sp : Nat → Bool} {held : Bool} {fuel : Nat} {v : Value} {x : DataW H × List MemPlace} (h : DataW.trod enc Try.prog w base sp held fuel 22 [v] = some x) : v = .slice none 0 0 ∨ ∃ ad n c, v = .slice (some ad) n c := by
  rcases open_slice1 Try.underlying22 (by kernel_rfl) h with ⟨e1, _⟩ | ⟨a, len, cap, m, n, V, D, Pl, e1, _⟩
  · injection e1 with e1; exact .inl e1
  · injection e1 with e1; exact .inr ⟨_, _, _, e1⟩
theorem nilOr_ints {H : Type} {enc : TypeId × Value → H} {w : World} {base : Nat} {sp : Nat → Bool} {held : Bool} {fuel : Nat} {v : Value} {x : DataW H × List MemPlace} (h : DataW.trod enc Try.prog w base sp held fuel 35 [v] = some x) : v = .slice none 0 0 ∨ ∃ ad n c, v = .slice (some ad) n c := by
  rcases open_slice1 Try.underlying35 (by kernel_rfl) h with ⟨e1, _⟩ | ⟨a, len, cap, m, n, V, D, Pl, e1, _⟩
  · injection e1 with e1; exact .inl e1
  · injection e1 with e1; exact .inr ⟨_, _, _, e1⟩
set_option maxRecDepth 100000 in
/-- a grammar -/
theorem rdCfg {H : Type} {enc : TypeId × Value → H} {w : World} {base b0 : Nat} {sp : Nat → Bool} {held : Bool} {r : Reach} {v : Value} {d : DataW H} {ps : List MemPlace} (hv : Value.okWide Try.prog w r b0 25 v) (h : DataW.Trod enc Try.prog w base sp held 25 v d ps) (hz : (d.weights Try.prog 25).all (· ≤ reachBytes) = true) :
    ∃ c : Cfg, CfgV w v c ∧ TokOk v := by
  obtain ⟨v0, v1, v2, y0, y1, y2, n, rfl, rfl, rfl, k0, k1, k2⟩ := open_agg3 Try.underlying25 (by kernel_rfl) (by kernel_rfl) hv h
  simp only [DataW.weights, Try.underlying25] at hz
  have e : ∀ {t0 t1 t2 : TypeId} {d0 d1 d2 : DataW H}, DataW.weightsEach Try.prog [t0, t1, t2] [d0, d1, d2] = d0.weights Try.prog t0 ++ (d1.weights Try.prog t1 ++ d2.weights Try.prog t2) := by
    intros; simp [DataW.weightsEach]
  simp only [List.map_toArray, List.map_cons, List.map_nil, List.map] at hz
  rw [e, List.all_append, List.all_append, Bool.and_eq_true, Bool.and_eq_true] at hz
  obtain ⟨ts, u0, e0, s0⟩ := rdStrs k0 hz.1
  obtain ⟨ns, u1, e1, s1⟩ := rdStrs k1 hz.2.1
  obtain ⟨aas, u2, e2, s2⟩ := rdInts3 k2 hz.2.2
  injection e0 with e0; injection e1 with e1; injection e2 with e2
  subst e0 e1 e2
  exact ⟨⟨ts, ns, aas⟩, ⟨_, _, _, rfl, s0, s1, s2⟩, _, _, _, rfl, nilOr_of k0⟩
end Go.Proofs.Ytigbfankkmmnbaa
set_option linter.unusedVariables false
set_option linter.unusedSimpArgs false
namespace Go.Proofs.Ytigbfankkmmnbaa
open Go.RowKit Gk

/-- tokens that a list of numbers may stand for -/
inductive Gen (c : Cfg) : List Int → List Int → Prop
  | nil : Gen c [] []
  | tok {k : Int} {s x : List Int} : 0 ≤ k → Gen c s x → Gen c (k :: s) (k :: x)
  | rule {k : Int} {s x y a : List Int} {al : List (List Int)} : k < 0 → c.alts[(-1 - k).toNat]? = some al → a ∈ al → Gen c a x → Gen c s y → Gen c (k :: s) (x ++ y)
theorem Gen.append {c : Cfg} {s x : List Int} (h : Gen c s x) {t y : List Int} (k : Gen c t y) : Gen c (s ++ t) (x ++ y) := by
  induction h with
  | nil => exact k
  | tok h1 _ ih => exact .tok h1 ih
  | rule h1 h2 h3 h4 _ _ ih => rw [List.append_assoc]; exact .rule h1 h2 h3 h4 ih
theorem Gen.split {c : Cfg} : ∀ {s t z : List Int}, Gen c (s ++ t) z → ∃ x y, z = x ++ y ∧ Gen c s x ∧ Gen c t y := by
  intro s
  induction s with
  | nil => intro t z h; exact ⟨[], z, rfl, .nil, h⟩
  | cons k s ih =>
    intro t z h
    rw [List.cons_append] at h
    cases h with
    | tok h1 h2 => obtain ⟨x, y, rfl, h3, h4⟩ := ih h2; exact ⟨k :: x, y, rfl, .tok h1 h3, h4⟩
    | rule h1 h2 h3 h4 h5 => obtain ⟨x, y, rfl, h6, h7⟩ := ih h5; exact ⟨_, y, by rw [List.append_assoc], .rule h1 h2 h3 h4 h6, h7⟩
theorem i64_notneg (k : Int) (h1 : -9223372036854775808 ≤ k) (h2 : k < 0) : bits .xor .i64 (-1) k = -1 - k := by
  show IntKind.i64.wrap ((BitVec.ofInt 64 (-1) ^^^ BitVec.ofInt 64 k).toNat : Int) = _
  have h1' : BitVec.ofInt 64 (-1) = BitVec.allOnes 64 := by decide
  rw [h1', BitVec.allOnes_xor, BitVec.toNat_not, BitVec.toNat_ofInt]
  have e : (k % ((2 ^ 64 : Nat) : Int)).toNat = (k + 18446744073709551616).toNat := by omega
  rw [e]
  have e2 : ((2 ^ 64 - 1 - (k + 18446744073709551616).toNat : Nat) : Int) = -1 - k := by omega
  rw [e2]
  simp [IntKind.wrap, IntKind.bits, IntKind.signed]
  omega
/-- a number of a grammar: what not of it is -/
theorem notOf {k : Int} (h1 : Ty.i64 k) (h2 : k < 0) : ∃ r : Nat, -1 - k = r ∧ bits .xor .i64 (-1) k = r := by
  refine ⟨(-1 - k).toNat, by omega, ?_⟩
  rw [i64_notneg k h1.1 h2]; omega
theorem Sl.tail {w : World} {ad : Addr} {s : List Int} {cU n : Nat} (h : Sl Ty.int w (.slice (some ad) s.length cU) s) (hn : n < s.length) : Sl Ty.int w (.slice (if cU = n + 1 then some ad else some ⟨ad.block, ad.off + (n + 1), none⟩) (s.length - (n + 1)) (cU - (n + 1))) (s.drop (n + 1)) := by
  obtain ⟨A, c, e, h1, h2, h3, h4⟩ := h
  injection e with e1 e2 e3
  subst e1 e3
  refine ⟨_, _, by rw [List.length_drop], by rw [List.length_drop]; omega, by omega, by rw [List.length_drop]; omega, ?_⟩
  split
  · have : s.drop (n + 1) = [] := List.drop_eq_nil_of_le (by omega)
    rw [this]; exact Row.nil _ _ _
  · have h5 := h4.drop (n + 1)
    have e : ad.add ((n + 1) * Ty.int.sz) = ⟨ad.block, ad.off + (n + 1), none⟩ := by
      show Addr.add _ ((n + 1) * 1) = _
      rw [Addr.add, if_neg (by omega)]; simp
    rw [e] at h5; exact h5
theorem drop_at {α : Type} {l : List α} {n : Nat} {x : α} (h : l[n]? = some x) : l.drop n = x :: l.drop (n + 1) := by
  obtain ⟨h1, e⟩ := List.getElem?_eq_some_iff.1 h
  rw [List.drop_eq_getElem_cons h1, e]
theorem laidOut : laidOutB Try.prog = true := by kernel_rfl
end Go.Proofs.Ytigbfankkmmnbaa
set_option linter.unusedVariables false
set_option linter.unusedSimpArgs false
namespace Go.Proofs.Ytigbfankkmmnbaa
open Go.RowKit Gk

def isN (out : List Bool) (k : Int) : Bool := decide (k < 0) && (out[(-1 - k).toNat]?).getD false
def emptyP (out : List Bool) (a : List Int) : Bool := a.all (isN out)
def NulI (c : Cfg) (out : List Bool) : Prop := out.length = c.alts.length ∧ ∀ r : Nat, out[r]? = some true → ∃ al a, c.alts[r]? = some al ∧ a ∈ al ∧ Gen c a []
def NulC (c : Cfg) (out : List Bool) : Prop := ∀ (r : Nat) al a, c.alts[r]? = some al → a ∈ al → emptyP out a = true → out[r]? = some true
theorem isN_at {out : List Bool} {k : Int} (h : isN out k = true) : k < 0 ∧ out[(-1 - k).toNat]? = some true := by
  unfold isN at h
  rw [Bool.and_eq_true, decide_eq_true_eq] at h
  refine ⟨h.1, ?_⟩
  cases e : out[(-1 - k).toNat]? with
  | none => rw [e] at h; simp at h
  | some b => rw [e] at h; simpa using h.2
theorem empty_sound {c : Cfg} {out : List Bool} (h : NulI c out) : ∀ a : List Int, emptyP out a = true → Gen c a [] := by
  intro a
  induction a with
  | nil => intro _; exact .nil
  | cons k a ih =>
    intro he
    unfold emptyP at he
    rw [List.all_cons, Bool.and_eq_true] at he
    obtain ⟨hk, hr⟩ := isN_at he.1
    obtain ⟨al, a', h1, h2, h3⟩ := h.2 _ hr
    have := Gen.rule hk h1 h2 h3 (ih he.2)
    simpa using this
theorem empty_complete {c : Cfg} {out : List Bool} (h : NulC c out) {s x : List Int} (hg : Gen c s x) : x = [] → emptyP out s = true := by
  induction hg with
  | nil => intro _; rfl
  | tok _ _ _ => intro e; cases e
  | @rule k s x y a al h1 h2 h3 _ _ ih1 ih2 =>
    intro e
    obtain ⟨e1, e2⟩ := List.append_eq_nil_iff.1 e
    have h4 := h _ al a h2 h3 (ih1 e1)
    unfold emptyP
    rw [List.all_cons, Bool.and_eq_true]
    refine ⟨?_, ih2 e2⟩
    unfold isN
    rw [h4]; simp [h1]
theorem nul_iff {c : Cfg} {out : List Bool} (h : NulI c out) (hc : NulC c out) {r : Nat} (hr : r < c.alts.length) : Gen c [-1 - (r : Int)] [] ↔ out[r]? = some true := by
  have hk : (-1 - (-1 - (r : Int))).toNat = r := by omega
  constructor
  · intro hg
    have := empty_complete hc hg rfl
    unfold emptyP at this
    rw [List.all_cons, Bool.and_eq_true] at this
    have := (isN_at this.1).2
    rwa [hk] at this
  · intro ho
    refine empty_sound h _ ?_
    unfold emptyP isN
    rw [List.all_cons, hk, ho]
    simp; omega
def cntT (out : List Bool) : Nat := out.countP id
theorem cnt_le (out : List Bool) : cntT out ≤ out.length := List.countP_le_length
theorem cnt_all {out : List Bool} (h : out.length ≤ cntT out) : ∀ r : Nat, r < out.length → out[r]? = some true := by
  have h2 : cntT out = out.length := Nat.le_antisymm (cnt_le out) h
  have h3 := List.countP_eq_length.1 h2
  intro r hr
  have := h3 out[r] (List.getElem_mem hr)
  rw [List.getElem?_eq_getElem hr]; simpa using this
theorem cnt_set : ∀ (out : List Bool) (r : Nat), out[r]? = some false → cntT (out.set r true) = cntT out + 1 := by
  intro out
  induction out with
  | nil => intro r h; simp at h
  | cons b out ih =>
    intro r h
    cases r with
    | zero => simp at h; subst h; simp [cntT]
    | succ r =>
      have := ih r (by simpa using h)
      unfold cntT at this ⊢
      rw [List.set_cons_succ, List.countP_cons, List.countP_cons, this]; omega
/-- one step -/
def nulStep (out : List Bool) (r : Nat) (a : List Int) : List Bool := out.set r ((out[r]?).getD false || emptyP out a)
theorem nulStep_inv {c : Cfg} {out : List Bool} (h : NulI c out) {r : Nat} {al : List (List Int)} {a : List Int} (hal : c.alts[r]? = some al) (ha : a ∈ al) : NulI c (nulStep out r a) := by
  have hr : r < out.length := by rw [h.1]; exact (List.getElem?_eq_some_iff.1 hal).1
  refine ⟨by unfold nulStep; simpa using h.1, fun r' hr' => ?_⟩
  unfold nulStep at hr'
  by_cases e : r' = r
  · subst e
    rw [List.getElem?_set_self hr] at hr'
    injection hr' with hr'
    rw [Bool.or_eq_true] at hr'
    rcases hr' with h1 | h1
    · rw [List.getElem?_eq_getElem hr] at h1
      exact h.2 r' (by rw [List.getElem?_eq_getElem hr]; simpa using h1)
    · exact ⟨al, a, hal, ha, empty_sound h a h1⟩
  · rw [List.getElem?_set_ne (fun e' => e e'.symm)] at hr'
    exact h.2 r' hr'
/-- a step that finds nothing leaves all, a step that finds something counts -/
theorem nulStep_cases {out : List Bool} {r : Nat} {a : List Int} (hr : r < out.length) : (nulStep out r a = out ∧ (emptyP out a = true → out[r]? = some true)) ∨ cntT (nulStep out r a) = cntT out + 1 := by
  unfold nulStep
  have hg := List.getElem?_eq_getElem hr
  cases hb : out[r] with
  | true =>
    refine .inl ⟨?_, fun _ => by rw [hg, hb]⟩
    rw [hg, hb]
    apply List.ext_getElem?
    intro i
    by_cases e : i = r
    · subst e; rw [List.getElem?_set_self hr, hg, hb]; rfl
    · rw [List.getElem?_set_ne (fun e' => e e'.symm)]
  | false =>
    rw [hg, hb]
    cases he : emptyP out a with
    | true => exact .inr (cnt_set out r (by rw [hg, hb]))
    | false =>
      refine .inl ⟨?_, fun h => by cases h⟩
      apply List.ext_getElem?
      intro i
      by_cases e : i = r
      · subst e; rw [List.getElem?_set_self hr, hg, hb]; rfl
      · rw [List.getElem?_set_ne (fun e' => e e'.symm)]
theorem gen_toks {c : Cfg} : ∀ (s : List Int), (∀ k ∈ s, 0 ≤ k) → ∀ x, Gen c s x ↔ x = s := by
  intro s
  induction s with
  | nil =>
    intro _ x
    constructor
    · intro h; cases h; rfl
    · rintro rfl; exact .nil
  | cons k s ih =>
    intro h x
    have hk := h k (by simp)
    constructor
    · intro hg
      cases hg with
      | tok _ h2 => rw [(ih (fun k hk => h k (by simp [hk])) _).1 h2]
      | rule h1 _ _ _ _ => omega
    · rintro rfl
      exact .tok hk ((ih (fun k hk => h k (by simp [hk])) s).2 rfl)
end Go.Proofs.Ytigbfankkmmnbaa
