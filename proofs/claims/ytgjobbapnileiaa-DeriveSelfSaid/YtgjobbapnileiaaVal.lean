/- Valid and few: if they answer yes the grammar is in shape. -/
import Derived.Test.YtgjobbapnileiaaBack
import Derived.Test.YtgjobbapnileiaaNum
import Derived.Test.YtgjobbapnileiaaSm
set_option linter.unusedVariables false
set_option linter.unusedSimpArgs false
namespace Go.Proofs.Ytgjobbapnileiaa
open Go.RowKit Gk

/-- a grammar in shape -/
def CfgOk (c : Cfg) : Prop := c.names.length = c.alts.length ∧ ∀ al ∈ c.alts, RuleIn c al
def NilOr (u : Value) : Prop := u = .slice none 0 0 ∨ ∃ ad n c, u = .slice (some ad) n c
def TokOk (v : Value) : Prop := ∃ a b d, v = .agg #[a, b, d] ∧ NilOr a
def validEnd (c : Cfg) (w : World) (e : Ending) (w' : World) : Prop := ∃ r, e = .returned (.int .i64 r) ∧ Below w.heap.size w w' ∧ (r = 0 → CfgOk c ∧ 0 < c.alts.length)
theorem shape_short {rs : Rules} {al : List (List (List Int))} (h : shapeN rs = shapeI al) (h1 : al.length ≤ 200) (h2 : ∀ x ∈ al, x.length ≤ 200 ∧ ∀ a ∈ x, a.length ≤ 200) : Short3 rs := by
  refine ⟨by have := congrArg List.length h; simp [shapeN, shapeI] at this; omega, fun r hr => ?_⟩
  have h3 : r.2.map (·.length) ∈ shapeI al := by rw [← h]; exact List.mem_map.2 ⟨r, hr, rfl⟩
  obtain ⟨x, hx, e⟩ := List.mem_map.1 h3
  obtain ⟨h4, h5⟩ := h2 x hx
  refine ⟨by have := congrArg List.length e; simp at this; omega, fun a ha => ?_⟩
  have h6 : a.length ∈ x.map (·.length) := by rw [e]; exact List.mem_map.2 ⟨a, ha, rfl⟩
  obtain ⟨y, hy, e2⟩ := List.mem_map.1 h6
  have := h5 y hy; omega
theorem validEnd.bad {c : Cfg} {w w' : World} (h : Below w.heap.size w w') : validEnd c w (.returned (.int .i64 80)) w' := ⟨80, rfl, h, fun h => by cases h⟩

set_option maxRecDepth 100000 in
set_option maxHeartbeats 4000000 in
theorem valid_calls (v : Value) (c : Cfg) (w : World) (h : CfgV w v c) (hu : TokOk v) (hs : Small 60 c) :
    Calls Try.prog 17 #[v] w (validEnd c w) := by
  have h0 := h
  obtain ⟨a0, b0, d0, rfl, h1, h2, h3⟩ := h
  have hu1 : NilOr a0 := by obtain ⟨a, b, d, e, h⟩ := hu; injection e with e; injection e with e; simp only [List.cons.injEq] at e; rw [e.1]; exact h
  obtain ⟨s1, s2⟩ := hs
  have hl1 : c.names.length ≤ 1000000 := by omega
  have hl2 : ∀ al ∈ c.alts, al.length ≤ 1000000 ∧ ∀ a ∈ al, a.length ≤ 1000000 := fun al hal => ⟨by have := (s2 al hal).1; omega, fun a ha => by have := (s2 al hal).2 a ha; omega⟩
  have ht : c.toks.length ≤ 1000 := by omega
  have hsh : ∀ rs, (c.names.length = c.alts.length ∧ shapeN rs = shapeI c.alts ∧ ∀ al ∈ c.alts, RuleIn c al) → Short3 rs := fun rs hh =>
    shape_short hh.2.1 (by have := hh.1; omega) fun al hal => ⟨by have := (s2 al hal).1; omega, fun a ha => by have := (s2 al hal).2 a ha; omega⟩
  have hA := (Below.refl w.heap.size w).alloc (Nat.le_refl _) (.cells #[a0, b0, d0] 25)
  have hB := Box.new w #[a0, b0, d0] 25
  have kb := back_calls _ c _ (h0.below hA) hl1 hl2
  obtain ⟨A1, c1, rfl, hc1, hm1, _, hr1⟩ := id h1
  obtain ⟨A2, c2, rfl, hc2, hm2, _, hr2⟩ := id h2
  obtain ⟨A3, c3, rfl, hc3, hm3, _, hr3⟩ := id h3
  have HH := Lib.hid (And.intro h0 h1)
  clear hr1 hr2 hr3 hl1 hl2 h0 h1 h2 h3 hu s1 s2
  go_enter Try.func17, Try.ntmps17
  go_wp2_with (first | (go_at_call 26; (with_reducible refine kb.mono ?_); rintro e w1 ⟨vr, rs, r, rfl, hW1, hrs, hr01, hok⟩; have hrs0 := hrs; obtain ⟨AR, cR, rfl, _⟩ := hrs0; have hB1 := hB.below hW1; have b10 := hB1.cell 0 (v := .slice A1 c.toks.length c1) rfl; have b11 := hB1.cell 1 (v := .slice A2 c.names.length c2) rfl; have b12 := hB1.cell 2 (v := .slice A3 c.alts.length c3) rfl; have hBW := below2 hA hW1; have hok := Lib.hid hok; have hB1a := hB1.alloc (.cells #[.slice AR rs.length cR] 69); have a10 := hB1a.cell 0 (v := .slice A1 c.toks.length c1) rfl; have a11 := hB1a.cell 1 (v := .slice A2 c.names.length c2) rfl; have a12 := hB1a.cell 2 (v := .slice A3 c.alts.length c3) rfl; rcases icmp_any r 0 with ⟨y1, y2, y3⟩ | ⟨y1, y2, y3⟩) | (go_at_call 27; have hA2 := (Below.refl w1.heap.size w1).alloc (Nat.le_refl _) (.cells #[.slice AR rs.length cR] 69); refine (number_calls _ _ rs c.toks _ (hrs.below hA2) (HH.out.2.below (below2 hBW hA2)) (hsh rs (hok.out y3.out)) ht hu1).mono ?_; rintro e w2 ⟨v2, d2, r2, rfl, hcv2, hW2, hr2p⟩; have HR2 := Lib.hid hr2p; clear hr2p; have hBW2 := below2 (below2 hBW hA2) hW2; have hcv3 := hcv2; obtain ⟨u1, u2, u3, rfl, ⟨W1, e1, rfl, _⟩, ⟨W2, e2, rfl, _⟩, ⟨W3, e3, rfl, _⟩⟩ := hcv3; have hB2 := (hB1.below hA2).below hW2; have b20 := hB2.cell 0 (v := .slice A1 c.toks.length c1) rfl; have b21 := hB2.cell 1 (v := .slice A2 c.names.length c2) rfl; have b22 := hB2.cell 2 (v := .slice A3 c.alts.length c3) rfl; have hB2a := hB2.alloc (.cells #[.slice W1 d2.toks.length e1, .slice W2 d2.names.length e2, .slice W3 d2.alts.length e3] 25); have a20 := hB2a.cell 0 (v := .slice A1 c.toks.length c1) rfl; have a21 := hB2a.cell 1 (v := .slice A2 c.names.length c2) rfl; have a22 := hB2a.cell 2 (v := .slice A3 c.alts.length c3) rfl; rcases icmp_any r2 0 with ⟨z1, z2, z3⟩ | ⟨z1, z2, z3⟩) | (go_at_call 28; have hA3 := (Below.refl w2.heap.size w2).alloc (Nat.le_refl _) (.cells #[.slice W1 d2.toks.length e1, .slice W2 d2.names.length e2, .slice W3 d2.alts.length e3] 25); refine (same_calls _ _ c d2 _ (HH.out.1.below (below2 hBW2 hA3)) (hcv2.below hA3)).mono ?_; rintro e w3 ⟨bb, rfl, hW3⟩; have hBW3 := below2 (below2 hBW2 hA3) hW3; cases bb))
  all_goals
    go_ret
    first
      | exact validEnd.bad hBW3
      | exact ⟨0, rfl, hBW3, fun _ => ⟨⟨(hok.out y3.out).1, (hok.out y3.out).2.2⟩, by have h := congrArg List.length (hok.out y3.out).2.1; have h2 := HR2.out z3.out; simp [shapeN, shapeI] at h; omega⟩⟩
      | exact validEnd.bad (below2 hBW2 ((Below.refl w2.heap.size w2).alloc (Nat.le_refl _) _))
      | exact validEnd.bad (below2 hBW ((Below.refl w1.heap.size w1).alloc (Nat.le_refl _) _))
def IfSmall (b : Bool) (c : Cfg) : Prop := b = true → Small 60 c
/-- what few promises -/
def fewOk (c : Cfg) (w : World) (e : Ending) (w' : World) : Prop := ∃ b, e = .returned (.bool b) ∧ Below w.heap.size w w' ∧ (b = true → Small 60 c ∧ CfgOk c ∧ 0 < c.alts.length)
set_option maxRecDepth 100000 in
set_option maxHeartbeats 4000000 in
theorem lawfew_calls (v : Value) (c : Cfg) (w : World) (h : CfgV w v c) (hu : TokOk v) :
    Calls Try.prog 8 #[v] w (fewOk c w) := by
  have h0 := h
  obtain ⟨a0, b0, d0, rfl, h1, h2, h3⟩ := h
  obtain ⟨A1, c1, rfl, hc1, hm1, _, hr1⟩ := h1
  obtain ⟨A2, c2, rfl, hc2, hm2, _, hr2⟩ := h2
  obtain ⟨A3, c3, rfl, hc3, hm3, _, hr3⟩ := h3
  clear hr1 hr2 hr3
  have hA := (Below.refl w.heap.size w).alloc (Nat.le_refl _) (.cells #[.slice A1 c.toks.length c1, .slice A2 c.names.length c2, .slice A3 c.alts.length c3] 25)
  have hB := Box.new w #[.slice A1 c.toks.length c1, .slice A2 c.names.length c2, .slice A3 c.alts.length c3] 25
  have kf := few_calls _ c 60 _ (h0.below hA) (by omega) (by omega)
  go_enter Try.func8, Try.ntmps8
  go_wp2_with (first | (go_at_call 16; (with_reducible refine kf.mono ?_); rintro e w1 ⟨b1, rfl, hW1, hsm⟩; have hB1 := hB.below hW1; have b10 := hB1.cell 0 (v := .slice A1 c.toks.length c1) rfl; have b11 := hB1.cell 1 (v := .slice A2 c.names.length c2) rfl; have b12 := hB1.cell 2 (v := .slice A3 c.alts.length c3) rfl; have hBW := below2 hA hW1; replace hsm : IfSmall b1 c := hsm; cases b1) | (go_at_call 17; refine (valid_calls _ c _ (h0.below hBW) hu (hsm rfl)).mono ?_; rintro e w2 ⟨r, rfl, hW2, hok⟩; have hBW2 := below2 hBW hW2; have hok := Lib.hid hok; rcases icmp_any r 0 with ⟨y1, y2, y3⟩ | ⟨y1, y2, y3⟩))
  all_goals
    go_ret
    first
      | exact ⟨true, rfl, hBW2, fun _ => ⟨hsm rfl, hok.out y3.out⟩⟩
      | exact ⟨false, rfl, hBW2, fun h => by cases h⟩
      | exact ⟨false, rfl, hBW, fun h => by cases h⟩
end Go.Proofs.Ytgjobbapnileiaa
