/- Back: a grammar by numbers as one by names; if it answers OK, all numbers are in range. -/
import Derived.Test.YtgjobbapnileiaaGram2
set_option linter.unusedVariables false
set_option linter.unusedSimpArgs false
namespace Go.Proofs.Ytgjobbapnileiaa
open Go.RowKit Gk

/-- a number of a grammar's -/
def InR (c : Cfg) (k : Int) : Prop := (0 ≤ k ∧ k < c.toks.length) ∨ (k < 0 ∧ -1 - k < c.names.length)
def AltIn (c : Cfg) (a : List Int) : Prop := ∀ k ∈ a, InR c k
def RuleIn (c : Cfg) (al : List (List Int)) : Prop := ∀ a ∈ al, AltIn c a
def shapeN (rs : Rules) : List (List Nat) := rs.map fun r => r.2.map (·.length)
def shapeI (l : List (List (List Int))) : List (List Nat) := l.map fun al => al.map (·.length)
def backEnd (c : Cfg) (w : World) (e : Ending) (w' : World) : Prop :=
  ∃ v rs r, e = .returned (.tuple #[.agg #[v], .int .i64 r]) ∧ Below w.heap.size w w' ∧ Sl ruleT w' v rs ∧ (r = 0 ∨ r = 1) ∧
    (r = 0 → c.names.length = c.alts.length ∧ shapeN rs = shapeI c.alts ∧ ∀ al ∈ c.alts, RuleIn c al)

theorem altIn_next {c : Cfg} {a : List Int} {p : Nat} {k : Int} (h : AltIn c (a.take p)) (hk : a[p]? = some k) (hin : InR c k) : AltIn c (a.take (p + 1)) := by
  rw [take_next hk]; intro x hx
  rcases List.mem_append.1 hx with hx | hx
  · exact h x hx
  · simp at hx; subst hx; exact hin
theorem ruleIn_next {c : Cfg} {l : List (List Int)} {p : Nat} {a : List Int} (h : RuleIn c (l.take p)) (ha : l[p]? = some a) (hin : AltIn c a) : RuleIn c (l.take (p + 1)) := by
  rw [take_next ha]; intro x hx
  rcases List.mem_append.1 hx with hx | hx
  · exact h x hx
  · simp at hx; subst hx; exact hin
theorem rules_next {c : Cfg} {l : List (List (List Int))} {p : Nat} {a : List (List Int)} (h : ∀ al ∈ l.take p, RuleIn c al) (ha : l[p]? = some a) (hin : RuleIn c a) : ∀ al ∈ l.take (p + 1), RuleIn c al := by
  rw [take_next ha]; intro x hx
  rcases List.mem_append.1 hx with hx | hx
  · exact h x hx
  · simp at hx; subst hx; exact hin

/-- loop 3: the names of an alternative -/
def Back3 (c : Cfg) (a : List Int) (wp : World) (i o : Value) (wr : World) : Prop :=
  ∃ (p : Nat) (ns : List ByteArray), p ≤ a.length ∧ i = .int .i64 p ∧ Own Ty.str 9 wp.heap.size (fun b => wp.heap.size ≤ b) wr o ns ∧ ns.length = p ∧ AltIn c (a.take p) ∧ Below wp.heap.size wp wr
/-- loop 2: the alternatives of a rule; block b holds it -/
def Back2 (c : Cfg) (x : List (List Int)) (wo : World) (nm : ByteArray) (i : Value) (wr : World) : Prop :=
  ∃ (j : Nat) (v : Value) (ns : List (List ByteArray)), j ≤ x.length ∧ i = .int .i64 j ∧ Box wr wo.heap.size #[.string nm, v] 95 ∧
    Own (Ty.slice Ty.str) 22 (wo.heap.size + 1) (fun b => wo.heap.size + 1 ≤ b) wr v ns ∧ ns.map (·.length) = (x.take j).map (·.length) ∧ RuleIn c (x.take j) ∧ Below wo.heap.size wo wr
/-- loop 1 -/
def Back1 (c : Cfg) (w : World) (C : Array Value) (i : Value) (wr : World) : Prop :=
  ∃ (k : Nat) (v : Value) (rs : Rules), k ≤ c.alts.length ∧ i = .int .i64 k ∧ Box wr w.heap.size C 25 ∧ Box wr (w.heap.size + 1) #[.slice none 0 0] 69 ∧ Box wr (w.heap.size + 1 + 1) #[v] 69 ∧
    Own ruleT 95 (w.heap.size + 3) (fun b => w.heap.size + 3 ≤ b) wr v rs ∧ shapeN rs = shapeI (c.alts.take k) ∧ (∀ al ∈ c.alts.take k, RuleIn c al) ∧ Below w.heap.size w wr ∧ w.heap.size + 3 ≤ wr.heap.size

theorem back_ret {w w' : World} {c : Cfg} {v : Value} {rs : Rules} {r : Int} (h1 : Below w.heap.size w w') (h2 : Sl ruleT w' v rs) (h3 : r = 0 ∨ r = 1)
    (h4 : r = 0 → c.names.length = c.alts.length ∧ shapeN rs = shapeI c.alts ∧ ∀ al ∈ c.alts, RuleIn c al) : backEnd c w (.returned (.tuple #[.agg #[v], .int .i64 r])) w' := ⟨v, rs, r, rfl, h1, h2, h3, h4⟩

set_option maxRecDepth 100000 in
set_option maxHeartbeats 4000000 in
theorem back_calls (v : Value) (c : Cfg) (w : World) (h : CfgV w v c) (hs : c.names.length ≤ 1000000) (hs2 : ∀ al ∈ c.alts, al.length ≤ 1000000 ∧ ∀ a ∈ al, a.length ≤ 1000000) :
    Calls Try.prog 26 #[v] w (backEnd c w) := by
  obtain ⟨a0, b0, d0, rfl, h1, h2, h3⟩ := h
  obtain ⟨A1, c1, rfl, hc1, hm1, hl1, hr1⟩ := h1
  obtain ⟨A2, c2, rfl, hc2, hm2, hl2, hr2⟩ := h2
  obtain ⟨A, cc, rfl, hc, hcm, hlb, hr⟩ := h3
  unfold LB at hlb hl1 hl2
  by_cases hne : c.names.length = c.alts.length
  case neg =>
    obtain ⟨q1, q2, q3, q4⟩ := cmp_ne hne
    have hne := Lib.hid hne
    go_enter Try.func26, Try.ntmps26
    go_wp2
    exact bodyPost_ret (v := .tuple #[.agg #[.slice none 0 0], .int .i64 1]) (by simp [results, Try.results26, go_sem]) rfl
      (back_ret (rs := []) (((Below.refl _ _).alloc (Nat.le_refl _) _).alloc (by simp) _) (Sl.nil _ _) (.inr rfl) (by intro h; cases h))
  obtain ⟨q1, q2, q3, q4⟩ := cmp_eq hne
  have HNE := Lib.hid hne; clear hne
  have HS2 := Lib.hid hs2; clear hs2
  go_enter Try.func26, Try.ntmps26
  go_wp2
  go_loopw [24] (fun i wr => Back1 c w #[.slice A1 c.toks.length c1, .slice A2 c.names.length c2, .slice A c.alts.length cc] i wr) (fun i _ => c.alts.length - (intOf i).toNat)
  case atStart =>
    have e1 : (w.alloc (.cells #[.slice A1 c.toks.length c1, .slice A2 c.names.length c2, .slice A c.alts.length cc] 25)).heap.size = w.heap.size + 1 := by simp
    have e2 : ((w.alloc (.cells #[.slice A1 c.toks.length c1, .slice A2 c.names.length c2, .slice A c.alts.length cc] 25)).alloc (.cells #[.slice none 0 0] 69)).heap.size = w.heap.size + 1 + 1 := by simp
    have b1 := ((Box.new w #[.slice A1 c.toks.length c1, .slice A2 c.names.length c2, .slice A c.alts.length cc] 25).alloc (.cells #[.slice none 0 0] 69)).alloc (.cells #[.slice none 0 0] 69)
    have b2 := (Box.new (w.alloc (.cells #[.slice A1 c.toks.length c1, .slice A2 c.names.length c2, .slice A c.alts.length cc] 25)) #[.slice none 0 0] 69).alloc (.cells #[.slice none 0 0] 69)
    have b4 := Box.new ((w.alloc (.cells #[.slice A1 c.toks.length c1, .slice A2 c.names.length c2, .slice A c.alts.length cc] 25)).alloc (.cells #[.slice none 0 0] 69)) #[.slice none 0 0] 69
    rw [e1] at b2
    rw [e2] at b4
    exact ⟨0, _, [], Nat.zero_le _, rfl, b1, b2, b4, Own.nil _ _ _ _ _, by simp [shapeN, shapeI], by simp, (((Below.refl _ _).alloc (Nat.le_refl _) _).alloc (by simp) _).alloc (by simp; omega) _, by simp⟩
  case round =>
    obtain ⟨k, vG, rs, hk, rfl, hB1, hB2, hB4, hG, hsh, hin, hW, hsz⟩ := hrel
    replace hr := hr.below hW
    replace hr1 := hr1.below hW
    replace hr2 := hr2.below hW
    have hc10 := hB1.cell 0 (v := .slice A1 c.toks.length c1) rfl
    have hc11 := hB1.cell 1 (v := .slice A2 c.names.length c2) rfl
    have hc40 := hB4.cell 0 (v := vG) rfl
    have hc20 := hB2.cell 0 (v := .slice none 0 0) rfl
    have hf2 := hB2.frozen 0
    have hNE := HNE.out
    by_cases hlt : k < c.alts.length
    · obtain ⟨x, hx⟩ := at_lt c.alts hlt
      obtain ⟨nm, hnm⟩ := at_lt c.names (k := k) (by omega)
      obtain ⟨ad, X, px, rfl, hcellA, g1, g2, g3, g4⟩ := hr.slice hx
      obtain ⟨an, rfl, hnms, hcellN⟩ := hr2.str hnm
      have hxs := HS2.out x (List.mem_of_getElem? hx)
      have hx1 := hxs.1
      have HX2 := Lib.hid hxs.2; clear hxs
      have HX := Lib.hid hx; clear hx
      clear hnm
      have hkn : k < c.names.length := by omega
      clear hNE
      obtain ⟨wo, rfl⟩ : ∃ wo : World, wo = wr := ⟨_, rfl⟩
      go_wp2
      go_loopw [37] (fun i wr => Back2 c x wo nm i wr) (fun i _ => x.length - (intOf i).toNat)
      case atStart => exact ⟨0, _, [], Nat.zero_le _, rfl, Box.new _ _ _, Own.nil _ _ _ _ _, by simp, by simp [RuleIn], (Below.refl _ _).alloc (Nat.le_refl _) _⟩
      case round =>
        obtain ⟨j, vX, ns, hj, rfl, hB7, hX, hlen, hin2, hW2⟩ := hrel
        have hsz2 := hW2.size
        replace g4 := g4.below hW2
        have hW20 := below_then hW (by omega) hW2
        by_cases hlt2 : j < x.length
        · obtain ⟨a, ha⟩ := at_lt x hlt2
          obtain ⟨ad2, Y, py, rfl, hcellB, g5, g6, g7, g8⟩ := g4.slice ha
          have ha2 := HX2.out a (List.mem_of_getElem? ha)
          have HA := Lib.hid ha; clear ha
          obtain ⟨wp, rfl⟩ : ∃ wp : World, wp = wr := ⟨_, rfl⟩
          go_wp2
          go_loopw [43, 10] (fun i o wr => Back3 c a wp i o wr) (fun i _ _ => a.length - (intOf i).toNat)
          case atStart => exact ⟨0, [], Nat.zero_le _, rfl, Own.nil _ _ _ _ _, rfl, by simp [AltIn], Below.refl _ _⟩
          case round =>
            obtain ⟨p, nms, hp, rfl, hA, hnl, hin3, hW3⟩ := hrel
            have hsz3 := hW3.size
            have hB11 := (hB1.below hW2).below hW3
            have hc10 := hB11.cell 0 (v := .slice A1 c.toks.length c1) rfl
            have hc11 := hB11.cell 1 (v := .slice (some an) c.names.length c2) rfl
            have hB21 := (hB2.below hW2).below hW3
            have hc20 := hB21.cell 0 (v := .slice none 0 0) rfl
            have hf2 := hB21.frozen 0
            have hr11 := (hr1.below hW2).below hW3
            have hr21 := (hr2.below hW2).below hW3
            replace g8 := g8.below hW3
            by_cases hlt3 : p < a.length
            · obtain ⟨q, hq⟩ := at_lt a hlt3
              obtain ⟨ad3, rfl, hqi, hcellC⟩ := g8.int hq
              unfold Ty.i64 at hqi
              have HQ := Lib.hid hq; clear hq
              have k1 : (nms.length + 1) * 16 ≤ 140737488355328 := by have := ha2; omega
              have HNL := Lib.hid hnl; clear hnl
              have k2 : ∀ b, wr.heap.size ≤ b → wp.heap.size ≤ b := fun b hb => by omega
              by_cases hq0 : 0 ≤ q
              · by_cases hq1 : q < c.toks.length
                · have hinq : InR c q := .inl ⟨hq0, hq1⟩
                  have HIN := Lib.hid hinq; clear hinq
                  obtain ⟨n, rfl⟩ := Int.eq_ofNat_of_zero_le hq0
                  obtain ⟨t, ht⟩ := at_lt c.toks (k := n) (by omega)
                  obtain ⟨at_, rfl, hts, hcellT⟩ := hr11.str ht
                  clear ht
                  go_wp2_with (at_builtin; refine wpList_app (T := Ty.str) (v := u10) (xs := nms) (W := wr) (w0 := wp) (B := wp.heap.size) (D := fun b => wp.heap.size ≤ b) rfl (.tmp 58) (.tmp 64) 22 9 16 rfl elemStr rfl t #[.string t] wr.heap.size rfl rfl hA k2 (str_far _ _ t hts) hW3 hsz3 k1 ?_; intro v1 w1 hown hbel hgr hat)
                  go_roundw
                  case rel => exact ⟨p + 1, _, by omega, by go_num, hown, by simp [HNL.out], altIn_next hin3 HQ.out HIN.out, hbel⟩
                  case measure => simp [intOf]; omega
                · have hbx := (hB21.set 0 (.slice none 0 0)).cell 0 (v := .slice none 0 0) rfl
                  go_wp2
                  exact bodyPost_ret (v := .tuple #[.agg #[.slice none 0 0], .int .i64 1]) (by simp [results, Try.results26, go_sem, hbx]) rfl
                    (back_ret (rs := []) ((below_then hW20 (by omega) hW3).setCell (by simp) _) (Sl.nil _ _) (.inr rfl) (by intro h; cases h))
              · by_cases hq1 : -1 - q < c.names.length
                · have hinq : InR c q := .inr ⟨by omega, hq1⟩
                  have HIN := Lib.hid hinq; clear hinq
                  obtain ⟨t, ht⟩ := at_lt c.names (k := (-1 - q).toNat) (by omega)
                  obtain ⟨at_, e, hts, hcellT⟩ := hr21.str ht
                  cases e
                  clear ht
                  have j1 : 0 ≤ -1 - q := by omega
                  have j2 : q ≤ -1 := by omega
                  have j3 : q < 0 := by omega
                  go_wp2_with (at_builtin; refine wpList_app (T := Ty.str) (v := u10) (xs := nms) (W := wr) (w0 := wp) (B := wp.heap.size) (D := fun b => wp.heap.size ≤ b) rfl (.tmp 77) (.tmp 84) 22 9 16 rfl elemStr rfl t #[.string t] wr.heap.size rfl rfl hA k2 (str_far _ _ t hts) hW3 hsz3 k1 ?_; intro v1 w1 hown hbel hgr hat)
                  go_roundw
                  case rel => exact ⟨p + 1, _, by omega, by go_num, hown, by simp [HNL.out], altIn_next hin3 HQ.out HIN.out, hbel⟩
                  case measure => simp [intOf]; omega
                · have hbx := (hB21.set 0 (.slice none 0 0)).cell 0 (v := .slice none 0 0) rfl
                  go_wp2
                  exact bodyPost_ret (v := .tuple #[.agg #[.slice none 0 0], .int .i64 1]) (by simp [results, Try.results26, go_sem, hbx]) rfl
                    (back_ret (rs := []) ((below_then hW20 (by omega) hW3).setCell (by simp) _) (Sl.nil _ _) (.inr rfl) (by intro h; cases h))
            · have hpa : p = a.length := by omega
              have HNL := Lib.hid hnl; clear hnl
              have HPA := Lib.hid hpa; clear hpa
              obtain ⟨Aa, ca, rfl, hsl⟩ := hA.sl
              have hX1 : Own (Ty.slice Ty.str) 22 (wo.heap.size + 1) (fun b => wo.heap.size + 1 ≤ b) wr vX ns := hX.below hW3
              have hB71 := hB7.below hW3
              have hc71 := hB71.cell 1 (v := vX) rfl
              have hXlt := hX.lt
              have h7lt := hB7.lt
              have k1 : (ns.length + 1) * 24 ≤ 140737488355328 := by
                have := congrArg List.length hlen; simp at this; omega
              have k2 : ∀ b, wr.heap.size ≤ b → wo.heap.size + 1 ≤ b := fun b hb => by omega
              have k3 : Below (wo.heap.size + 1) wp wr := hW3.mono (by omega)
              have k4 : wo.heap.size + 1 ≤ wr.heap.size := by omega
              have k5 : Far (fun b => wo.heap.size + 1 ≤ b ∧ some b ≠ vX.ownBlock) (fun w => (Ty.slice Ty.str).R w nms #[.slice Aa nms.length ca].toList) wr :=
                (hA.far.mono (D' := fun b => wo.heap.size + 1 ≤ b ∧ some b ≠ vX.ownBlock) fun b _ hb => ⟨by omega, fun e => by have := hXlt b e.symm; omega⟩).imp fun w' h => ⟨_, rfl, h⟩
              go_wp2_with (at_builtin; refine wpList_app (T := Ty.slice Ty.str) (v := vX) (xs := ns) (W := wr) (w0 := wp) (B := wo.heap.size + 1) (D := fun b => wo.heap.size + 1 ≤ b) rfl (.tmp 88) (.tmp 90) 93 22 24 rfl elemStrs rfl nms #[.slice Aa nms.length ca] wr.heap.size rfl rfl hX1 k2 k5 k3 k4 k1 ?_; intro v1 w1 hown hbel hgr hat; obtain ⟨Av, cv, rfl, _⟩ := hown.sl; have hB72 := hB71.grown hgr (fun e => by have := hXlt _ e.symm; omega); have hc72 := hB72.cell 1 (v := vX) rfl; have hf72 := hB72.frozen 1)
              go_roundw
              case rel =>
                refine ⟨j + 1, _, ns ++ [nms], by omega, by go_num, hB72.set 1 _, (by simpa using hown.setCell (p := ⟨wo.heap.size, 1, none⟩) (by simp) (.slice Av (ns ++ [nms]).length cv)), ?_, ruleIn_next hin2 HA.out ?_, ?_⟩
                · rw [take_next HA.out, List.map_append, List.map_append, hlen]; simp [HNL.out, HPA.out]
                · have := hin3; rwa [HPA.out, List.take_length] at this
                · exact (hW2.trans (hbel.mono (by omega))).setCell (by simp) _
              case measure => simp [intOf]; omega
        · have hjx : j = x.length := by omega
          have HJX := Lib.hid hjx; clear hjx
          have HLEN := Lib.hid hlen; clear hlen
          have hc70 := hB7.cell 0 (v := .string nm) rfl
          have hc71 := hB7.cell 1 (v := vX) rfl
          have h7lt := hB7.lt
          have hB41 := hB4.below hW2
          have hc40 := hB41.cell 0 (v := vG) rfl
          have hGlt := hG.lt
          have hG1 : Own ruleT 95 (w.heap.size + 3) (fun b => w.heap.size + 3 ≤ b) wr vG rs := hG.below hW2
          have hrl : rs.length = k := by
            have := congrArg List.length hsh; simp [shapeN, shapeI] at this; omega
          have k1 : (rs.length + 1) * 40 ≤ 140737488355328 := by omega
          have HRL := Lib.hid hrl; clear hrl
          have k2 : ∀ b, wr.heap.size ≤ b → w.heap.size + 3 ≤ b := fun b hb => by omega
          have k3 : Below (w.heap.size + 3) wo wr := hW2.mono (by omega)
          have k4 : w.heap.size + 3 ≤ wr.heap.size := by omega
          have k5 : Far (fun b => w.heap.size + 3 ≤ b ∧ some b ≠ vG.ownBlock) (fun w => ruleT.R w (nm, ns) #[.string nm, vX].toList) wr :=
            (hX.far.mono (D' := fun b => w.heap.size + 3 ≤ b ∧ some b ≠ vG.ownBlock) fun b _ hb => ⟨by omega, fun e => by have := hGlt b e.symm; omega⟩).imp fun w' h => rule_mk (x := (nm, ns)) hnms h
          go_wp2_with (at_builtin; refine wpList_app (T := ruleT) (v := vG) (xs := rs) (W := wr) (w0 := wo) (B := w.heap.size + 3) (D := fun b => w.heap.size + 3 ≤ b) rfl (.tmp 95) (.tmp 97) 67 95 40 rfl elemRule rfl (nm, ns) #[.string nm, vX] wr.heap.size rfl rfl hG1 k2 k5 k3 k4 k1 ?_; intro v1 w1 hown hbel hgr hat; obtain ⟨Av, cv, rfl, _⟩ := hown.sl; have hB42 := hB41.grown hgr (fun e => by have := hGlt _ e.symm; omega); have hc42 := hB42.cell 0 (v := vG) rfl; have hf42 := hB42.frozen 0)
          go_roundw
          case rel =>
            have hne : ∀ b, b < w.heap.size + 3 → some b ≠ vG.ownBlock := fun b hb e => by have := hGlt b e.symm; omega
            refine ⟨k + 1, _, rs ++ [(nm, ns)], by omega, by go_num, ((hB1.below hW2).grown hgr (hne _ (by omega))).setOther (by simp; try omega) _, ((hB2.below hW2).grown hgr (hne _ (by omega))).setOther (by simp; try omega) _, hB42.set 0 _, (by simpa using hown.setCell (p := ⟨w.heap.size + 1 + 1, 0, none⟩) (by simp) (.slice Av (rs ++ [(nm, ns)]).length cv)), ?_, rules_next hin HX.out ?_, ?_, ?_⟩
            · have e1 := HLEN.out
              rw [HJX.out, List.take_length] at e1
              have e2 : shapeI (c.alts.take (k + 1)) = shapeI (c.alts.take k) ++ [x.map (·.length)] := by rw [take_next HX.out]; simp [shapeI]
              rw [e2, ← hsh]; simp [shapeN, e1]
            · have := hin2; rwa [HJX.out, List.take_length] at this
            · exact (hW20.grown hgr (by omega) (fun q e => by have := hGlt q e; omega)).setCell (by simp; omega) _
            · simp [World.setCell]; have := hgr.size; omega
          case measure => simp [intOf]; omega
    · clear hNE
      obtain ⟨AG, cG, rfl, hsl⟩ := hG.sl
      have hkn : k = c.alts.length := by omega
      have HK := Lib.hid hkn; clear hkn
      have hbx := (hB2.set 0 (.slice AG rs.length cG)).cell 0 (v := .slice AG rs.length cG) rfl
      go_wp2
      exact bodyPost_ret (v := .tuple #[.agg #[.slice AG rs.length cG], .int .i64 0]) (by simp [results, Try.results26, go_sem, hbx]) rfl
        (back_ret (rs := rs) (hW.setCell (by simp) _) (hG.setCell (p := ⟨w.heap.size + 1, 0, none⟩) (by simp) _).sl (.inl rfl)
          (fun _ => ⟨HNE.out, by rw [hsh, HK.out, List.take_length], by have := hin; rwa [HK.out, List.take_length] at this⟩))
end Go.Proofs.Ytgjobbapnileiaa
