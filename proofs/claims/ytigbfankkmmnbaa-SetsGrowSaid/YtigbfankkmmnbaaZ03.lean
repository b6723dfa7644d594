/- Back: a grammar by numbers as one by names; if it answers OK, all numbers are in range; fertile: it answers some names; More on kinds: literals; lists without doubles; led: it answers some names. -/
import Derived.Test.YtigbfankkmmnbaaZ02
import Derived.Test.YtigbfankkmmnbaaZ01
set_option linter.unusedVariables false
set_option linter.unusedSimpArgs false
namespace Go.Proofs.Ytigbfankkmmnbaa
open Go.RowKit Gk

/-- a number of a grammar's -/
def InR (c : Cfg) (k : Int) : Prop := (0 ≤ k ∧ k < c.toks.length) ∨ (k < 0 ∧ -1 - k < c.names.length)
def AltIn (c : Cfg) (a : List Int) : Prop := ∀ k ∈ a, InR c k
def RuleIn (c : Cfg) (al : List (List Int)) : Prop := ∀ a ∈ al, AltIn c a
def shapeN (rs : Rules) : List (List Nat) := rs.map fun r => r.2.map (·.length)
def shapeI (l : List (List (List Int))) : List (List Nat) := l.map fun al => al.map (·.length)
def backEnd (c : Cfg) (w : World) (e : Ending) (w' : World) : Prop :=
  ∃ v rs r, e = .returned (.tuple #[.agg #[v], .int .i64 r]) ∧ Below w.heap.size w w' ∧ Sl ruleT w' v rs ∧ (r = 0 ∨ r = 1) ∧
    (r = 0 → c.names.length = c.alts.length ∧ shapeN rs = shapeI c.alts ∧ ∀ al ∈ c.alts, RuleIn c al)

theorem altIn_next {c : Cfg} {a : List Int} {p : Nat} {k : Int} (h : AltIn c (a.take p)) (hk : a[p]? = some k) (hin : InR c k) : AltIn c (a.take (p + 1)) := by
  rw [take_next hk]; intro x hx
  rcases List.mem_append.1 hx with hx | hx
  · exact h x hx
  · simp at hx; subst hx; exact hin
theorem ruleIn_next {c : Cfg} {l : List (List Int)} {p : Nat} {a : List Int} (h : RuleIn c (l.take p)) (ha : l[p]? = some a) (hin : AltIn c a) : RuleIn c (l.take (p + 1)) := by
  rw [take_next ha]; intro x hx
  rcases List.mem_append.1 hx with hx | hx
  · exact h x hx
  · simp at hx; subst hx; exact hin
theorem rules_next {c : Cfg} {l : List (List (List Int))} {p : Nat} {a : List (List Int)} (h : ∀ al ∈ l.take p, RuleIn c al) (ha : l[p]? = some a) (hin : RuleIn c a) : ∀ al ∈ l.take (p + 1), RuleIn c al := by
  rw [take_next ha]; intro x hx
  rcases List.mem_append.1 hx with hx | hx
  · exact h x hx
  · simp at hx; subst hx; exact hin

/-- loop 3: the names of an alternative -/
def Back3 (c : Cfg) (a : List Int) (wp : World) (i o : Value) (wr : World) : Prop :=
  ∃ (p : Nat) (ns : List ByteArray), p ≤ a.length ∧ i = .int .i64 p ∧ Own Ty.str 9 wp.heap.size (fun b => wp.heap.size ≤ b) wr o ns ∧ ns.length = p ∧ AltIn c (a.take p) ∧ Below wp.heap.size wp wr
/-- loop 2: the alternatives of a rule; block b holds it -/
def Back2 (c : Cfg) (x : List (List Int)) (wo : World) (nm : ByteArray) (i : Value) (wr : World) : Prop :=
  ∃ (j : Nat) (v : Value) (ns : List (List ByteArray)), j ≤ x.length ∧ i = .int .i64 j ∧ Box wr wo.heap.size #[.string nm, v] 97 ∧
    Own (Ty.slice Ty.str) 22 (wo.heap.size + 1) (fun b => wo.heap.size + 1 ≤ b) wr v ns ∧ ns.map (·.length) = (x.take j).map (·.length) ∧ RuleIn c (x.take j) ∧ Below wo.heap.size wo wr
/-- loop 1 -/
def Back1 (c : Cfg) (w : World) (C : Array Value) (i : Value) (wr : World) : Prop :=
  ∃ (k : Nat) (v : Value) (rs : Rules), k ≤ c.alts.length ∧ i = .int .i64 k ∧ Box wr w.heap.size C 25 ∧ Box wr (w.heap.size + 1) #[.slice none 0 0] 82 ∧ Box wr (w.heap.size + 1 + 1) #[v] 82 ∧
    Own ruleT 97 (w.heap.size + 3) (fun b => w.heap.size + 3 ≤ b) wr v rs ∧ shapeN rs = shapeI (c.alts.take k) ∧ (∀ al ∈ c.alts.take k, RuleIn c al) ∧ Below w.heap.size w wr ∧ w.heap.size + 3 ≤ wr.heap.size

theorem back_ret {w w' : World} {c : Cfg} {v : Value} {rs : Rules} {r : Int} (h1 : Below w.heap.size w w') (h2 : Sl ruleT w' v rs) (h3 : r = 0 ∨ r = 1)
    (h4 : r = 0 → c.names.length = c.alts.length ∧ shapeN rs = shapeI c.alts ∧ ∀ al ∈ c.alts, RuleIn c al) : backEnd c w (.returned (.tuple #[.agg #[v], .int .i64 r])) w' := ⟨v, rs, r, rfl, h1, h2, h3, h4⟩

set_option maxRecDepth 100000 in
set_option maxHeartbeats 4000000 in
theorem back_calls (v : Value) (c : Cfg) (w : World) (h : CfgV w v c) (hs : c.names.length ≤ 1000000) (hs2 : ∀ al ∈ c.alts, al.length ≤ 1000000 ∧ ∀ a ∈ al, a.length ≤ 1000000) :
    Calls Try.prog 65 #[v] w (backEnd c w) := by
  obtain ⟨a0, b0, d0, rfl, h1, h2, h3⟩ := h
  obtain ⟨A1, c1, rfl, hc1, hm1, hl1, hr1⟩ := h1
  obtain ⟨A2, c2, rfl, hc2, hm2, hl2, hr2⟩ := h2
  obtain ⟨A, cc, rfl, hc, hcm, hlb, hr⟩ := h3
  unfold LB at hlb hl1 hl2
  by_cases hne : c.names.length = c.alts.length
  case neg =>
    obtain ⟨q1, q2, q3, q4⟩ := cmp_ne hne
    have hne := Lib.hid hne
    go_enter Try.func65, Try.ntmps65
    go_wp2
    exact bodyPost_ret (v := .tuple #[.agg #[.slice none 0 0], .int .i64 1]) (by simp [results, Try.results65, go_sem]) rfl
      (back_ret (rs := []) (((Below.refl _ _).alloc (Nat.le_refl _) _).alloc (by simp) _) (Sl.nil _ _) (.inr rfl) (by intro h; cases h))
  obtain ⟨q1, q2, q3, q4⟩ := cmp_eq hne
  have HNE := Lib.hid hne; clear hne
  have HS2 := Lib.hid hs2; clear hs2
  go_enter Try.func65, Try.ntmps65
  go_wp2
  go_loopw [24] (fun i wr => Back1 c w #[.slice A1 c.toks.length c1, .slice A2 c.names.length c2, .slice A c.alts.length cc] i wr) (fun i _ => c.alts.length - (intOf i).toNat)
  case atStart =>
    have e1 : (w.alloc (.cells #[.slice A1 c.toks.length c1, .slice A2 c.names.length c2, .slice A c.alts.length cc] 25)).heap.size = w.heap.size + 1 := by simp
    have e2 : ((w.alloc (.cells #[.slice A1 c.toks.length c1, .slice A2 c.names.length c2, .slice A c.alts.length cc] 25)).alloc (.cells #[.slice none 0 0] 82)).heap.size = w.heap.size + 1 + 1 := by simp
    have b1 := ((Box.new w #[.slice A1 c.toks.length c1, .slice A2 c.names.length c2, .slice A c.alts.length cc] 25).alloc (.cells #[.slice none 0 0] 82)).alloc (.cells #[.slice none 0 0] 82)
    have b2 := (Box.new (w.alloc (.cells #[.slice A1 c.toks.length c1, .slice A2 c.names.length c2, .slice A c.alts.length cc] 25)) #[.slice none 0 0] 82).alloc (.cells #[.slice none 0 0] 82)
    have b4 := Box.new ((w.alloc (.cells #[.slice A1 c.toks.length c1, .slice A2 c.names.length c2, .slice A c.alts.length cc] 25)).alloc (.cells #[.slice none 0 0] 82)) #[.slice none 0 0] 82
    rw [e1] at b2
    rw [e2] at b4
    exact ⟨0, _, [], Nat.zero_le _, rfl, b1, b2, b4, Own.nil _ _ _ _ _, by simp [shapeN, shapeI], by simp, (((Below.refl _ _).alloc (Nat.le_refl _) _).alloc (by simp) _).alloc (by simp; omega) _, by simp⟩
  case round =>
    obtain ⟨k, vG, rs, hk, rfl, hB1, hB2, hB4, hG, hsh, hin, hW, hsz⟩ := hrel
    replace hr := hr.below hW
    replace hr1 := hr1.below hW
    replace hr2 := hr2.below hW
    have hc10 := hB1.cell 0 (v := .slice A1 c.toks.length c1) rfl
    have hc11 := hB1.cell 1 (v := .slice A2 c.names.length c2) rfl
    have hc40 := hB4.cell 0 (v := vG) rfl
    have hc20 := hB2.cell 0 (v := .slice none 0 0) rfl
    have hf2 := hB2.frozen 0
    have hNE := HNE.out
    by_cases hlt : k < c.alts.length
    · obtain ⟨x, hx⟩ := at_lt c.alts hlt
      obtain ⟨nm, hnm⟩ := at_lt c.names (k := k) (by omega)
      obtain ⟨ad, X, px, rfl, hcellA, g1, g2, g3, g4⟩ := hr.slice hx
      obtain ⟨an, rfl, hnms, hcellN⟩ := hr2.str hnm
      have hxs := HS2.out x (List.mem_of_getElem? hx)
      have hx1 := hxs.1
      have HX2 := Lib.hid hxs.2; clear hxs
      have HX := Lib.hid hx; clear hx
      clear hnm
      have hkn : k < c.names.length := by omega
      clear hNE
      obtain ⟨wo, rfl⟩ : ∃ wo : World, wo = wr := ⟨_, rfl⟩
      go_wp2
      go_loopw [37] (fun i wr => Back2 c x wo nm i wr) (fun i _ => x.length - (intOf i).toNat)
      case atStart => exact ⟨0, _, [], Nat.zero_le _, rfl, Box.new _ _ _, Own.nil _ _ _ _ _, by simp, by simp [RuleIn], (Below.refl _ _).alloc (Nat.le_refl _) _⟩
      case round =>
        obtain ⟨j, vX, ns, hj, rfl, hB7, hX, hlen, hin2, hW2⟩ := hrel
        have hsz2 := hW2.size
        replace g4 := g4.below hW2
        have hW20 := below_then hW (by omega) hW2
        by_cases hlt2 : j < x.length
        · obtain ⟨a, ha⟩ := at_lt x hlt2
          obtain ⟨ad2, Y, py, rfl, hcellB, g5, g6, g7, g8⟩ := g4.slice ha
          have ha2 := HX2.out a (List.mem_of_getElem? ha)
          have HA := Lib.hid ha; clear ha
          obtain ⟨wp, rfl⟩ : ∃ wp : World, wp = wr := ⟨_, rfl⟩
          go_wp2
          go_loopw [43, 10] (fun i o wr => Back3 c a wp i o wr) (fun i _ _ => a.length - (intOf i).toNat)
          case atStart => exact ⟨0, [], Nat.zero_le _, rfl, Own.nil _ _ _ _ _, rfl, by simp [AltIn], Below.refl _ _⟩
          case round =>
            obtain ⟨p, nms, hp, rfl, hA, hnl, hin3, hW3⟩ := hrel
            have hsz3 := hW3.size
            have hB11 := (hB1.below hW2).below hW3
            have hc10 := hB11.cell 0 (v := .slice A1 c.toks.length c1) rfl
            have hc11 := hB11.cell 1 (v := .slice (some an) c.names.length c2) rfl
            have hB21 := (hB2.below hW2).below hW3
            have hc20 := hB21.cell 0 (v := .slice none 0 0) rfl
            have hf2 := hB21.frozen 0
            have hr11 := (hr1.below hW2).below hW3
            have hr21 := (hr2.below hW2).below hW3
            replace g8 := g8.below hW3
            by_cases hlt3 : p < a.length
            · obtain ⟨q, hq⟩ := at_lt a hlt3
              obtain ⟨ad3, rfl, hqi, hcellC⟩ := g8.int hq
              unfold Ty.i64 at hqi
              have HQ := Lib.hid hq; clear hq
              have k1 : (nms.length + 1) * 16 ≤ 140737488355328 := by have := ha2; omega
              have HNL := Lib.hid hnl; clear hnl
              have k2 : ∀ b, wr.heap.size ≤ b → wp.heap.size ≤ b := fun b hb => by omega
              by_cases hq0 : 0 ≤ q
              · by_cases hq1 : q < c.toks.length
                · have hinq : InR c q := .inl ⟨hq0, hq1⟩
                  have HIN := Lib.hid hinq; clear hinq
                  obtain ⟨n, rfl⟩ := Int.eq_ofNat_of_zero_le hq0
                  obtain ⟨t, ht⟩ := at_lt c.toks (k := n) (by omega)
                  obtain ⟨at_, rfl, hts, hcellT⟩ := hr11.str ht
                  clear ht
                  go_wp2_with (at_builtin; refine wpList_app (T := Ty.str) (v := u10) (xs := nms) (W := wr) (w0 := wp) (B := wp.heap.size) (D := fun b => wp.heap.size ≤ b) rfl (.tmp 58) (.tmp 64) 22 9 16 rfl elemStr rfl t #[.string t] wr.heap.size rfl rfl hA k2 (str_far _ _ t hts) hW3 hsz3 k1 ?_; intro v1 w1 hown hbel hgr hat)
                  go_roundw
                  case rel => exact ⟨p + 1, _, by omega, by go_num, hown, by simp [HNL.out], altIn_next hin3 HQ.out HIN.out, hbel⟩
                  case measure => simp [intOf]; omega
                · have hbx := (hB21.set 0 (.slice none 0 0)).cell 0 (v := .slice none 0 0) rfl
                  go_wp2
                  exact bodyPost_ret (v := .tuple #[.agg #[.slice none 0 0], .int .i64 1]) (by simp [results, Try.results65, go_sem, hbx]) rfl
                    (back_ret (rs := []) ((below_then hW20 (by omega) hW3).setCell (by simp) _) (Sl.nil _ _) (.inr rfl) (by intro h; cases h))
              · by_cases hq1 : -1 - q < c.names.length
                · have hinq : InR c q := .inr ⟨by omega, hq1⟩
                  have HIN := Lib.hid hinq; clear hinq
                  obtain ⟨t, ht⟩ := at_lt c.names (k := (-1 - q).toNat) (by omega)
                  obtain ⟨at_, e, hts, hcellT⟩ := hr21.str ht
                  cases e
                  clear ht
                  have j1 : 0 ≤ -1 - q := by omega
                  have j2 : q ≤ -1 := by omega
                  have j3 : q < 0 := by omega
                  go_wp2_with (at_builtin; refine wpList_app (T := Ty.str) (v := u10) (xs := nms) (W := wr) (w0 := wp) (B := wp.heap.size) (D := fun b => wp.heap.size ≤ b) rfl (.tmp 77) (.tmp 84) 22 9 16 rfl elemStr rfl t #[.string t] wr.heap.size rfl rfl hA k2 (str_far _ _ t hts) hW3 hsz3 k1 ?_; intro v1 w1 hown hbel hgr hat)
                  go_roundw
                  case rel => exact ⟨p + 1, _, by omega, by go_num, hown, by simp [HNL.out], altIn_next hin3 HQ.out HIN.out, hbel⟩
                  case measure => simp [intOf]; omega
                · have hbx := (hB21.set 0 (.slice none 0 0)).cell 0 (v := .slice none 0 0) rfl
                  go_wp2
                  exact bodyPost_ret (v := .tuple #[.agg #[.slice none 0 0], .int .i64 1]) (by simp [results, Try.results65, go_sem, hbx]) rfl
                    (back_ret (rs := []) ((below_then hW20 (by omega) hW3).setCell (by simp) _) (Sl.nil _ _) (.inr rfl) (by intro h; cases h))
            · have hpa : p = a.length := by omega
              have HNL := Lib.hid hnl; clear hnl
              have HPA := Lib.hid hpa; clear hpa
              obtain ⟨Aa, ca, rfl, hsl⟩ := hA.sl
              have hX1 : Own (Ty.slice Ty.str) 22 (wo.heap.size + 1) (fun b => wo.heap.size + 1 ≤ b) wr vX ns := hX.below hW3
              have hB71 := hB7.below hW3
              have hc71 := hB71.cell 1 (v := vX) rfl
              have hXlt := hX.lt
              have h7lt := hB7.lt
              have k1 : (ns.length + 1) * 24 ≤ 140737488355328 := by
                have := congrArg List.length hlen; simp at this; omega
              have k2 : ∀ b, wr.heap.size ≤ b → wo.heap.size + 1 ≤ b := fun b hb => by omega
              have k3 : Below (wo.heap.size + 1) wp wr := hW3.mono (by omega)
              have k4 : wo.heap.size + 1 ≤ wr.heap.size := by omega
              have k5 : Far (fun b => wo.heap.size + 1 ≤ b ∧ some b ≠ vX.ownBlock) (fun w => (Ty.slice Ty.str).R w nms #[.slice Aa nms.length ca].toList) wr :=
                (hA.far.mono (D' := fun b => wo.heap.size + 1 ≤ b ∧ some b ≠ vX.ownBlock) fun b _ hb => ⟨by omega, fun e => by have := hXlt b e.symm; omega⟩).imp fun w' h => ⟨_, rfl, h⟩
              go_wp2_with (at_builtin; refine wpList_app (T := Ty.slice Ty.str) (v := vX) (xs := ns) (W := wr) (w0 := wp) (B := wo.heap.size + 1) (D := fun b => wo.heap.size + 1 ≤ b) rfl (.tmp 88) (.tmp 90) 95 22 24 rfl elemStrs rfl nms #[.slice Aa nms.length ca] wr.heap.size rfl rfl hX1 k2 k5 k3 k4 k1 ?_; intro v1 w1 hown hbel hgr hat; obtain ⟨Av, cv, rfl, _⟩ := hown.sl; have hB72 := hB71.grown hgr (fun e => by have := hXlt _ e.symm; omega); have hc72 := hB72.cell 1 (v := vX) rfl; have hf72 := hB72.frozen 1)
              go_roundw
              case rel =>
                refine ⟨j + 1, _, ns ++ [nms], by omega, by go_num, hB72.set 1 _, (by simpa using hown.setCell (p := ⟨wo.heap.size, 1, none⟩) (by simp) (.slice Av (ns ++ [nms]).length cv)), ?_, ruleIn_next hin2 HA.out ?_, ?_⟩
                · rw [take_next HA.out, List.map_append, List.map_append, hlen]; simp [HNL.out, HPA.out]
                · have := hin3; rwa [HPA.out, List.take_length] at this
                · exact (hW2.trans (hbel.mono (by omega))).setCell (by simp) _
              case measure => simp [intOf]; omega
        · have hjx : j = x.length := by omega
          have HJX := Lib.hid hjx; clear hjx
          have HLEN := Lib.hid hlen; clear hlen
          have hc70 := hB7.cell 0 (v := .string nm) rfl
          have hc71 := hB7.cell 1 (v := vX) rfl
          have h7lt := hB7.lt
          have hB41 := hB4.below hW2
          have hc40 := hB41.cell 0 (v := vG) rfl
          have hGlt := hG.lt
          have hG1 : Own ruleT 97 (w.heap.size + 3) (fun b => w.heap.size + 3 ≤ b) wr vG rs := hG.below hW2
          have hrl : rs.length = k := by
            have := congrArg List.length hsh; simp [shapeN, shapeI] at this; omega
          have k1 : (rs.length + 1) * 40 ≤ 140737488355328 := by omega
          have HRL := Lib.hid hrl; clear hrl
          have k2 : ∀ b, wr.heap.size ≤ b → w.heap.size + 3 ≤ b := fun b hb => by omega
          have k3 : Below (w.heap.size + 3) wo wr := hW2.mono (by omega)
          have k4 : w.heap.size + 3 ≤ wr.heap.size := by omega
          have k5 : Far (fun b => w.heap.size + 3 ≤ b ∧ some b ≠ vG.ownBlock) (fun w => ruleT.R w (nm, ns) #[.string nm, vX].toList) wr :=
            (hX.far.mono (D' := fun b => w.heap.size + 3 ≤ b ∧ some b ≠ vG.ownBlock) fun b _ hb => ⟨by omega, fun e => by have := hGlt b e.symm; omega⟩).imp fun w' h => rule_mk (x := (nm, ns)) hnms h
          go_wp2_with (at_builtin; refine wpList_app (T := ruleT) (v := vG) (xs := rs) (W := wr) (w0 := wo) (B := w.heap.size + 3) (D := fun b => w.heap.size + 3 ≤ b) rfl (.tmp 95) (.tmp 97) 80 97 40 rfl elemRule rfl (nm, ns) #[.string nm, vX] wr.heap.size rfl rfl hG1 k2 k5 k3 k4 k1 ?_; intro v1 w1 hown hbel hgr hat; obtain ⟨Av, cv, rfl, _⟩ := hown.sl; have hB42 := hB41.grown hgr (fun e => by have := hGlt _ e.symm; omega); have hc42 := hB42.cell 0 (v := vG) rfl; have hf42 := hB42.frozen 0)
          go_roundw
          case rel =>
            have hne : ∀ b, b < w.heap.size + 3 → some b ≠ vG.ownBlock := fun b hb e => by have := hGlt b e.symm; omega
            refine ⟨k + 1, _, rs ++ [(nm, ns)], by omega, by go_num, ((hB1.below hW2).grown hgr (hne _ (by omega))).setOther (by simp; try omega) _, ((hB2.below hW2).grown hgr (hne _ (by omega))).setOther (by simp; try omega) _, hB42.set 0 _, (by simpa using hown.setCell (p := ⟨w.heap.size + 1 + 1, 0, none⟩) (by simp) (.slice Av (rs ++ [(nm, ns)]).length cv)), ?_, rules_next hin HX.out ?_, ?_, ?_⟩
            · have e1 := HLEN.out
              rw [HJX.out, List.take_length] at e1
              have e2 : shapeI (c.alts.take (k + 1)) = shapeI (c.alts.take k) ++ [x.map (·.length)] := by rw [take_next HX.out]; simp [shapeI]
              rw [e2, ← hsh]; simp [shapeN, e1]
            · have := hin2; rwa [HJX.out, List.take_length] at this
            · exact (hW20.grown hgr (by omega) (fun q e => by have := hGlt q e; omega)).setCell (by simp; omega) _
            · simp [World.setCell]; have := hgr.size; omega
          case measure => simp [intOf]; omega
    · clear hNE
      obtain ⟨AG, cG, rfl, hsl⟩ := hG.sl
      have hkn : k = c.alts.length := by omega
      have HK := Lib.hid hkn; clear hkn
      have hbx := (hB2.set 0 (.slice AG rs.length cG)).cell 0 (v := .slice AG rs.length cG) rfl
      go_wp2
      exact bodyPost_ret (v := .tuple #[.agg #[.slice AG rs.length cG], .int .i64 0]) (by simp [results, Try.results65, go_sem, hbx]) rfl
        (back_ret (rs := rs) (hW.setCell (by simp) _) (hG.setCell (p := ⟨w.heap.size + 1, 0, none⟩) (by simp) _).sl (.inl rfl)
          (fun _ => ⟨HNE.out, by rw [hsh, HK.out, List.take_length], by have := hin; rwa [HK.out, List.take_length] at this⟩))
end Go.Proofs.Ytigbfankkmmnbaa
set_option linter.unusedVariables false
set_option linter.unusedSimpArgs false
namespace Go.Proofs.Ytigbfankkmmnbaa
open Go.RowKit Gk

/-- a grammar's lists are short -/
def Short3 (rs : Rules) : Prop := rs.length ≤ 200 ∧ ∀ r ∈ rs, r.2.length ≤ 200 ∧ ∀ a ∈ r.2, a.length ≤ 200
def FertR (w : World) (D : Nat → Prop) (k j p : Nat) (o : Value) (wr : World) : Prop :=
  ∃ xs : List ByteArray, Own Ty.str 9 (w.heap.size + 1) D wr o xs ∧ xs.length ≤ 1000 + k * 1000000 + j * 1000 + p ∧ Below w.heap.size w wr ∧ w.heap.size + 1 ≤ wr.heap.size

set_option maxRecDepth 100000 in
set_option maxHeartbeats 4000000 in
theorem fertile_calls (v u : Value) (rs : Rules) (ts : List ByteArray) (w : World) (h : Sl ruleT w v rs) (h' : Sl Ty.str w u ts) (hs : Short3 rs) (ht : ts.length ≤ 1000) (hu : u = .slice none 0 0 ∨ ∃ ad n c, u = .slice (some ad) n c) :
    Calls Try.prog 91 #[.agg #[v], u] w (gives Ty.str w (fun _ => True)) := by
  obtain ⟨A, c, rfl, hc, hcm, hlb, hr⟩ := h
  unfold LB at hlb
  have hs1 := hs.1
  have HS := Lib.hid hs.2; clear hs
  have hWa : Below w.heap.size w (w.alloc (.cells #[.slice A rs.length c] 82)) := (Below.refl _ _).alloc (Nat.le_refl _) _
  have hbox := Box.new w #[.slice A rs.length c] 82
  have k0 : (w.alloc (.cells #[.slice A rs.length c] 82)).heap.size = w.heap.size + 1 := by simp
  have hY : ∀ y x, y ∈ ts → Ty.str.R (w.alloc (.cells #[.slice A rs.length c] 82)) y [x] → Far (fun b => w.heap.size + 1 ≤ b ∧ some b ≠ (Value.slice none 0 0).ownBlock) (fun w => Ty.str.R w y [x]) (w.alloc (.cells #[.slice A rs.length c] 82)) := fun y x _ h w2 _ _ => h
  have hWb : Below (w.heap.size + 1) (w.alloc (.cells #[.slice A rs.length c] 82)) (w.alloc (.cells #[.slice A rs.length c] 82)) := Below.refl _ _
  go_enter Try.func91, Try.ntmps91
  go_wp2_with (at_builtin; refine wpList_appAll (T := Ty.str) (v := .slice none 0 0) (xs := []) (W := w.alloc (.cells #[.slice A rs.length c] 82)) (w0 := w.alloc (.cells #[.slice A rs.length c] 82)) (B := w.heap.size + 1) (D := fun b => w.heap.size + 1 ≤ b) rfl (.const (.slice none 0 0)) (.tmp 10) 22 9 16 rfl elemStr rfl rfl u ts rfl (Own.nil _ _ _ _ _) (fun b hb => by simpa using hb) (h'.below hWa) hY hu hWb (by simp) (by simp; omega) ?_; intro v1 w1 hown hbel hgr hat; have hc20 := (hbox.keep (hbel.block _ (by omega))).cell 0 (v := .slice A rs.length c) rfl)

  have hW1 : Below w.heap.size w w1 := hWa.trans (hbel.mono (by omega))
  have hs3 : w.heap.size + 1 ≤ w1.heap.size := by have := hbel.size; omega
  go_loopw [15, 5] (fun i o wr => ∃ k : Nat, k ≤ rs.length ∧ i = .int .i64 k ∧ FertR w (fun b => w.heap.size + 1 ≤ b) k 0 0 o wr ∧ Box wr w.heap.size #[.slice A rs.length c] 82) (fun i _ _ => rs.length - (intOf i).toNat)
  case atStart => exact ⟨0, Nat.zero_le _, rfl, ⟨_, hown, by simp; omega, hW1, hs3⟩, hbox.keep (hbel.block _ (by omega))⟩
  case round =>
    obtain ⟨k, hk, rfl, ⟨xs, hO, hxl, hW, hsz⟩, hB2⟩ := hrel
    have hr0 := Lib.hid hr
    have hrw := hr.below hW
    have hB2w := hB2
    have hc2 := hB2.cell 0 (v := .slice A rs.length c) rfl
    by_cases hlt : k < rs.length
    · obtain ⟨wo, rfl⟩ : ∃ wo : World, wo = wr := ⟨_, rfl⟩
      go_wp2
      go_loopw [20, 5] (fun i o wr => ∃ j : Nat, j ≤ rs.length ∧ i = .int .i64 j ∧ FertR w (fun b => w.heap.size + 1 ≤ b) k j 0 o wr ∧ Box wr w.heap.size #[.slice A rs.length c] 82) (fun i _ _ => rs.length - (intOf i).toNat)
      case atStart => exact ⟨0, Nat.zero_le _, rfl, ⟨xs, hO, by omega, hW, hsz⟩, hB2⟩
      case round =>
        clear hO hxl hB2 hsz hW hc2
        obtain ⟨j, hj, rfl, ⟨xs, hO, hxl, hW, hsz⟩, hB2⟩ := hrel
        have hsz2 : wo.heap.size ≤ wr.heap.size ∨ True := .inr trivial
        by_cases hlt2 : j < rs.length
        · obtain ⟨x, hx⟩ := at_lt rs hlt2
          obtain ⟨ad, B, c2, rfl, hcell0, hcell1, hx1, g1, g2, g3, g4⟩ := Row.rule hr0.out hx
          replace hcell0 := cell_far hcell0 hW.block
          replace hcell1 := cell_far hcell1 hW.block
          have hxs := HS.out x (List.mem_of_getElem? hx)
          have hx2 := hxs.1
          clear hx hxs
          have hboxX := Box.new wr #[.string x.1, .slice B x.2.length c2] 97
          have hWa := hW.alloc (by omega) (.cells #[.string x.1, .slice B x.2.length c2] 97)
          have hB2a := hB2.alloc (.cells #[.string x.1, .slice B x.2.length c2] 97)
          have hOa := (hO.mono (D' := fun b => w.heap.size + 1 ≤ b ∧ b ≠ wr.heap.size) (fun b hb h => ⟨h, by omega⟩)).alloc (.cells #[.string x.1, .slice B x.2.length c2] 97)
          have hsza : w.heap.size + 1 ≤ (wr.alloc (.cells #[.string x.1, .slice B x.2.length c2] 97)).heap.size := by simp; omega
          have G4 := Lib.hid g4
          clear g4
          obtain ⟨wp, rfl⟩ : ∃ wp : World, wp = wr := ⟨_, rfl⟩
          clear hrw hB2w
          go_wp2
          go_loopw [27, 5] (fun i o wr => ∃ p : Nat, p ≤ x.2.length ∧ i = .int .i64 p ∧ FertR w (fun b => w.heap.size + 1 ≤ b ∧ b ≠ wp.heap.size) k j p o wr ∧ Box wr w.heap.size #[.slice (some ad) rs.length c] 82 ∧ Box wr wp.heap.size #[.string x.1, .slice B x.2.length c2] 97) (fun i _ _ => x.2.length - (intOf i).toNat)
          case atStart => exact ⟨0, Nat.zero_le _, rfl, ⟨xs, hOa, by omega, hWa, hsza⟩, hB2a, hboxX⟩
          case round =>
            clear hOa hWa hB2a hboxX hsza hcell0 hcell1 hO hxl hW hsz hB2
            obtain ⟨p, hp, rfl, ⟨ys, hO, hyl, hW, hsz⟩, hB2, hB7⟩ := hrel
            have g4 := G4.out.below hW
            have hc7 := hB7.cell 0 (v := .string x.1) rfl
            by_cases hlt3 : p < x.2.length
            · obtain ⟨y, hy⟩ := at_lt x.2 hlt3
              obtain ⟨ad2, Y, c3, rfl, hcell2, g5, g6, g7, g8⟩ := g4.slice hy
              clear hy
              have hall := all_calls (.slice Y y.length c3) u5 y ys wr ⟨Y, c3, rfl, g5, g6, g7, g8⟩ hO.sl
              have hhas := has_calls u5 ys x.1 wr hO.sl
              by_cases e1 : ∀ z ∈ y, z ∈ ys
              · rw [dec_true e1] at hall
                have := Lib.hid e1; clear e1
                by_cases e2 : x.1 ∈ ys
                · rw [dec_true e2] at hhas
                  have := Lib.hid e2; clear e2
                  go_wp2_with (first | (go_at_call 104; refine hall.mono ?_; rintro e w' ⟨rfl, rfl⟩) | (go_at_call 78; refine hhas.mono ?_; rintro e w' ⟨rfl, rfl⟩))
                  go_roundw
                  case rel => exact ⟨p + 1, by omega, by go_num, ⟨ys, hO, by omega, hW, hsz⟩, hB2, hB7⟩
                  case measure => simp [intOf]; omega
                · rw [dec_false e2] at hhas
                  have := Lib.hid e2; clear e2
                  have k1 : (ys.length + 1) * 16 ≤ 140737488355328 := by omega
                  have h7lt := hB7.lt
                  have k2 : ∀ b, wr.heap.size ≤ b → w.heap.size + 1 ≤ b ∧ b ≠ wp.heap.size := fun b hb => by omega
                  have hOin := hO.inD
                  have k3 : Below (w.heap.size + 1) wr wr := Below.refl _ _
                  have hOlt := hO.lt
                  go_wp2_with (first | (go_at_call 104; refine hall.mono ?_; rintro e w' ⟨rfl, rfl⟩) | (go_at_call 78; refine hhas.mono ?_; rintro e w' ⟨rfl, rfl⟩) | (at_builtin; refine wpList_app (T := Ty.str) (v := u5) (xs := ys) (W := wr) (w0 := wr) (B := w.heap.size + 1) (D := fun b => w.heap.size + 1 ≤ b ∧ b ≠ wp.heap.size) rfl (.tmp 41) (.tmp 44) 22 9 16 rfl elemStr rfl x.1 #[.string x.1] wr.heap.size rfl rfl hO k2 (str_far _ _ x.1 hx1) k3 hsz k1 ?_; intro v1 w1 hown hbel hgr hat))
                  go_roundw
                  case rel => exact ⟨p + 1, by omega, by go_num, ⟨_, hown, by simp; omega, hW.trans (hbel.mono (by omega)), by have := hgr.size; omega⟩, hB2.keep (hbel.block _ (by omega)), hB7.grown hgr (fun e => (hOin _ e.symm).2 rfl)⟩
                  case measure => simp [intOf]; omega
              · rw [dec_false e1] at hall
                have := Lib.hid e1; clear e1
                go_wp2_with (go_at_call 104; refine hall.mono ?_; rintro e w' ⟨rfl, rfl⟩)
                go_roundw
                case rel => exact ⟨p + 1, by omega, by go_num, ⟨ys, hO, by omega, hW, hsz⟩, hB2, hB7⟩
                case measure => simp [intOf]; omega
            · go_wp2
              go_roundw
              case rel => exact ⟨j + 1, by omega, by go_num, ⟨ys, hO.mono (fun b _ h => h.1), by omega, hW, hsz⟩, hB2⟩
              case measure => simp [intOf]; omega
        · go_wp2
          go_roundw
          case rel => exact ⟨k + 1, by omega, by go_num, ⟨xs, hO, by omega, hW, hsz⟩, hB2⟩
          case measure => simp [intOf]; omega
    · go_wp2
      go_ret
      exact ⟨_, _, rfl, trivial, hO.far.mono (fun b _ h => by omega), hW⟩
end Go.Proofs.Ytigbfankkmmnbaa
set_option linter.unusedVariables false
set_option linter.unusedSimpArgs false
namespace Gk
open Go Go.RowKit

theorem icmp_any (a b : Int) : ((a == b) = true ∧ (a != b) = false ∧ Hid (a = b)) ∨ ((a == b) = false ∧ (a != b) = true ∧ Hid (a ≠ b)) := by
  by_cases h : a = b
  · exact .inl ⟨(icmp_eq h).1, (icmp_eq h).2, h⟩
  · exact .inr ⟨(icmp_ne h).1, (icmp_ne h).2, h⟩
/-- a literal slice of one element -/
theorem Own.lit1 {α : Type} {T : Ty α} {e : TypeId} {B : Nat} {D : Nat → Prop} {w : World} {x : α} {cs : Array Value} (hx : Far (fun b => D b ∧ b ≠ w.heap.size) (fun w => T.R w x cs.toList) w) (hB : B ≤ w.heap.size) (hD : D w.heap.size) :
    Own T e B D (w.alloc (.cells cs e)) (.slice (some ⟨w.heap.size, 0, none⟩) 1 1) [x] := by
  have hl : cs.toList.length = T.sz := T.len hx.now
  have h := World.ownsRow_lit (base := B) (e := e) (size := T.sz) w cs 1 hB (by simp [maxLen]) (by simpa using hl)
  refine ⟨[cs.toList], by simpa using h, rfl, by simp [LB], by rintro k hk; injection hk with hk; exact hk ▸ hD, fun i y hy => ?_⟩
  match i, hy with
  | 0, hy =>
    simp at hy; subst hy
    refine ⟨cs.toList, rfl, (hx.on (w' := w.alloc (.cells cs e)) (by simp) fun b hb _ => heap_alloc_old w _ hb).mono fun b _ hb => ⟨hb.1.1, ?_⟩⟩
    intro e'; injection e' with e'; exact hb.1.2 e'

/-- no doubles, all among others: no more than those -/
theorem nodup_le {α : Type} : ∀ (l U : List α), l.Nodup → (∀ x ∈ l, x ∈ U) → l.length ≤ U.length := by
  intro l
  induction l with
  | nil => intro U _ _; simp
  | cons a t ih =>
    intro U hn hs
    obtain ⟨U1, U2, rfl⟩ := List.append_of_mem (hs a List.mem_cons_self)
    have h1 := List.nodup_cons.1 hn
    have := ih (U1 ++ U2) h1.2 fun x hx => by
      have := hs x (List.mem_cons_of_mem _ hx)
      simp only [List.mem_append, List.mem_cons] at this ⊢
      rcases this with h | rfl | h
      · exact .inl h
      · exact absurd hx h1.1
      · exact .inr h
    simp at this ⊢; omega
theorem flatMap_le {α β : Type} (f : α → List β) (m : Nat) : ∀ l : List α, (∀ x ∈ l, (f x).length ≤ m) → (l.flatMap f).length ≤ l.length * m := by
  intro l
  induction l with
  | nil => intro _; simp
  | cons a t ih =>
    intro h
    have h1 := h a List.mem_cons_self
    have h2 := ih fun x hx => h x (List.mem_cons_of_mem _ hx)
    rw [List.flatMap_cons, List.length_append, List.length_cons, Nat.add_mul]; omega
theorem nodup_snoc {α : Type} {l : List α} {x : α} (h : l.Nodup) (hx : x ∉ l) : (l ++ [x]).Nodup := by
  rw [List.nodup_append]
  exact ⟨h, by simp, fun a ha b hb => by simp at hb; subst hb; rintro rfl; exact hx ha⟩
end Gk
set_option linter.unusedVariables false
set_option linter.unusedSimpArgs false
namespace Go.Proofs.Ytigbfankkmmnbaa
open Go.RowKit Gk

/-- all names that stand in a grammar -/
def allNames (rs : Rules) : List ByteArray := rs.map (·.1) ++ rs.flatMap fun r => r.2.flatten
theorem allNames_le {rs : Rules} (h : Short3 rs) : (allNames rs).length ≤ 20000000 := by
  have h2 := flatMap_le (fun r : ByteArray × List (List ByteArray) => r.2.flatten) (200 * 200) rs fun r hr => by
    have hr2 := h.2 r hr
    have := flatMap_le (fun a : List ByteArray => a) 200 r.2 fun a ha => hr2.2 a ha
    simp only [List.flatMap_id'] at this
    exact Nat.le_trans this (Nat.mul_le_mul_right _ hr2.1)
  have h1 := h.1
  unfold allNames
  rw [List.length_append, List.length_map]
  have : rs.length * (200 * 200) ≤ 200 * (200 * 200) := Nat.mul_le_mul_right _ h1
  omega
def LedR (w : World) (rs : Rules) (D : Nat → Prop) (n : Nat) (o : Value) (wr : World) : Prop :=
  ∃ xs : List ByteArray, Own Ty.str 9 (w.heap.size + 1) D wr o xs ∧ xs.Nodup ∧ (∀ x ∈ xs, x ∈ allNames rs) ∧ n ≤ xs.length ∧ Below w.heap.size w wr ∧ w.heap.size + 1 ≤ wr.heap.size

set_option maxRecDepth 100000 in
set_option maxHeartbeats 4000000 in
theorem led_calls (v : Value) (rs : Rules) (w : World) (h : Sl ruleT w v rs) (hs : Short3 rs) :
    Calls Try.prog 92 #[.agg #[v]] w (gives Ty.str w (fun _ => True)) := by
  obtain ⟨A, c, rfl, hc, hcm, hlb, hr⟩ := h
  unfold LB at hlb
  have hs1 := hs.1
  have hU := allNames_le hs
  have HS := Lib.hid hs; clear hs
  have hWa : Below w.heap.size w (w.alloc (.cells #[.slice A rs.length c] 82)) := (Below.refl _ _).alloc (Nat.le_refl _) _
  have hbox := Box.new w #[.slice A rs.length c] 82
  by_cases h0 : (rs.length : Int) = 0
  · obtain ⟨q1, q2⟩ := icmp_eq h0
    have := Lib.hid h0; clear h0
    go_enter Try.func92, Try.ntmps92
    go_wp2
    go_ret
    exact ⟨_, [], rfl, trivial, fun w2 _ _ => Sl.nil _ _, hWa⟩
  obtain ⟨q1, q2⟩ := icmp_ne h0
  have h00 : 0 < rs.length := by omega
  have h0 := Lib.hid h0
  obtain ⟨x0, hx0⟩ := at_lt rs h00
  obtain ⟨ad, B0, c0, rfl, hcell0, hcell1, hx1, _⟩ := Row.rule hr hx0
  have hadd : ad.add (0 * 2) = ad := by simp [Addr.add]
  rw [hadd] at hcell0
  have HX0 := Lib.hid hx0
  replace hcell0 := cell_far hcell0 hWa.block
  clear hcell1 hadd hx0
  have hown := Own.lit1 (T := Ty.str) (e := 9) (B := w.heap.size + 1) (D := fun b => w.heap.size + 1 ≤ b) (w := w.alloc (.cells #[.slice (some ad) rs.length c] 82)) (x := x0.1) (cs := #[.string x0.1]) (str_far _ _ x0.1 hx1) (by simp) (by simp)
  have hsz0 : (w.alloc (.cells #[.slice (some ad) rs.length c] 82)).heap.size = w.heap.size + 1 := by simp
  rw [hsz0] at hown
  have hwb := hWa.alloc (by simp) (.cells #[.string x0.1] 9)
  have hbx := hbox.alloc (.cells #[.string x0.1] 9)
  go_enter Try.func92, Try.ntmps92
  go_wp2
  go_loopw [4, 3] (fun i o wr => ∃ k : Nat, i = .int .i64 k ∧ LedR w rs (fun b => w.heap.size + 1 ≤ b) k o wr ∧ Box wr w.heap.size #[.slice (some ad) rs.length c] 82) (fun i _ _ => (allNames rs).length - (intOf i).toNat)
  case atStart => exact ⟨0, rfl, ⟨_, hown, by simp, by simp [allNames]; exact .inl ⟨_, List.mem_of_getElem? HX0.out⟩, Nat.zero_le _, hwb, by simp⟩, hbx⟩
  case round =>
    clear hown hwb hbx
    obtain ⟨k, rfl, ⟨xs, hO, hnd, hsub, hkl, hW, hsz⟩, hB⟩ := hrel
    have hkU := nodup_le xs (allNames rs) hnd hsub
    have hsl := hO.sl
    obtain ⟨Ax, cx, rfl, e1, e2, e3, hrx⟩ := hsl
    have hOk := Lib.hid hO
    by_cases hlt : k < xs.length
    case neg =>
      go_wp2
      go_ret
      exact ⟨_, _, rfl, trivial, hOk.out.far.mono (fun b _ h => by omega), hW⟩
    have hc2 := hB.cell 0 (v := .slice (some ad) rs.length c) rfl
    clear hrx
    go_wp2
    go_loopw [30, 3] (fun i o wr => ∃ j : Nat, j ≤ rs.length ∧ i = .int .i64 j ∧ LedR w rs (fun b => w.heap.size + 1 ≤ b) (k + 1) o wr ∧ Box wr w.heap.size #[.slice (some ad) rs.length c] 82) (fun i _ _ => rs.length - (intOf i).toNat)
    case atStart => exact ⟨0, Nat.zero_le _, rfl, ⟨_, hOk.out, hnd, hsub, hlt, hW, hsz⟩, hB⟩
    case round =>
      clear hOk hnd hsub hW hsz hB hO hc2 hkl hlt e1 e2 e3 hkU
      obtain ⟨j, hj, rfl, ⟨ys, hO, hnd, hsub, hkl, hW, hsz⟩, hB⟩ := hrel
      by_cases hlt2 : j < rs.length
      case neg =>
        have hkU := nodup_le ys (allNames rs) hnd hsub
        go_wp2
        go_roundw
        case rel => exact ⟨k + 1, by go_num, ⟨_, hO, hnd, hsub, hkl, hW, hsz⟩, hB⟩
        case measure => simp [intOf]; omega
      obtain ⟨x, hx⟩ := at_lt rs hlt2
      obtain ⟨ad1, B, c2, e, hcell0, hcell1, hx1, g1, g2, g3, g4⟩ := Row.rule hr hx
      cases e
      replace hcell0 := cell_far hcell0 hW.block
      replace hcell1 := cell_far hcell1 hW.block
      obtain ⟨y, hy⟩ := at_lt ys (k := k) (by omega)
      obtain ⟨Ay, cy, rfl, e1, e2, e3, hry⟩ := hO.sl
      obtain ⟨ady, rfl, hys, hcelly⟩ := hry.str hy
      have HX := Lib.hid hx; clear hx
      have HY := Lib.hid hy; clear hy
      have hboxX := Box.new wr #[.string x.1, .slice B x.2.length c2] 97
      have hWa := hW.alloc (by omega) (.cells #[.string x.1, .slice B x.2.length c2] 97)
      have hBa := hB.alloc (.cells #[.string x.1, .slice B x.2.length c2] 97)
      have hOa := hO.alloc (.cells #[.string x.1, .slice B x.2.length c2] 97)
      have hsza : w.heap.size + 1 ≤ (wr.alloc (.cells #[.string x.1, .slice B x.2.length c2] 97)).heap.size := by simp; omega
      replace hcelly := cell_far hcelly (w' := wr.alloc (.cells #[.string x.1, .slice B x.2.length c2] 97)) (fun b hb => heap_alloc_old wr _ hb)
      have G4 := Lib.hid g4
      clear g4 hry
      by_cases hne : x.1 = y
      case neg =>
        have q := str_ne hne
        have := Lib.hid hne; clear hne
        go_wp2
        go_quiet (fail)
        go_wp2
        go_roundw
        case rel => exact ⟨j + 1, by omega, by go_num, ⟨_, hOa.drewN _, hnd, hsub, hkl, below_drewN hWa _, hsza⟩, hBa⟩
        case measure => simp [intOf]; omega
      have q := str_eq hne
      have := Lib.hid hne; clear hne
      obtain ⟨wp, rfl⟩ : ∃ wp : World, wp = wr := ⟨_, rfl⟩
      go_wp2
      go_quiet (fail)
      go_wp2
      go_loopw [44, 3] (fun i o wr => ∃ p : Nat, p ≤ x.2.length ∧ i = .int .i64 p ∧ LedR w rs (fun b => w.heap.size + 1 ≤ b) (k + 1) o wr ∧ Box wr w.heap.size #[.slice (some ad) rs.length c] 82) (fun i _ _ => x.2.length - (intOf i).toNat)
      case atStart => exact ⟨0, Nat.zero_le _, rfl, ⟨_, hOa.drewN _, hnd, hsub, hkl, below_drewN hWa _, hsza⟩, hBa⟩
      case round =>
        clear hO hOa hnd hsub hkl hW hsz hB hBa hWa hsza hboxX e1 e2 e3 hcell0 hcell1 hcelly
        obtain ⟨p, hp, rfl, ⟨zs, hO, hnd, hsub, hkl, hW, hsz⟩, hB⟩ := hrel
        by_cases hlt3 : p < x.2.length
        case neg =>
          go_wp2
          go_roundw
          case rel => exact ⟨j + 1, by omega, by go_num, ⟨_, hO, hnd, hsub, hkl, hW, hsz⟩, hB⟩
          case measure => simp [intOf]; omega
        obtain ⟨a, ha⟩ := at_lt x.2 hlt3
        obtain ⟨ad2, Y, c3, e, hcell2, g5, g6, g7, g8⟩ := G4.out.slice ha
        cases e
        replace hcell2 := cell_far hcell2 hW.block
        have HA := Lib.hid ha; clear ha
        obtain ⟨wq, rfl⟩ : ∃ wq : World, wq = wr := ⟨_, rfl⟩
        go_wp2
        go_loopw [50, 3] (fun i o wr => ∃ q : Nat, q ≤ a.length ∧ i = .int .i64 q ∧ LedR w rs (fun b => w.heap.size + 1 ≤ b) (k + 1) o wr ∧ Box wr w.heap.size #[.slice (some ad) rs.length c] 82) (fun i _ _ => a.length - (intOf i).toNat)
        case atStart => exact ⟨0, Nat.zero_le _, rfl, ⟨_, hO, hnd, hsub, hkl, hW, hsz⟩, hB⟩
        case round =>
          clear hO hnd hsub hkl hW hsz hB hcell2
          obtain ⟨q, hq, rfl, ⟨us, hO, hnd, hsub, hkl, hW, hsz⟩, hB⟩ := hrel
          by_cases hlt4 : q < a.length
          case neg =>
            go_wp2
            go_roundw
            case rel => exact ⟨p + 1, by omega, by go_num, ⟨_, hO, hnd, hsub, hkl, hW, hsz⟩, hB⟩
            case measure => simp [intOf]; omega
          obtain ⟨n, hn⟩ := at_lt a hlt4
          obtain ⟨ad3, rfl, hns, hcell3⟩ := g8.str hn
          replace hcell3 := cell_far hcell3 hW.block
          have hmem : n ∈ allNames rs := by
            unfold allNames
            refine List.mem_append.2 (.inr (List.mem_flatMap.2 ⟨x, List.mem_of_getElem? HX.out, List.mem_flatten.2 ⟨a, List.mem_of_getElem? HA.out, List.mem_of_getElem? hn⟩⟩))
          clear hn
          have hhas := has_calls u3 us n wr hO.sl
          by_cases e2 : n ∈ us
          · rw [dec_true e2] at hhas
            have := Lib.hid e2; clear e2
            go_wp2_with (go_at_call 78; refine hhas.mono ?_; rintro e w' ⟨rfl, rfl⟩)
            go_roundw
            case rel => exact ⟨q + 1, by omega, by go_num, ⟨_, hO, hnd, hsub, hkl, hW, hsz⟩, hB⟩
            case measure => simp [intOf]; omega
          · rw [dec_false e2] at hhas
            have E2 := Lib.hid e2; clear e2
            have hkU := nodup_le us (allNames rs) hnd hsub
            have k1 : (us.length + 1) * 16 ≤ 140737488355328 := by omega
            have k2 : ∀ b, wr.heap.size ≤ b → w.heap.size + 1 ≤ b := fun b hb => by omega
            have k3 : Below (w.heap.size + 1) wr wr := Below.refl _ _
            go_wp2_with (first | (go_at_call 78; refine hhas.mono ?_; rintro e w' ⟨rfl, rfl⟩) | (at_builtin; refine wpList_app (T := Ty.str) (v := u3) (xs := us) (W := wr) (w0 := wr) (B := w.heap.size + 1) (D := fun b => w.heap.size + 1 ≤ b) rfl (.tmp 58) (.tmp 60) 22 9 16 rfl elemStr rfl n #[.string n] wr.heap.size rfl rfl hO k2 (str_far _ _ n hns) k3 hsz k1 ?_; intro v1 w1 hown hbel hgr hat))
            go_roundw
            case rel => exact ⟨q + 1, by omega, by go_num, ⟨_, hown, nodup_snoc hnd E2.out, fun x hx => by
              rcases List.mem_append.1 hx with hx | hx
              · exact hsub x hx
              · simp at hx; subst hx; exact hmem, by simp; omega, hW.trans (hbel.mono (by omega)), by have := hgr.size; omega⟩, hB.keep (hbel.block _ (by omega))⟩
            case measure => simp [intOf]; omega
end Go.Proofs.Ytigbfankkmmnbaa
