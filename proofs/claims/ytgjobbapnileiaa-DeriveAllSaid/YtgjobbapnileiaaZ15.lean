/- Derives: the walk; live: the walk. -/
import Derived.Test.YtgjobbapnileiaaZ14
import Derived.Test.YtgjobbapnileiaaZ12
import Derived.Test.YtgjobbapnileiaaZ13
import Derived.Test.YtgjobbapnileiaaZ02
set_option linter.unusedVariables false
set_option linter.unusedSimpArgs false
namespace Go.Proofs.Ytgjobbapnileiaa
open Go.RowKit Gk

theorem ChartAt.update {w w' : World} {X : Nat} {a b d tv : Value} {σ : St} {B : Nat} {In : Nat → Prop} {m : Nat} {vW : Value} {E : Pl → Nat} (h : ChartAt w X a b d tv σ B In m vW E) {p : Pl} (hp : p ∈ σ.W) {j : Int} (g : w.grownBy w' (some (E p)))
    (hS : ISet w' (E p) (insK j (σ.S p))) : ChartAt w' X a b d tv (σ.add p j) B In m vW E := by
  have hk : ∀ c, c < w.heap.size → c ≠ E p → w'.heap[c]? = w.heap[c]? := fun c h1 h2 => g.block c h1 (by intro e; injection e with e; exact h2 e)
  refine { h with box := h.box.keep (hk _ h.box.lt (fun e => h.EX p hp e.symm)), own := ?_, tab := h.tab.keep (hk _ h.tab.lt (fun e => h.mE p hp e.symm)), sets := fun q hq => ?_, ub := fun c hc => Nat.lt_of_lt_of_le (h.ub c hc) g.size }
  · have h1 : Own plT 65 B (fun c => some c = vW.ownBlock) w vW σ.W := own_pl h.own (fun k e => e.symm)
    have h2 : Own plT 65 B (fun c => some c = vW.ownBlock) w' vW σ.W := h1.keep g.size fun c h3 h4 => hk c h3 (fun e => h.dE p hp (by rw [← e]; exact h4))
    exact own_pl h2 fun k hk2 => h.own.inD k hk2
  · unfold St.add
    by_cases e : q = p
    · subst e; simpa using hS
    · simp only [e, if_false]
      exact (h.sets q hq).keep (hk _ (h.sets q hq).lt (fun e2 => e (h.EE q hq p hp e2)))
/-- the state grows within a round: what was reckoned from σ0 on is known -/
def Did (c : Cfg) (toks : List Int) (σ0 σ : St) (p : Pl) (a : List Int) : Prop := (∀ j, thr c toks σ0 a (· = p.2) j → j ∈ σ.S p) ∧ ∀ q, askd c toks σ0 a (· = p.2) q → q ∈ σ.W
theorem Did.grow {c : Cfg} {toks : List Int} {σ0 σ σ' : St} {p : Pl} {a : List Int} (h : Did c toks σ0 σ p a) (hp : p ∈ σ.W) (g : Grow σ σ') : Did c toks σ0 σ' p a := by
  refine ⟨fun j hj => ?_, fun q hq => g.mem (h.2 q hq)⟩
  obtain ⟨l, e⟩ := g.S p hp
  rw [e]; simp [h.1 j hj]
def derEnd (c : Cfg) (seq toks : List Int) (w : World) (e : Ending) (w' : World) : Prop := e = .returned (.bool (dec (Gen c seq toks))) ∧ Below w.heap.size w w'
/-- loop 0: many is what was known at the round's start -/
def Der0 (c : Cfg) (toks : List Int) (wB : World) (X : Nat) (a b d tv : Value) (many : Value) (wr : World) : Prop :=
  ∃ σ In, Chart wr X a b d tv σ wB.heap.size In ∧ StOk c toks.length σ ∧ Sound c toks σ ∧ Below wB.heap.size wB wr ∧ ∃ z : Int, many = .int .i64 z ∧ (z = -1 ∨ z = σ.count)
/-- what the chart is, in all loops -/
def DerC (c : Cfg) (toks : List Int) (wB : World) (X : Nat) (a b d tv : Value) (σ : St) (In : Nat → Prop) (wr : World) : Prop :=
  Chart wr X a b d tv σ wB.heap.size In ∧ StOk c toks.length σ ∧ Sound c toks σ ∧ Below wB.heap.size wB wr
/-- loop 2: the first n places are done; σ: the round's start; σ1: behind the first reckoning -/
def Der2 (c : Cfg) (toks : List Int) (wB : World) (X : Nat) (a b d tv : Value) (σ σ1 : St) (i : Value) (wr : World) : Prop :=
  ∃ (n : Nat) (σ' : St) (In' : Nat → Prop), i = .int .i64 n ∧ DerC c toks wB X a b d tv σ' In' wr ∧ Grow σ1 σ' ∧ n ≤ σ'.W.length ∧ ∀ m < n, ∀ p, σ'.W[m]? = some p → ∀ al a, c.alts[p.1.toNat]? = some al → a ∈ al → Did c toks σ σ' p a
/-- loop 4: the first n alternatives of a place -/
def Der4 (c : Cfg) (toks : List Int) (wB : World) (X : Nat) (a b d tv : Value) (σ σ2 : St) (p : Pl) (al : List (List Int)) (b11 : Nat) (i : Value) (wr : World) : Prop :=
  ∃ (n : Nat) (σ' : St) (In' : Nat → Prop), i = .int .i64 n ∧ n ≤ al.length ∧ DerC c toks wB X a b d tv σ' In' wr ∧ Grow σ2 σ' ∧ Box wr b11 #[.int .i64 p.1, .int .i64 p.2] 65 ∧ ¬ In' b11 ∧ ∀ m < n, ∀ a, al[m]? = some a → Did c toks σ σ' p a
/-- loop 6: the ends that were found; L's are still to come -/
def Der6 (c : Cfg) (toks : List Int) (wB : World) (X : Nat) (a b d tv : Value) (σ3 : St) (p : Pl) (b11 bl r : Nat) (K : List Int) (In' : Nat → Prop) (wr : World) : Prop :=
  ∃ (L : List Int) (cnt : Nat) (σ' : St), RangeAt Try.prog 3 4 wr bl r K L cnt ∧ DerC c toks wB X a b d tv σ' In' wr ∧ Grow σ3 σ' ∧ σ'.W = σ3.W ∧ Box wr b11 #[.int .i64 p.1, .int .i64 p.2] 65 ∧ ∀ j ∈ K, j ∉ L → j ∈ σ'.S p
/-- loop 8: how much is known, the first n places -/
def Der8 (wB : World) (X : Nat) (a b d tv : Value) (σ : St) (In : Nat → Prop) (m : Nat) (vW : Value) (E : Pl → Nat) (i cnt : Value) (wr : World) : Prop :=
  ∃ n q : Nat, n ≤ σ.W.length ∧ i = .int .i64 n ∧ cnt = .int .i64 q ∧ Hid (q = σ.W.length + sumL (fun p => (σ.S p).length) (σ.W.take n)) ∧ ChartAt wr X a b d tv σ wB.heap.size In m vW E ∧ Below wB.heap.size wB wr
def derBound : Nat := 1000 * 1001 * 1002
theorem sumL_bound (f : Pl → Nat) (m : Nat) : ∀ l : List Pl, (∀ p ∈ l, f p ≤ m) → sumL f l ≤ l.length * m := by
  intro l
  induction l with
  | nil => intro _; simp [sumL]
  | cons a l ih =>
    intro h
    have h1 := h a (by simp)
    have h2 := ih fun p hp => h p (by simp [hp])
    simp only [sumL, List.map_cons, List.sum_cons, List.length_cons, Nat.add_mul] at h2 ⊢; omega
set_option maxRecDepth 100000 in
set_option maxHeartbeats 4000000 in
theorem derives_calls (c : Cfg) (seq toks : List Int) (w : World) (v u t : Value) (h : CfgV w v c) (hu : Sl Ty.int w u seq) (ht : Sl Ty.int w t toks) (hl1 : toks.length ≤ 1000) (hl2 : c.alts.length ≤ 1000) :
    Calls Try.prog 12 #[v, u, t] w (derEnd c seq toks w) := by
  obtain ⟨a0, b0, d0, rfl, h1, h2, h3⟩ := h
  obtain ⟨A1, c1, rfl, hc1, hm1, _, hr1⟩ := id h1
  obtain ⟨A2, c2, rfl, hc2, hm2, _, hr2⟩ := id h2
  obtain ⟨A3, c3, rfl, hc3, hm3, hl3, hr3⟩ := id h3
  obtain ⟨AT, cT, rfl, hcT, hmT, hlT, hrT⟩ := id ht
  obtain ⟨AU, cU, rfl, hcU, hmU, hlU, hrU⟩ := id hu
  unfold LB at hl3 hlT hlU
  have hmk := fun (w : World) => run_makeMap (P := Try.prog) 58 w
  have HH := Lib.hid (And.intro h1 (And.intro h2 (And.intro h3 (And.intro hu ht))))
  clear h1 h2 h3 hu ht hr1 hr2
  go_enter Try.func12, Try.ntmps12
  go_wp2
  have hB3 := Box.new w #[.slice A1 c.toks.length c1, .slice A2 c.names.length c2, .slice A3 c.alts.length c3] 25
  have hWB := (Below.refl w.heap.size w).alloc (Nat.le_refl _) (.cells #[.slice A1 c.toks.length c1, .slice A2 c.names.length c2, .slice A3 c.alts.length c3] 25)
  have hsB : (w.alloc (.cells #[.slice A1 c.toks.length c1, .slice A2 c.names.length c2, .slice A3 c.alts.length c3] 25)).heap.size = w.heap.size + 1 := by simp
  generalize w.alloc (.cells #[.slice A1 c.toks.length c1, .slice A2 c.names.length c2, .slice A3 c.alts.length c3] 25) = wB at *
  go_loopw [8] (fun many wr => Der0 c toks wB (w.heap.size + 2) (.slice A1 c.toks.length c1) (.slice A2 c.names.length c2) (.slice A3 c.alts.length c3) (.slice AT toks.length cT) many wr) (fun many _ => derBound + 2 - (intOf many + 1).toNat)
  case atStart =>
    have hs1 : (wB.alloc (.map #[] 0)).heap.size = w.heap.size + 2 := by simp; omega
    have hT := TabAt.new (P := Try.prog) (k := 65) plLit wB (fun _ => 0)
    have hb := Box.new (wB.alloc (.map #[] 0)) #[.slice A1 c.toks.length c1, .slice A2 c.names.length c2, .slice A3 c.alts.length c3, .slice AT toks.length cT, .map (some (w.heap.size + 1)), .slice none 0 0] 61
    rw [hs1] at hb
    rw [hsB] at hT
    refine ⟨⟨[], fun _ => []⟩, fun x => x = w.heap.size + 1 ∨ x = w.heap.size + 2, ⟨w.heap.size + 1, .slice none 0 0, fun _ => 0, ?_⟩, ⟨by simp, by simp, by simp⟩, by intro p hp; simp at hp, ((Below.refl _ _).alloc (Nat.le_refl _) _).alloc (by simp) _, -1, rfl, .inl rfl⟩
    exact ⟨hb, Own.nil _ _ _ _ _, hT.keep (heap_alloc_old _ _ (by rw [hs1]; omega)), by simp, .inr rfl, .inl rfl, by simp, by simp [Value.ownBlock], by simp [Value.ownBlock], by simp, by omega, by simp, by simp, by simp, fun x hx => by omega, fun x hx => by simp; omega⟩
  case round =>
    obtain ⟨σ, In, hC, hOk, hSd, hBr, z, rfl, hz⟩ := hrel
    have hT0 := HH.out.2.2.2.2.below hWB
    have hd0 := HH.out.2.2.1.below hWB
    have hu0 := HH.out.2.2.2.1.below hWB
    have h0r : (0 : Int) ≤ 0 ∧ (0 : Int) ≤ (toks.length : Int) := by omega
    have hL64 : Ty.i64 (toks.length : Int) := by unfold Ty.i64; omega
    go_wp2_with (go_at_call 24; refine (through_calls c toks seq wB wr hBr (w.heap.size + 2) _ _ _ _ _ σ In 0 h0r hC hOk hT0 hd0 hu0 hl1 hl2).mono ?_; rintro e w1 ⟨bl, K, σ1, In1, rfl, hC1, hE1, hX1, hOk1, hbl, hnb, hS, hKr, hK, hWs, hWc⟩; have hlk := hS.lookup Try.underlying3 Try.underlying4 Try.underlying62 (zeroBool _) hL64)
    have hSd1 := hSd.ext hX1
    have hB1 := hC.below hBr hE1
    go_loopw [10] (fun i wr => Der2 c toks wB (w.heap.size + 2) (.slice A1 c.toks.length c1) (.slice A2 c.names.length c2) (.slice A3 c.alts.length c3) (.slice AT toks.length cT) σ σ1 i wr) (fun i _ => 1000 * 1001 + 1 - (intOf i).toNat)
    case atStart => exact ⟨0, σ1, In1, rfl, ⟨hC1, hOk1, hSd1, hB1⟩, Grow.refl _, Nat.zero_le _, fun m hm => absurd hm (Nat.not_lt_zero _)⟩
    case round =>
      obtain ⟨n, σ2, In2, rfl, ⟨hC2, hOk2, hSd2, hB2⟩, hG2, hn2, hD2⟩ := hrel
      have hCA0 := hC2
      obtain ⟨m, vW, E, hCA⟩ := hCA0
      obtain ⟨AW, cW, rfl, _, _, _, hrW⟩ := hCA.own.sl
      have x5 := hCA.box.cell 5 (v := .slice AW σ2.W.length cW) rfl
      by_cases hlt : n < σ2.W.length
      · obtain ⟨⟨p1, p2⟩, hp⟩ := at_lt σ2.W hlt
        have hpm := List.mem_of_getElem? hp
        obtain ⟨hp1, hp2, hp3, hp4⟩ := hOk2.r _ hpm
        simp only at hp1 hp2 hp3 hp4
        obtain ⟨r1, rfl⟩ := Int.eq_ofNat_of_zero_le hp1
        have hr1 : r1 < c.alts.length := by omega
        obtain ⟨al, hal⟩ := at_lt c.alts hr1
        obtain ⟨ad3, B3, c4, rfl, hcellB, g1, g2, g3, g4⟩ := (hr3.below hWB).slice hal
        have hcellA := cell_far hcellB hB2.block
        obtain ⟨adW, y0, y1, rfl, hRp, q0, q1⟩ := hrW.two rfl hp
        obtain ⟨e1, e2, ee, ⟨rfl, hi1⟩, ⟨rfl, hi2⟩⟩ := hRp
        simp only [List.singleton_append, List.cons.injEq, and_true] at ee
        obtain ⟨rfl, rfl⟩ := ee
        try simp only at q0 q1
        have HP := Lib.hid hp; clear hp
        have HAL := Lib.hid hal; clear hal
        have hB31 := (hB3.below hB2)
        have c30 := hB31.cell 2 (v := .slice (some ad3) c.alts.length c3) rfl
        obtain ⟨wo, rfl⟩ : ∃ wo : World, wo = wr := ⟨_, rfl⟩
        have hB3a := hB31.alloc (.cells #[.int .i64 (r1 : Int), .int .i64 p2] 65)
        have c3a := hB3a.cell 2 (v := .slice (some ad3) c.alts.length c3) rfl
        have hcA := cell_far hcellA (w' := wo.alloc (.cells #[.int .i64 (r1 : Int), .int .i64 p2] 65)) (fun b hb => heap_alloc_old wo _ hb)
        go_wp2
        have hub2 : ∀ x, In2 x → x < wo.heap.size := hCA.ub
        have hgA := World.grownBy_alloc wo (.cells #[.int .i64 (r1 : Int), .int .i64 p2] 65) none
        go_loopw [52] (fun i wr => Der4 c toks wB (w.heap.size + 2) (.slice A1 c.toks.length c1) (.slice A2 c.names.length c2) (.slice (some ad3) c.alts.length c3) (.slice AT toks.length cT) σ σ2 ((r1 : Int), p2) al wo.heap.size i wr) (fun i _ => al.length - (intOf i).toNat)
        case atStart => exact ⟨0, σ2, In2, rfl, Nat.zero_le _, ⟨hC2.grown hgA (by simp), hOk2, hSd2, hB2.grown hgA (by have := hB2.size; omega) (by simp)⟩, Grow.refl _, Box.new _ _ _, fun hx => Nat.lt_irrefl _ (hub2 _ hx), fun m hm => absurd hm (Nat.not_lt_zero _)⟩
        case round =>
          obtain ⟨jn, σ3, In3, rfl, hjn, ⟨hC3, hOk3, hSd3, hB3'⟩, hG3, hBx, hnx, hD3⟩ := hrel
          have xb1 := hBx.cell 1 (v := .int .i64 p2) rfl
          by_cases hlt2 : jn < al.length
          · obtain ⟨a, ha⟩ := at_lt al hlt2
            obtain ⟨ad4, B4, c5, rfl, hcellC, g5, g6, g7, g8⟩ := g4.slice ha
            have hcellD := cell_far hcellC hB3'.block
            have HA := Lib.hid ha; clear ha
            have hua : Sl Ty.int wB (.slice B4 a.length c5) a := ⟨B4, c5, rfl, g5, g6, g7, g8⟩
            go_wp2_with (first | (go_at_call 24; refine (through_calls c toks a wB wr hB3' (w.heap.size + 2) _ _ _ _ _ σ3 In3 p2 ⟨hp3, hp4⟩ hC3 hOk3 hT0 hd0 hua hl1 hl2).mono ?_; rintro e w4 ⟨bl3, K3, σ4, In4, rfl, hC4, hE4, hX4, hOk4, hbl3, hnb3, hS4, hKr3, hK3, hWs3, hWc3⟩) | (at_range; refine wpList_range rfl (.tmp 60) 62 3 4 bl3 K3 rfl Try.underlying3 Try.underlying62 rfl hS4 ?_; intro w5 hR5 hg5 hs5))
            try go_frame
            have hSd4 := hSd3.ext hX4
            have hB4 := hC3.below hB3' hE4
            have hBx4 : Box w5 wo.heap.size #[.int .i64 (r1 : Int), .int .i64 p2] 65 := (hBx.keep (hE4.block _ hBx.lt hnx)).grown hg5 (by simp)
            go_loopw [] (fun wr => Der6 c toks wB (w.heap.size + 2) (.slice A1 c.toks.length c1) (.slice A2 c.names.length c2) (.slice (some ad3) c.alts.length c3) (.slice AT toks.length cT) σ4 ((r1 : Int), p2) wo.heap.size bl3 w4.heap.size K3 In4 wr) (fun wr => wr.rangeLeft bl3 w4.heap.size)
            case atStart => exact ⟨K3, K3.length, σ4, hR5, ⟨hC4.grown hg5 (by simp), hOk4, hSd4, hB4.grown hg5 (by have := hB4.size; omega) (by simp)⟩, Grow.refl _, rfl, hBx4, fun j h1 h2 => absurd h1 h2⟩
            case round =>
              obtain ⟨L, cnt, σ5, hR, ⟨hC5, hOk5, hSd5, hB5⟩, hG5, hW5, hBx5, hKd⟩ := hrel
              have hub4 : ∀ x, In4 x → x < w4.heap.size := by obtain ⟨_, _, _, h'⟩ := hC4; exact h'.ub
              have hr4 : ¬ In4 w4.heap.size := fun h => Nat.lt_irrefl _ (hub4 _ h)
              have hbxlt := hBx.lt
              have hs4 := hE4.size
              have hne1 : wo.heap.size ≠ w4.heap.size := by omega
              have hn4 : ¬ In4 wo.heap.size := fun h => by
                rcases hE4.new _ h with h1 | h1
                · exact hnx h1
                · omega
              go_wp2_with (at_next; refine wpList_next rfl (.tmp 61) 3 4 bl3 w4.heap.size K3 L cnt rfl Try.underlying3 Try.underlying4 rfl hR ?_ ?_; all_goals first | (intro x cb w6 cnt' hx64 hxL hxK hR6 hcl hg6 hsz6 hen) | intro hL0)
              · have hG45 : Grow σ3 σ5 := hX4.grow.trans hG5
                have hG0 : Grow σ σ3 := (hX1.grow.trans hG2).trans hG3
                refine ⟨⟨jn + 1, σ5, In4, by simp, by omega, ⟨hC5, hOk5, hSd5, hB5⟩, hG3.trans hG45, hBx5, hn4, fun m hm a' ha' => ?_⟩, by simp [intOf]; omega⟩
                by_cases e : m = jn
                · subst e
                  have e2 := HA.out
                  rw [ha'] at e2
                  injection e2 with e2
                  subst e2
                  refine ⟨fun j hj => ?_, fun q hq => ?_⟩
                  · have h1 := (hK3 j).2 (hG0.thr _ _ _ (fun _ h => h) j hj)
                    exact hKd j h1 (hL0 j)
                  · exact hG5.mem (hWc3 q (hG0.askd hq))
                · exact (hD3 m (by omega) a' ha').grow (hG3.mem hpm) hG45
              · have hC6 := hC5.grown hg6 (notIn hr4)
                obtain ⟨m, vW, E, hCA6⟩ := hC6
                have hpW : (((r1 : Int), p2) : Pl) ∈ σ5.W := hG5.mem (hX4.grow.mem (hG3.mem hpm))
                have hBx6 : Box w6 wo.heap.size #[.int .i64 (r1 : Int), .int .i64 p2] 65 := hBx5.grown hg6 (by intro e; injection e with e; exact hne1 e)
                have hx4 := hCA6.box.cell 4 (v := .map (some m)) rfl
                have hy0 := hBx6.cell 0 (v := .int .i64 (r1 : Int)) rfl
                have hy1 := hBx6.cell 1 (v := .int .i64 p2) rfl
                have hpok : Pl.ok ((r1 : Int), p2) := ⟨by show Ty.i64 (r1 : Int); unfold Ty.i64; omega, by show Ty.i64 p2; unfold Ty.i64; omega⟩
                have hlook : (Instr.lookup 58 (.map (some m)) (.agg #[.int .i64 (r1 : Int), .int .i64 p2]) false).run Try.prog (w6.drewN 1) = .ok (.map (some (E ((r1 : Int), p2)))) (w6.drewN 1) :=
                  TabAt.look (w := w6.drewN 1) (e := 62) (hCA6.tab.keep rfl) plKey Try.underlying58 (zeroMap _) hpok hpW
                have hSp : ISet (w6.drewN 1) (E ((r1 : Int), p2)) (σ5.S ((r1 : Int), p2)) := (hCA6.sets _ hpW).keep rfl
                have hSl : (σ5.S ((r1 : Int), p2)).length < maxLen := by
                  obtain ⟨D, _, hD⟩ := hSp
                  have := ends_le hD.nodup (hOk5.s _ hpW)
                  simp only [maxLen]; omega
                obtain ⟨w7, hrun, hS7, hg7⟩ := hSp.update (t := 62) Try.underlying3 Try.underlying4 Try.underlying62 hx64 hSl
                refine wp_region_last 7 (by kernel_rfl) (by kernel_rfl) (by kernel_rfl) (by kernel_rfl) (by kernel_rfl) (fun j => match j with | 0 => .pointer (some ⟨w.heap.size + 2, 0, none⟩) | 1 => .pointer (some ⟨w.heap.size + 2, 0, none⟩) | 2 => .pointer (some ⟨w.heap.size + 2, 4, none⟩) | 3 => .map (some m) | 4 => .agg #[.int .i64 (r1 : Int), .int .i64 p2] | 5 => .map (some (E ((r1 : Int), p2))) | 6 => .int .i64 x | _ => undef) ?_ ?_
                · intro i hi oi ho
                  have : i = 0 ∨ i = 1 ∨ i = 2 ∨ i = 3 ∨ i = 4 ∨ i = 5 ∨ i = 6 := by omega
                  rcases this with rfl | rfl | rfl | rfl | rfl | rfl | rfl <;> cases ho
                  · rfl
                  · rfl
                  · rfl
                  · exact exec_load rfl rfl (by go_simp)
                  · exact exec_load rfl rfl (by go_simp)
                  · exact exec_lookup rfl rfl rfl hlook
                  · rfl
                · intro oi ho
                  cases ho
                  refine does_skip (w := w7) (exec_mapUpdate rfl rfl rfl rfl hrun) ?_
                  simp [fillAll, List.range, List.range.loop, dstOf, Act.put, upd]
                  go_wp2
                  have hCA7 := (hCA6.keep (w' := w6.drewN 1) (Nat.le_refl _) (fun _ _ _ => rfl)).update hpW hg7 hS7
                  have hEin := hCA6.inE _ hpW
                  have hElb := hCA6.lb _ hEin
                  have hne2 : some bl3 ≠ some (E ((r1 : Int), p2)) := by intro e; injection e with e; exact hnb3 (e ▸ hEin)
                  have hne3 : some w4.heap.size ≠ some (E ((r1 : Int), p2)) := by intro e; injection e with e; exact hr4 (e ▸ hEin)
                  have hne4 : some wo.heap.size ≠ some (E ((r1 : Int), p2)) := by intro e; injection e with e; exact hn4 (e ▸ hEin)
                  have hlt7 := hR6.lt
                  have hR7 := (hR6.keep (w' := w6.drewN 1) rfl rfl).keep (hg7.block _ hlt7.1 hne2) (hg7.block _ hlt7.2.1 hne3)
                  have hBx7 := (hBx6.keep (w' := w6.drewN 1) rfl).grown hg7 hne4
                  obtain ⟨i0, rfl, hdp⟩ := thr_sound hSd3 a (· = p2) x ((hK3 x).1 hxK)
                  have hB7 : Below wB.heap.size wB w7 := (below_drewN (hB5.grown hg6 (by have := hB5.size; omega) (fun k e => by injection e with e; have := hB4.size; omega)) 1).grown hg7 (by have := hB5.size; have := hg6.size; simp only [World.drewN]; omega) (fun k e => by injection e with e; omega)
                  refine ⟨⟨L.filter (· ≠ x), cnt', σ5.add ((r1 : Int), i0) x, hR7, ⟨⟨_, _, _, hCA7⟩, hOk5.add (hKr3 x hxK), hSd5.add (by have := HAL.out; simpa using this) (List.mem_of_getElem? HA.out) hdp, hB7⟩, hG5.trans (Grow.add _ _ _), hW5, hBx7, fun j hj hjL => ?_⟩, by rw [hR7.left_eq, hR.left_eq]; exact hcl⟩
                  simp only [St.add, if_true]
                  rcases notin_filter.1 hjL with h1 | h1
                  · exact mem_insK.2 (.inl (hKd j hj h1))
                  · exact mem_insK.2 (.inr h1)
          · have hje : jn = al.length := by omega
            have HJE := Lib.hid hje; clear hje
            have hWb := places_le hOk2
            have hWb2 : c.alts.length * (toks.length + 1) ≤ 1000 * 1001 := Nat.mul_le_mul hl2 (by omega)
            go_wp2
            obtain ⟨l3, el3⟩ := hG3.W
            have hget : ∀ m, m < σ2.W.length → σ3.W[m]? = σ2.W[m]? := fun m hm => by rw [el3, List.getElem?_append_left hm]
            refine ⟨⟨n + 1, σ3, In3, by simp, ⟨hC3, hOk3, hSd3, hB3'⟩, hG2.trans hG3, by rw [el3, List.length_append]; omega, fun m hm p' hp' al' a' hal' ha' => ?_⟩, by simp [intOf]; omega⟩
            rw [hget m (by omega)] at hp'
            by_cases e : m = n
            · subst e
              rw [HP.out] at hp'
              injection hp' with hp'
              subst hp'
              have e2 := HAL.out
              have e3 : ((r1 : Int)).toNat = r1 := by omega
              simp only [e3] at hal'
              rw [hal'] at e2
              injection e2 with e2
              subst e2
              obtain ⟨i, hi, ei⟩ := List.mem_iff_getElem.1 ha'
              exact hD3 i (by have := HJE.out; omega) a' (by rw [List.getElem?_eq_getElem hi, ei])
            · exact (hD2 m (by omega) p' hp' al' a' hal' ha').grow (List.mem_of_getElem? hp') hG3
      · have hne : n = σ2.W.length := by omega
        have HNE := Lib.hid hne; clear hne
        have hWb := places_le hOk2
        have hWb2 : c.alts.length * (toks.length + 1) ≤ 1000 * 1001 := Nat.mul_le_mul hl2 (by omega)
        have hSb : ∀ p ∈ σ2.W, (σ2.S p).length ≤ 1001 := fun p hp => by
          obtain ⟨D, _, hD⟩ := hCA.sets p hp
          have := ends_le hD.nodup (hOk2.s _ hp); omega
        have hWb3 : σ2.W.length ≤ 1001000 := by omega
        have hcb : ∀ j, σ2.W.length + sumL (fun p => (σ2.S p).length) (σ2.W.take j) ≤ 1003002000 := fun j => by
          have h1 := sumL_bound (fun p => (σ2.S p).length) 1001 (σ2.W.take j) (fun p hp => hSb p (List.mem_of_mem_take hp))
          have h2 : (σ2.W.take j).length * 1001 ≤ 1001000 * 1001 := Nat.mul_le_mul (by simp; omega) (Nat.le_refl _)
          omega
        have HCB := Lib.hid hcb; have HWB := Lib.hid hWb; have HWB2 := Lib.hid hWb2; have HSB := Lib.hid hSb
        clear hcb hWb hWb2 hSb
        obtain ⟨wo, rfl⟩ : ∃ wo : World, wo = wr := ⟨_, rfl⟩
        go_wp2
        go_loopw [84, 15] (fun i cnt wr => Der8 wB (w.heap.size + 2) (.slice A1 c.toks.length c1) (.slice A2 c.names.length c2) (.slice A3 c.alts.length c3) (.slice AT toks.length cT) σ2 In2 m (.slice AW σ2.W.length cW) E i cnt wr) (fun i _ _ => σ2.W.length - (intOf i).toNat)
        case atStart => exact ⟨0, σ2.W.length, Nat.zero_le _, rfl, rfl, by simp [sumL, Hid], hCA, hB2⟩
        case round =>
          obtain ⟨j, q, hj, rfl, rfl, hq, hCA8, hB8⟩ := hrel
          have hq9 : q ≤ 1003002000 := by have := hq; unfold Hid at this; rw [this]; exact HCB.out j
          by_cases hlt8 : j < σ2.W.length
          · obtain ⟨AW', cW', e8, _, _, _, hrW8⟩ := hCA8.own.sl
            injection e8 with e81 e82 e83
            subst e81 e83
            obtain ⟨⟨p1, p2⟩, hp⟩ := at_lt σ2.W hlt8
            have hpm := List.mem_of_getElem? hp
            obtain ⟨hp1, hp2, hp3, hp4⟩ := hOk2.r _ hpm
            simp only at hp1 hp2 hp3 hp4
            obtain ⟨adW, y0, y1, rfl, hRp, q0, q1⟩ := hrW8.two rfl hp
            obtain ⟨e1, e2, ee, ⟨rfl, hi1⟩, ⟨rfl, hi2⟩⟩ := hRp
            simp only [List.singleton_append, List.cons.injEq, and_true] at ee
            obtain ⟨rfl, rfl⟩ := ee
            try simp only at q0 q1
            have HP := Lib.hid hp; clear hp
            obtain ⟨w8, rfl⟩ : ∃ w8 : World, w8 = wr := ⟨_, rfl⟩
            have hg8 := World.grownBy_alloc w8 (.cells #[.int .i64 p1, .int .i64 p2] 65) none
            have hbx := Box.new w8 #[.int .i64 p1, .int .i64 p2] 65
            have hCA9 := hCA8.keep (w' := w8.alloc (.cells #[.int .i64 p1, .int .i64 p2] 65)) (by simp) (fun b hb _ => heap_alloc_old w8 _ hb)
            have hB9 := hB8.alloc hB8.size (.cells #[.int .i64 p1, .int .i64 p2] 65)
            go_wp2
            generalize w8.alloc (.cells #[.int .i64 p1, .int .i64 p2] 65) = w9 at *
            have hc4 := hCA9.box.cell 4 (v := .map (some m)) rfl
            have hc30 := hbx.cell 0 (v := .int .i64 p1) rfl
            have hc31 := hbx.cell 1 (v := .int .i64 p2) rfl
            have hlook : ∀ n, (Instr.lookup 58 (.map (some m)) (.agg #[.int .i64 p1, .int .i64 p2]) false).run Try.prog (w9.drewN n) = .ok (.map (some (E (p1, p2)))) (w9.drewN n) := fun n =>
              TabAt.look (w := w9.drewN n) (e := 62) (hCA9.tab.keep rfl) plKey Try.underlying58 (zeroMap _) (p := (p1, p2)) ⟨hi1, hi2⟩ hpm
            have hlen : ∀ n ty, (Builtin.len_ #[62] ty #[.map (some (E (p1, p2)))]).run Try.prog (w9.drewN n) = .ok (.int .i64 (σ2.S (p1, p2)).length) (w9.drewN n) := fun n ty => SetAt.len (w := w9.drewN n) ((hCA9.sets _ hpm).keep rfl) Try.underlying62 ty
            have hSp := HSB.out _ hpm
            go_quiet (fail)
            go_wp2
            refine ⟨⟨j + 1, q + (σ2.S (p1, p2)).length, by omega, by simp, by simp, ?_, hCA9.keep (Nat.le_refl _) (fun _ _ _ => rfl), below_drewN hB9 _⟩, by simp [intOf]; omega⟩
            show _ = _
            have hq' : q = _ := hq
            rw [hq', List.take_add_one, HP.out, sumL_append]
            simp [sumL, Nat.add_assoc]
          · have hje : j = σ2.W.length := by omega
            have hqc : q = σ2.count := by
              have h1 : q = _ := hq
              rw [h1, hje, List.take_length]; rfl
            have hG : Grow σ σ2 := hX1.grow.trans hG2
            have hcl := hG.count_le
            clear hje
            have hcb2 : σ2.count ≤ 1003002000 := by omega
            have HQC := Lib.hid hqc; have HCL := Lib.hid hcl; have HZ := Lib.hid hz; have HCB2 := Lib.hid hcb2
            clear hqc hcl hz hcb2
            by_cases hin : (toks.length : Int) ∈ K
            · have hdt : decide ((toks.length : Int) ∈ K) = true := decide_eq_true hin
              go_wp2
              go_ret
              obtain ⟨i0, rfl, hdp⟩ := thr_sound hSd seq (· = 0) _ ((hK _).1 hin)
              refine ⟨?_, below2 hWB hB8⟩
              rw [dec_true (gen_iff.2 hdp), ← hdt]
              first | rfl | (rw [hdt]; rfl)
            · have hdt : decide ((toks.length : Int) ∈ K) = false := decide_eq_false hin
              by_cases hqz : (q : Int) = z
              · have hqz' := icmp_eq hqz
                have HQZ := Lib.hid hqz; clear hqz
                go_wp2
                go_ret
                have hcc : σ2.count = σ.count := by
                  have h1 := HQC.out; have h2 := HQZ.out
                  rcases HZ.out with h3 | h3 <;> omega
                obtain ⟨e1, e2⟩ := hG.still hcc
                have hDid : ∀ p ∈ σ.W, ∀ al a, c.alts[p.1.toNat]? = some al → a ∈ al → Did c toks σ σ2 p a := fun p hp al a h1 h2 => by
                  rw [← e1] at hp
                  obtain ⟨i, hi, ei⟩ := List.mem_iff_getElem.1 hp
                  exact hD2 i (by have := HNE.out; omega) p (by rw [List.getElem?_eq_getElem hi, ei]) al a h1 h2
                have hCl : Closed c toks σ := ⟨fun p hp al a h1 h2 j hj => by rw [← e2 p hp]; exact (hDid p hp al a h1 h2).1 j hj, fun p hp al a h1 h2 q hq => by rw [← e1]; exact (hDid p hp al a h1 h2).2 q hq⟩
                refine ⟨?_, below2 hWB hB8⟩
                have hng : ¬ Gen c seq toks := (fun hgen => hin ((hK _).2 (thr_complete hCl (gen_iff.1 hgen) (· = 0) rfl fun q hq => by rw [← e1]; exact hG2.mem (hWc q hq))))
                rw [dec_false hng, ← hdt]
                first | rfl | (rw [hdt]; rfl)
              · have hqz' := icmp_ne hqz
                have HQZ := Lib.hid hqz; clear hqz
                go_wp2
                refine ⟨⟨σ2, In2, ⟨_, _, _, hCA8⟩, hOk2, hSd2, hB8, _, rfl, .inr (by rw [HQC.out])⟩, ?_⟩
                have h1 := HQC.out; have h2 := HQZ.out; have h3 := HCL.out; have h4 := HCB2.out
                simp only [intOf, derBound]
                rcases HZ.out with h5 | h5 <;> omega
end Go.Proofs.Ytgjobbapnileiaa
set_option linter.unusedVariables false
set_option linter.unusedSimpArgs false
namespace Go.Proofs.Ytgjobbapnileiaa
open Go.RowKit Gk

theorem slOfBox {α : Type} {T : Ty α} {w : World} {b : Nat} {cs : Array Value} {e : TypeId} {xs : List α} (h : Box w b cs e) (hsz : T.sz = 1) (hl : xs.length ≤ 100000) (hx : ∀ (i : Nat) x, xs[i]? = some x → ∃ u, cs[i]? = some u ∧ T.R w x [u]) : Sl T w (.slice (some ⟨b, 0, none⟩) xs.length xs.length) xs := by
  refine ⟨_, _, rfl, Nat.le_refl _, by simp only [maxLen]; omega, by unfold LB; omega, fun i x hi => ?_⟩
  obtain ⟨u, hu, hr⟩ := hx i x hi
  refine ⟨_, [u], rfl, hr, fun j u' hj => ?_⟩
  match j, hj with
  | 0, hj =>
    simp at hj; subst hj
    rw [hsz, Addr.add_lit]
    simpa using h.cell i hu
theorem litInt {w : World} {b : Nat} {xs : List Int} (h : Box w b (xs.map (Value.int .i64)).toArray 3) (hl : xs.length ≤ 100000) (hi : ∀ x ∈ xs, Ty.i64 x) : Sl Ty.int w (.slice (some ⟨b, 0, none⟩) xs.length xs.length) xs :=
  slOfBox h rfl hl fun i x hx => ⟨.int .i64 x, by simp [hx], rfl, hi x (List.mem_of_getElem? hx)⟩
def exCfg : Cfg := ⟨[⟨#[97]⟩, ⟨#[98]⟩], [⟨#[83]⟩], exAlts⟩
theorem exOk : CfgOk exCfg := by
  refine ⟨rfl, fun al hal a ha k hk => ?_⟩
  have hal : al ∈ exAlts := hal
  simp only [exAlts, List.mem_cons, List.not_mem_nil, or_false] at hal
  subst hal
  simp only [List.mem_cons, List.not_mem_nil, or_false] at ha
  rcases ha with rfl | rfl
  · simp only [List.mem_cons, List.not_mem_nil, or_false] at hk
    rcases hk with rfl | rfl | rfl
    · exact .inl ⟨by decide, by decide⟩
    · exact .inr ⟨by decide, by decide⟩
    · exact .inl ⟨by decide, by decide⟩
  · simp at hk
theorem exSmall : Small 60 exCfg := by
  refine ⟨by decide, fun al hal => ?_⟩
  have hal : al ∈ exAlts := hal
  simp only [exAlts, List.mem_cons, List.not_mem_nil, or_false] at hal
  subst hal
  exact ⟨by decide, fun a ha => by
    simp only [List.mem_cons, List.not_mem_nil, or_false] at ha
    rcases ha with rfl | rfl <;> decide⟩
/-- the grammar, laid by hand -/
theorem exLaid (w : World) : CfgV (((((w.alloc (.cells #[.string ⟨#[97]⟩, .string ⟨#[98]⟩] 9)).alloc (.cells #[.string ⟨#[83]⟩] 9)).alloc (.cells #[.int .i64 0, .int .i64 (-1), .int .i64 1] 3)).alloc (.cells #[.slice (some ⟨w.heap.size + 2, 0, none⟩) 3 3, .slice none 0 0] 34)).alloc (.cells #[.slice (some ⟨w.heap.size + 3, 0, none⟩) 2 2] 28))
    (.agg #[.slice (some ⟨w.heap.size, 0, none⟩) 2 2, .slice (some ⟨w.heap.size + 1, 0, none⟩) 1 1, .slice (some ⟨w.heap.size + 1 + 1 + 1 + 1, 0, none⟩) 1 1]) exCfg := by
  have t1 := Box.new w #[.string ⟨#[97]⟩, .string ⟨#[98]⟩] 9
  have s1 : (w.alloc (.cells #[.string ⟨#[97]⟩, .string ⟨#[98]⟩] 9)).heap.size = w.heap.size + 1 := by simp
  generalize w.alloc (.cells #[.string ⟨#[97]⟩, .string ⟨#[98]⟩] 9) = w1 at *
  have t2 := Box.new w1 #[.string ⟨#[83]⟩] 9
  have s2 : (w1.alloc (.cells #[.string ⟨#[83]⟩] 9)).heap.size = w.heap.size + 2 := by simp; omega
  have t1' := t1.alloc (.cells #[.string ⟨#[83]⟩] 9)
  generalize w1.alloc (.cells #[.string ⟨#[83]⟩] 9) = w2 at *
  have t3 := Box.new w2 #[.int .i64 0, .int .i64 (-1), .int .i64 1] 3
  have s3 : (w2.alloc (.cells #[.int .i64 0, .int .i64 (-1), .int .i64 1] 3)).heap.size = w.heap.size + 3 := by simp; omega
  have t12 := t1'.alloc (.cells #[.int .i64 0, .int .i64 (-1), .int .i64 1] 3)
  have t22 := t2.alloc (.cells #[.int .i64 0, .int .i64 (-1), .int .i64 1] 3)
  generalize w2.alloc (.cells #[.int .i64 0, .int .i64 (-1), .int .i64 1] 3) = w3 at *
  have t4 := Box.new w3 #[.slice (some ⟨w.heap.size + 2, 0, none⟩) 3 3, .slice none 0 0] 34
  have s4 : (w3.alloc (.cells #[.slice (some ⟨w.heap.size + 2, 0, none⟩) 3 3, .slice none 0 0] 34)).heap.size = w.heap.size + 4 := by simp; omega
  have t13 := t12.alloc (.cells #[.slice (some ⟨w.heap.size + 2, 0, none⟩) 3 3, .slice none 0 0] 34)
  have t23 := t22.alloc (.cells #[.slice (some ⟨w.heap.size + 2, 0, none⟩) 3 3, .slice none 0 0] 34)
  have t33 := t3.alloc (.cells #[.slice (some ⟨w.heap.size + 2, 0, none⟩) 3 3, .slice none 0 0] 34)
  generalize w3.alloc (.cells #[.slice (some ⟨w.heap.size + 2, 0, none⟩) 3 3, .slice none 0 0] 34) = w4 at *
  have t5 := Box.new w4 #[.slice (some ⟨w.heap.size + 3, 0, none⟩) 2 2] 28
  have t14 := t13.alloc (.cells #[.slice (some ⟨w.heap.size + 3, 0, none⟩) 2 2] 28)
  have t24 := t23.alloc (.cells #[.slice (some ⟨w.heap.size + 3, 0, none⟩) 2 2] 28)
  have t34 := t33.alloc (.cells #[.slice (some ⟨w.heap.size + 3, 0, none⟩) 2 2] 28)
  have t44 := t4.alloc (.cells #[.slice (some ⟨w.heap.size + 3, 0, none⟩) 2 2] 28)
  rw [s1] at t24; rw [s2] at t34; rw [s3] at t44; rw [s4] at t5
  generalize w4.alloc (.cells #[.slice (some ⟨w.heap.size + 3, 0, none⟩) 2 2] 28) = w5 at *
  have h3 : Sl Ty.int w5 (.slice (some ⟨w.heap.size + 2, 0, none⟩) 3 3) [0, -1, 1] := litInt (xs := [0, -1, 1]) t34 (by decide) (fun x hx => by simp at hx; rcases hx with rfl | rfl | rfl <;> (unfold Ty.i64; omega))
  have h4 : Sl (Ty.slice Ty.int) w5 (.slice (some ⟨w.heap.size + 3, 0, none⟩) 2 2) [[0, -1, 1], []] := slOfBox (xs := [[0, -1, 1], []]) t44 rfl (by decide) fun i x hx => by
    match i, hx with
    | 0, hx => simp at hx; subst hx; exact ⟨_, rfl, _, rfl, h3⟩
    | 1, hx => simp at hx; subst hx; exact ⟨_, rfl, _, rfl, Sl.nil _ _⟩
  have h5 : Sl rowsT w5 (.slice (some ⟨w.heap.size + 1 + 1 + 1 + 1, 0, none⟩) 1 1) exAlts := slOfBox (xs := exAlts) t5 rfl (by decide) fun i x hx => by
    match i, hx with
    | 0, hx => simp [exAlts] at hx; subst hx; exact ⟨_, rfl, _, rfl, h4⟩
  refine ⟨_, _, _, rfl, ?_, ?_, h5⟩
  · exact slOfBox (xs := ([⟨#[97]⟩, ⟨#[98]⟩] : List ByteArray)) t14 rfl (by decide) fun i x hx => by
      match i, hx with
      | 0, hx => simp at hx; subst hx; exact ⟨_, rfl, rfl, by show ByteArray.size _ ≤ LB; unfold LB; decide⟩
      | 1, hx => simp at hx; subst hx; exact ⟨_, rfl, rfl, by show ByteArray.size _ ≤ LB; unfold LB; decide⟩
  · exact slOfBox (xs := ([⟨#[83]⟩] : List ByteArray)) t24 rfl (by decide) fun i x hx => by
      match i, hx with
      | 0, hx => simp at hx; subst hx; exact ⟨_, rfl, rfl, by show ByteArray.size _ ≤ LB; unfold LB; decide⟩
theorem exLists (w : World) : Sl (Ty.slice Ty.int) (((w.alloc (.cells #[.int .i64 0, .int .i64 1] 3)).alloc (.cells #[.int .i64 0, .int .i64 0, .int .i64 1, .int .i64 1] 3)).alloc (.cells #[.slice none 0 0, .slice (some ⟨w.heap.size, 0, none⟩) 2 2, .slice (some ⟨w.heap.size + 1, 0, none⟩) 4 4] 34)) (.slice (some ⟨w.heap.size + 2, 0, none⟩) 3 3) [[], [0, 1], [0, 0, 1, 1]] := by
  have t1 := Box.new w #[.int .i64 0, .int .i64 1] 3
  have s1 : (w.alloc (.cells #[.int .i64 0, .int .i64 1] 3)).heap.size = w.heap.size + 1 := by simp
  generalize w.alloc (.cells #[.int .i64 0, .int .i64 1] 3) = w1 at *
  have t2 := Box.new w1 #[.int .i64 0, .int .i64 0, .int .i64 1, .int .i64 1] 3
  have s2 : (w1.alloc (.cells #[.int .i64 0, .int .i64 0, .int .i64 1, .int .i64 1] 3)).heap.size = w.heap.size + 2 := by simp; omega
  have t1' := t1.alloc (.cells #[.int .i64 0, .int .i64 0, .int .i64 1, .int .i64 1] 3)
  generalize w1.alloc (.cells #[.int .i64 0, .int .i64 0, .int .i64 1, .int .i64 1] 3) = w2 at *
  have t3 := Box.new w2 #[.slice none 0 0, .slice (some ⟨w.heap.size, 0, none⟩) 2 2, .slice (some ⟨w.heap.size + 1, 0, none⟩) 4 4] 34
  have t12 := t1'.alloc (.cells #[.slice none 0 0, .slice (some ⟨w.heap.size, 0, none⟩) 2 2, .slice (some ⟨w.heap.size + 1, 0, none⟩) 4 4] 34)
  have t22 := t2.alloc (.cells #[.slice none 0 0, .slice (some ⟨w.heap.size, 0, none⟩) 2 2, .slice (some ⟨w.heap.size + 1, 0, none⟩) 4 4] 34)
  rw [s1] at t22; rw [s2] at t3
  refine slOfBox (xs := [[], [0, 1], [0, 0, 1, 1]]) t3 rfl (by decide) fun i x hx => ?_
  match i, hx with
  | 0, hx => simp at hx; subst hx; exact ⟨_, rfl, _, rfl, Sl.nil _ _⟩
  | 1, hx => simp at hx; subst hx; exact ⟨_, rfl, _, rfl, litInt (xs := [0, 1]) t12 (by decide) (fun x hx => by simp at hx; rcases hx with rfl | rfl <;> (unfold Ty.i64; omega))⟩
  | 2, hx => simp at hx; subst hx; exact ⟨_, rfl, _, rfl, litInt (xs := [0, 0, 1, 1]) t22 (by decide) (fun x hx => by simp at hx; rcases hx with rfl | rfl <;> (unfold Ty.i64; omega))⟩
theorem exDer (w : World) (xs : List Int) (hl : xs.length ≤ 100) (hi : ∀ x ∈ xs, Ty.i64 x) : Sl Ty.int ((w.alloc (.cells #[.int .i64 (-1)] 3)).alloc (.cells (xs.map (Value.int .i64)).toArray 3)) (.slice (some ⟨w.heap.size, 0, none⟩) 1 1) [-1] ∧ Sl Ty.int ((w.alloc (.cells #[.int .i64 (-1)] 3)).alloc (.cells (xs.map (Value.int .i64)).toArray 3)) (.slice (some ⟨w.heap.size + 1, 0, none⟩) xs.length xs.length) xs := by
  have t1 := Box.new w #[.int .i64 (-1)] 3
  have s1 : (w.alloc (.cells #[.int .i64 (-1)] 3)).heap.size = w.heap.size + 1 := by simp
  generalize w.alloc (.cells #[.int .i64 (-1)] 3) = w1 at *
  have t2 := Box.new w1 (xs.map (Value.int .i64)).toArray 3
  rw [s1] at t2
  exact ⟨litInt (xs := [-1]) (t1.alloc _) (by decide) (fun x hx => by simp at hx; subst hx; unfold Ty.i64; omega), litInt t2 (by omega) hi⟩
/-- what Sentences tells of the example -/
theorem exSen {w : World} {e : Ending} {w' : World} (h : senEnd exCfg 0 4 w e w') : ∃ v, e = .returned (.tuple #[v, .int .i64 0]) ∧ Bag w.heap.size w' v [[], [0, 1], [0, 0, 1, 1]] ∧ Below w.heap.size w w' := by
  obtain ⟨hb, h⟩ := h
  rw [if_neg (by decide)] at h
  obtain ⟨short, n, res, h1, h2, h3⟩ := h
  obtain rfl := h1.one (ex_short rfl)
  have h4 := loopS_one h2 (show loopS (madeF [0] 4) exCfg.alts 10 _ = some (some [[[], [0, 1], [0, 0, 1, 1]]]) from ex_loop)
  subst h4
  obtain ⟨v, e1, h5, _⟩ := h3
  exact ⟨v, e1, h5, hb⟩
theorem exD1 (w : World) (v : Value) (h : CfgV w v exCfg) (hi : ∀ x ∈ [(0 : Int), 0, 1], Ty.i64 x) : Calls Try.prog 12 #[v, .slice (some ⟨w.heap.size, 0, none⟩) 1 1, .slice (some ⟨w.heap.size + 1, 0, none⟩) 3 3] ((w.alloc (.cells #[.int .i64 (-1)] 3)).alloc (.cells #[.int .i64 0, .int .i64 0, .int .i64 1] 3)) fun e w' => e = .returned (.bool false) ∧ Below w.heap.size w w' := by
  have hb : Below w.heap.size w ((w.alloc (.cells #[.int .i64 (-1)] 3)).alloc (.cells #[.int .i64 0, .int .i64 0, .int .i64 1] 3)) := ((Below.refl _ _).alloc (Nat.le_refl _) _).alloc (by simp) _
  have h2 := exDer w [0, 0, 1] (by decide) hi
  refine (derives_calls exCfg [-1] [0, 0, 1] _ _ _ _ (h.below hb) h2.1 h2.2 (by decide) (by decide)).mono ?_
  rintro e w' ⟨he, hB⟩
  have hn : ¬ Gen exCfg [-1] [0, 0, 1] := ex_not (c := exCfg) rfl
  rw [dec_false hn] at he
  exact ⟨he, below2 hb hB⟩
theorem exD2 (w : World) (v : Value) (h : CfgV w v exCfg) (hi : ∀ x ∈ [(0 : Int), 0, 1, 1], Ty.i64 x) : Calls Try.prog 12 #[v, .slice (some ⟨w.heap.size, 0, none⟩) 1 1, .slice (some ⟨w.heap.size + 1, 0, none⟩) 4 4] ((w.alloc (.cells #[.int .i64 (-1)] 3)).alloc (.cells #[.int .i64 0, .int .i64 0, .int .i64 1, .int .i64 1] 3)) fun e w' => e = .returned (.bool true) ∧ Below w.heap.size w w' := by
  have hb : Below w.heap.size w ((w.alloc (.cells #[.int .i64 (-1)] 3)).alloc (.cells #[.int .i64 0, .int .i64 0, .int .i64 1, .int .i64 1] 3)) := ((Below.refl _ _).alloc (Nat.le_refl _) _).alloc (by simp) _
  have h2 := exDer w [0, 0, 1, 1] (by decide) hi
  refine (derives_calls exCfg [-1] [0, 0, 1, 1] _ _ _ _ (h.below hb) h2.1 h2.2 (by decide) (by decide)).mono ?_
  rintro e w' ⟨he, hB⟩
  have hn : Gen exCfg [-1] [0, 0, 1, 1] := ex_is (c := exCfg) rfl
  rw [dec_true hn] at he
  exact ⟨he, below2 hb hB⟩
set_option maxRecDepth 100000 in
set_option maxHeartbeats 4000000 in
theorem live_calls (w : World) : Calls Try.prog 7 #[] w fun e w' => e = .returned (.bool true) ∧ Below w.heap.size w w' := by
  have hL := exLaid w
  have hb0 : Below w.heap.size w (((((w.alloc (.cells #[.string ⟨#[97]⟩, .string ⟨#[98]⟩] 9)).alloc (.cells #[.string ⟨#[83]⟩] 9)).alloc (.cells #[.int .i64 0, .int .i64 (-1), .int .i64 1] 3)).alloc (.cells #[.slice (some ⟨w.heap.size + 2, 0, none⟩) 3 3, .slice none 0 0] 34)).alloc (.cells #[.slice (some ⟨w.heap.size + 3, 0, none⟩) 2 2] 28)) :=
    (((((Below.refl _ _).alloc (Nat.le_refl _) _).alloc (by simp) _).alloc (by simp; omega) _).alloc (by simp; omega) _).alloc (by simp; omega) _
  have hs0 : (((((w.alloc (.cells #[.string ⟨#[97]⟩, .string ⟨#[98]⟩] 9)).alloc (.cells #[.string ⟨#[83]⟩] 9)).alloc (.cells #[.int .i64 0, .int .i64 (-1), .int .i64 1] 3)).alloc (.cells #[.slice (some ⟨w.heap.size + 2, 0, none⟩) 3 3, .slice none 0 0] 34)).alloc (.cells #[.slice (some ⟨w.heap.size + 3, 0, none⟩) 2 2] 28)).heap.size = w.heap.size + 5 := by simp
  have HL := Lib.hid (And.intro hL hb0)
  have hi3 : ∀ x ∈ [(0 : Int), 0, 1], Ty.i64 x := fun x hx => by simp at hx; rcases hx with rfl | rfl <;> (unfold Ty.i64; omega)
  have hi4 : ∀ x ∈ [(0 : Int), 0, 1, 1], Ty.i64 x := fun x hx => by simp at hx; rcases hx with rfl | rfl <;> (unfold Ty.i64; omega)
  have HI := Lib.hid (And.intro hi3 hi4)
  clear hL hb0 hi3 hi4
  generalize hW : (((((w.alloc (.cells #[.string ⟨#[97]⟩, .string ⟨#[98]⟩] 9)).alloc (.cells #[.string ⟨#[83]⟩] 9)).alloc (.cells #[.int .i64 0, .int .i64 (-1), .int .i64 1] 3)).alloc (.cells #[.slice (some ⟨w.heap.size + 2, 0, none⟩) 3 3, .slice none 0 0] 34)).alloc (.cells #[.slice (some ⟨w.heap.size + 3, 0, none⟩) 2 2] 28)) = W at HL hs0
  have HW := Lib.hid hW; clear hW
  have hsz := HL.out.2.size
  have hcfg6 := HL.out.1.below ((Below.refl W.heap.size W).alloc (Nat.le_refl _) (.cells #[.slice (some ⟨w.heap.size, 0, none⟩) 2 2, .slice (some ⟨w.heap.size + 1, 0, none⟩) 1 1, .slice (some ⟨w.heap.size + 1 + 1 + 1 + 1, 0, none⟩) 1 1] 25))
  have hbx6 := Box.new W #[.slice (some ⟨w.heap.size, 0, none⟩) 2 2, .slice (some ⟨w.heap.size + 1, 0, none⟩) 1 1, .slice (some ⟨w.heap.size + 1 + 1 + 1 + 1, 0, none⟩) 1 1] 25
  have hb6 := HL.out.2.alloc hsz (.cells #[.slice (some ⟨w.heap.size, 0, none⟩) 2 2, .slice (some ⟨w.heap.size + 1, 0, none⟩) 1 1, .slice (some ⟨w.heap.size + 1 + 1 + 1 + 1, 0, none⟩) 1 1] 25)
  have hsen := sen_calls short_calls exCfg _ 0 4 _ hcfg6 exOk exSmall
  have H6 := Lib.hid (And.intro hcfg6 (And.intro hbx6 (And.intro hb6 hsen)))
  clear hcfg6 hbx6 hb6 hsen
  rw [hs0] at H6
  have HW2 := HW
  go_enter Try.func7, Try.ntmps7
  go_wp2_with (first | (go_at_call 9; (rw [HW.out]); refine H6.out.2.2.2.mono ?_; rintro e w7 he; obtain ⟨v7, rfl, hb7, hB7⟩ := exSen he; clear he; obtain ⟨A7, c7, rfl, _⟩ := hb7.sl; have hx7 := H6.out.2.1.below hB7; have x0 : w7.cell? ⟨w.heap.size + 1 + 1 + 1 + 1 + 1, 0, none⟩ = some (.slice (some ⟨w.heap.size, 0, none⟩) 2 2) := hx7.cell 0 rfl; have x1 : w7.cell? ⟨w.heap.size + 1 + 1 + 1 + 1 + 1, 1, none⟩ = some (.slice (some ⟨w.heap.size + 1, 0, none⟩) 1 1) := hx7.cell 1 rfl; have x2 : w7.cell? ⟨w.heap.size + 1 + 1 + 1 + 1 + 1, 2, none⟩ = some (.slice (some ⟨w.heap.size + 1 + 1 + 1 + 1, 0, none⟩) 1 1) := hx7.cell 2 rfl; have H7 := Lib.hid (And.intro hb7 (And.intro (below2 H6.out.2.2.1 hB7) (And.intro hx7 (H6.out.1.below hB7)))); clear hb7 hB7 hx7) | (go_at_call 11; refine (sameLists_calls _ _ [[], [0, 1], [0, 0, 1, 1]] _ _ (H7.out.1.below (((Below.refl _ _).alloc (Nat.le_refl _) _).alloc (by simp) _ |>.alloc (by simp; omega) _)).sl (exLists w7)).mono ?_; (rw [decide_eq_true rfl]); rintro e w8 ⟨rfl, hD8⟩; have hb8 : Below w7.heap.size w7 w8 := below2 (((Below.refl _ _).alloc (Nat.le_refl _) _).alloc (by simp) _ |>.alloc (by simp; omega) _) hD8.below; have hx8 := H7.out.2.2.1.below hb8; have y0 : w8.cell? ⟨w.heap.size + 1 + 1 + 1 + 1 + 1, 0, none⟩ = some (.slice (some ⟨w.heap.size, 0, none⟩) 2 2) := hx8.cell 0 rfl; have y1 : w8.cell? ⟨w.heap.size + 1 + 1 + 1 + 1 + 1, 1, none⟩ = some (.slice (some ⟨w.heap.size + 1, 0, none⟩) 1 1) := hx8.cell 1 rfl; have y2 : w8.cell? ⟨w.heap.size + 1 + 1 + 1 + 1 + 1, 2, none⟩ = some (.slice (some ⟨w.heap.size + 1 + 1 + 1 + 1, 0, none⟩) 1 1) := hx8.cell 2 rfl; have H8 := Lib.hid (And.intro (below2 H7.out.2.1 hb8) (And.intro hx8 (H7.out.2.2.2.below hb8))); clear hb8 hx8 hD8) | (go_at_call 12; refine (exD2 w9 _ H9.out.2 HI.out.2).mono ?_; rintro e wA ⟨rfl, hbA⟩) | (go_at_call 12; refine (exD1 w8 _ H8.out.2.2 HI.out.1).mono ?_; rintro e w9 ⟨rfl, hb9⟩; have hx9 := H8.out.2.1.below hb9; have z0 : w9.cell? ⟨w.heap.size + 1 + 1 + 1 + 1 + 1, 0, none⟩ = some (.slice (some ⟨w.heap.size, 0, none⟩) 2 2) := hx9.cell 0 rfl; have z1 : w9.cell? ⟨w.heap.size + 1 + 1 + 1 + 1 + 1, 1, none⟩ = some (.slice (some ⟨w.heap.size + 1, 0, none⟩) 1 1) := hx9.cell 1 rfl; have z2 : w9.cell? ⟨w.heap.size + 1 + 1 + 1 + 1 + 1, 2, none⟩ = some (.slice (some ⟨w.heap.size + 1 + 1 + 1 + 1, 0, none⟩) 1 1) := hx9.cell 2 rfl; have H9 := Lib.hid (And.intro (below2 H8.out.1 hb9) (H8.out.2.2.below hb9)); clear hb9 hx9))
  go_ret
  exact ⟨rfl, below2 H9.out.1 hbA⟩
end Go.Proofs.Ytgjobbapnileiaa
