/- through: the walk; maker.least: the walk. -/
import Derived.Test.YtgjobbapnileiaaZ08
import Derived.Test.YtgjobbapnileiaaZ10
set_option linter.unusedVariables false
set_option linter.unusedSimpArgs false
namespace Go.Proofs.Ytgjobbapnileiaa
open Go.RowKit Gk

theorem Eff.trans {w w1 w2 : World} {In In1 In2 : Nat → Prop} (h : Eff w w1 In In1) (k : Eff w1 w2 In1 In2) : Eff w w2 In In2 := by
  have hs := h.size
  have hs2 := k.size
  refine ⟨k.os.trans h.os, k.tape.trans h.tape, k.output.trans h.output, Nat.le_trans hs hs2, fun c hc hn => ?_, fun c hc => ?_, fun c hc => k.old c (h.old c hc)⟩
  · rw [k.block c (by omega) (fun h1 => ?_), h.block c hc hn]
    rcases h.new c h1 with h2 | h2
    · exact hn h2
    · omega
  · rcases k.new c hc with h1 | h1
    · rcases h.new c h1 with h2 | h2
      · exact .inl h2
      · exact .inr (by omega)
    · exact .inr (by omega)
/-- a step that writes a block of the call's own, or makes one -/
theorem Eff.grown {w w1 w2 : World} {In In1 : Nat → Prop} (h : Eff w w1 In In1) {row : Option Nat} (g : w1.grownBy w2 row) (hr : ∀ k, row = some k → w.heap.size ≤ k) : Eff w w2 In In1 := by
  have hs := h.size
  have hs2 := g.size
  refine ⟨g.os.trans h.os, g.tape.trans h.tape, g.output.trans h.output, Nat.le_trans hs hs2, fun c hc hn => ?_, fun c hc => ?_, h.old⟩
  · rw [g.block c (by omega) (fun e => by have := hr c e.symm; omega), h.block c hc hn]
  · rcases h.new c hc with h1 | h1
    · exact .inl h1
    · exact .inr (by omega)
theorem Eff.draw {w w1 : World} {In In1 : Nat → Prop} (h : Eff w w1 In In1) (n : Nat) : Eff w (w1.drewN n) In In1 := ⟨h.os, h.tape, h.output, h.size, h.block, h.new, h.old⟩
theorem Chart.grown {w w1 : World} {X : Nat} {a b d tv : Value} {σ : St} {B : Nat} {In : Nat → Prop} (h : Chart w X a b d tv σ B In) {row : Option Nat} (g : w.grownBy w1 row) (hr : ∀ k, row = some k → ¬ In k) : Chart w1 X a b d tv σ B In :=
  h.keep g.size fun c hc hi => g.block c hc fun e => hr c e.symm hi
theorem Chart.below {w w1 wB : World} {X : Nat} {a b d tv : Value} {σ : St} {In In1 : Nat → Prop} (h : Chart w X a b d tv σ wB.heap.size In) (hW : Below wB.heap.size wB w) (k : Eff w w1 In In1) : Below wB.heap.size wB w1 := by
  obtain ⟨m, vW, E, h⟩ := h
  have hs := hW.size
  exact ⟨k.os.trans hW.os, k.tape.trans hW.tape, k.output.trans hW.output, Nat.le_trans hs k.size, fun c hc => by
    rw [k.block c (by omega) (fun hi => by have := h.lb c hi; omega)]; exact hW.block c hc⟩

def thrEnd (c : Cfg) (toks : List Int) (σ : St) (seq : List Int) (f : Int) (X : Nat) (a b d tv : Value) (B : Nat) (In : Nat → Prop) (w : World) (e : Ending) (w' : World) : Prop :=
  ∃ bl K σ' In', e = .returned (.map (some bl)) ∧ Chart w' X a b d tv σ' B In' ∧ Eff w w' In In' ∧ Ext0 σ σ' ∧ StOk c toks.length σ' ∧ w.heap.size ≤ bl ∧ ¬ In' bl ∧ ISet w' bl K ∧ (∀ j ∈ K, 0 ≤ j ∧ j ≤ toks.length) ∧
    (∀ j, j ∈ K ↔ thr c toks σ seq (· = f) j) ∧ (∀ p ∈ σ'.W, p ∈ σ.W ∨ askd c toks σ seq (· = f) p) ∧ (∀ p, askd c toks σ seq (· = f) p → p ∈ σ'.W)
def Thr1 (c : Cfg) (toks : List Int) (σ : St) (seq : List Int) (f : Int) (X : Nat) (a b d tv : Value) (B : Nat) (In : Nat → Prop) (w : World) (i now : Value) (wr : World) : Prop :=
  ∃ n, n ≤ seq.length ∧ i = .int .i64 (n : Nat) ∧ thrEnd c toks σ (seq.take n) f X a b d tv B In w (.returned now) wr
def Thr2 (c : Cfg) (toks : List Int) (σ σ1 : St) (k : Int) (X : Nat) (a b d tv : Value) (B : Nat) (In : Nat → Prop) (w : World) (bl r b2 : Nat) (K : List Int) (wr : World) : Prop :=
  ∃ (L : List Int) (cnt : Nat) (K2 : List Int) (σ' : St) (In' : Nat → Prop), RangeAt Try.prog 3 4 wr bl r K L cnt ∧ Chart wr X a b d tv σ' B In' ∧ Eff w wr In In' ∧ Ext0 σ σ' ∧ StOk c toks.length σ' ∧ ¬ In' bl ∧ ¬ In' r ∧ ¬ In' b2 ∧ ISet wr b2 K2 ∧
    (∀ j, j ∈ K2 ↔ ∃ i ∈ K, i ∉ L ∧ one c toks σ k i j) ∧ (∀ p ∈ σ'.W, p ∈ σ1.W ∨ ∃ i ∈ K, i ∉ L ∧ k < 0 ∧ -1 - k < c.alts.length ∧ p = (-1 - k, i)) ∧ (∀ p ∈ σ1.W, p ∈ σ'.W) ∧ (∀ i ∈ K, i ∉ L → k < 0 → -1 - k < c.alts.length → ((-1 - k, i) : Pl) ∈ σ'.W)
theorem i64_notneg (k : Int) (h1 : -9223372036854775808 ≤ k) (h2 : k < 0) : bits .xor .i64 (-1) k = -1 - k := by
  show IntKind.i64.wrap ((BitVec.ofInt 64 (-1) ^^^ BitVec.ofInt 64 k).toNat : Int) = _
  have h1' : BitVec.ofInt 64 (-1) = BitVec.allOnes 64 := by decide
  rw [h1', BitVec.allOnes_xor, BitVec.toNat_not, BitVec.toNat_ofInt]
  have e : (k % ((2 ^ 64 : Nat) : Int)).toNat = (k + 18446744073709551616).toNat := by omega
  rw [e]
  have e2 : ((2 ^ 64 - 1 - (k + 18446744073709551616).toNat : Nat) : Int) = -1 - k := by omega
  rw [e2]
  simp [IntKind.wrap, IntKind.bits, IntKind.signed]
  omega
theorem tokCase {w : World} {AT : Option Addr} {toks : List Int} (h : Row Ty.int w AT toks) {x : Int} (hx : 0 ≤ x ∧ x ≤ toks.length) (k : Int) :
    ∃ xn : Nat, x = xn ∧ ((¬ xn < toks.length ∧ Hid (toks[xn]? = none)) ∨ ∃ ad y, AT = some ad ∧ xn < toks.length ∧ w.cell? (ad.add xn) = some (.int .i64 y) ∧ (((y == k) = true ∧ Hid (toks[xn]? = some k)) ∨ ((y == k) = false ∧ Hid (toks[xn]? ≠ some k)))) := by
  obtain ⟨xn, rfl⟩ := Int.eq_ofNat_of_zero_le hx.1
  refine ⟨xn, rfl, ?_⟩
  by_cases hlt : xn < toks.length
  · obtain ⟨y, hy⟩ := at_lt toks hlt
    obtain ⟨ad, e, _, hc⟩ := h.int hy
    refine .inr ⟨ad, y, e, hlt, hc, ?_⟩
    by_cases e2 : y = k
    · subst e2; exact .inl ⟨by simp, hy⟩
    · exact .inr ⟨by simpa using e2, by rw [hy]; intro e3; injection e3 with e3; exact e2 e3⟩
  · exact .inl ⟨hlt, List.getElem?_eq_none (by omega)⟩
theorem notIn {In : Nat → Prop} {r : Nat} (h : ¬ In r) : ∀ k, some r = some k → ¬ In k := fun k e => by injection e with e; exact e ▸ h
theorem notin_filter {L : List Int} {x i : Int} : i ∉ L.filter (· ≠ x) ↔ i ∉ L ∨ i = x := by
  simp only [List.mem_filter, decide_eq_true_eq, not_and, Decidable.not_not]
  constructor
  · intro h; by_cases hi : i ∈ L
    · exact .inr (h hi)
    · exact .inl hi
  · rintro (h | h) hi
    · exact absurd hi h
    · exact h
def Thr3 (X : Nat) (a b d tv : Value) (σ2 : St) (B : Nat) (w : World) (In In3 : Nat → Prop) (bl r b2 b3 r3 : Nat) (K Lx K2 K3 : List Int) (cnt' : Nat) (wr : World) : Prop :=
  ∃ (L3 : List Int) (cnt3 : Nat) (K2' : List Int), RangeAt Try.prog 3 4 wr b3 r3 K3 L3 cnt3 ∧ Chart wr X a b d tv σ2 B In3 ∧ Eff w wr In In3 ∧ RangeAt Try.prog 3 4 wr bl r K Lx cnt' ∧ ISet wr b2 K2' ∧ ∀ j, j ∈ K2' ↔ j ∈ K2 ∨ (j ∈ K3 ∧ j ∉ L3)
theorem Thr2.next {c : Cfg} {toks : List Int} {σ σ1 σ' σ'' : St} {k x : Int} {X : Nat} {a b d tv : Value} {B : Nat} {In In'' : Nat → Prop} {w w4 : World} {bl r b2 : Nat} {K L K2 K2' : List Int} {cnt' : Nat}
    (hR : RangeAt Try.prog 3 4 w4 bl r K (L.filter (· ≠ x)) cnt') (hC : Chart w4 X a b d tv σ'' B In'') (hE : Eff w w4 In In'') (hX : Ext0 σ σ'') (hO : StOk c toks.length σ'') (h1 : ¬ In'' bl) (h2 : ¬ In'' r) (h3 : ¬ In'' b2) (hN : ISet w4 b2 K2')
    (hj : ∀ j, j ∈ K2' ↔ j ∈ K2 ∨ one c toks σ k x j) (hxK : x ∈ K) (hK2 : ∀ j, j ∈ K2 ↔ ∃ i ∈ K, i ∉ L ∧ one c toks σ k i j)
    (hW1 : ∀ p ∈ σ'.W, p ∈ σ1.W ∨ ∃ i ∈ K, i ∉ L ∧ k < 0 ∧ -1 - k < c.alts.length ∧ p = (-1 - k, i)) (hW2 : ∀ p ∈ σ1.W, p ∈ σ'.W) (hW3 : ∀ i ∈ K, i ∉ L → k < 0 → -1 - k < c.alts.length → ((-1 - k, i) : Pl) ∈ σ'.W)
    (s1 : ∀ p ∈ σ''.W, p ∈ σ'.W ∨ (k < 0 ∧ -1 - k < c.alts.length ∧ p = (-1 - k, x))) (s2 : ∀ p ∈ σ'.W, p ∈ σ''.W) (s3 : k < 0 → -1 - k < c.alts.length → ((-1 - k, x) : Pl) ∈ σ''.W) :
    Thr2 c toks σ σ1 k X a b d tv B In w bl r b2 K w4 := by
  refine ⟨L.filter (· ≠ x), cnt', K2', σ'', In'', hR, hC, hE, hX, hO, h1, h2, h3, hN, fun j => ?_, fun p hp => ?_, fun p hp => s2 p (hW2 p hp), fun i hi hiL hk hk' => ?_⟩
  · rw [hj j, hK2 j]
    constructor
    · rintro (⟨i, hi, hiL, ho⟩ | ho)
      · exact ⟨i, hi, notin_filter.2 (.inl hiL), ho⟩
      · exact ⟨x, hxK, notin_filter.2 (.inr rfl), ho⟩
    · rintro ⟨i, hi, hiL, ho⟩
      rcases notin_filter.1 hiL with h | rfl
      · exact .inl ⟨i, hi, h, ho⟩
      · exact .inr ho
  · rcases s1 p hp with h | ⟨hk, hk', e⟩
    · rcases hW1 p h with h | ⟨i, hi, hiL, r⟩
      · exact .inl h
      · exact .inr ⟨i, hi, notin_filter.2 (.inl hiL), r⟩
    · exact .inr ⟨x, hxK, notin_filter.2 (.inr rfl), hk, hk', e⟩
  · rcases notin_filter.1 hiL with h | rfl
    · exact s2 _ (hW3 i hi h hk hk')
    · exact s3 hk hk'
set_option maxRecDepth 100000 in
set_option maxHeartbeats 4000000 in
theorem through_calls (c : Cfg) (toks seq : List Int) (wB w : World) (hBw : Below wB.heap.size wB w) (X : Nat) (a b d tv u : Value) (σ : St) (In : Nat → Prop) (f : Int) (hf : 0 ≤ f ∧ f ≤ toks.length) (h : Chart w X a b d tv σ wB.heap.size In) (hok : StOk c toks.length σ)
    (hT : Sl Ty.int wB tv toks) (hd : Sl rowsT wB d c.alts) (hu : Sl Ty.int wB u seq) (hl1 : toks.length ≤ 1000) (hl2 : c.alts.length ≤ 1000) :
    Calls Try.prog 24 #[.pointer (some ⟨X, 0, none⟩), u, .int .i64 f] w (thrEnd c toks σ seq f X a b d tv wB.heap.size In w) := by
  obtain ⟨AT, cT, rfl, hcT, hmT, hlT, hrT⟩ := hT
  obtain ⟨AD, cD, rfl, hcD, hmD, hlD, hrD⟩ := hd
  obtain ⟨AU, cU, rfl, hcU, hmU, hlU, hrU⟩ := hu
  unfold LB at hlT hlD hlU
  have hmk := fun (w : World) => run_makeMap (P := Try.prog) 62 w
  have hnew0 : ISet (w.alloc (.map #[] 0)) w.heap.size [] := SetAt.new w
  have hf64 : Ty.i64 f := by unfold Ty.i64; omega
  go_enter Try.func24, Try.ntmps24
  go_wp2_with (refine wpList_put rfl rfl (.tmp 13) (.tmp 14) (.const (.bool true)) 62 3 4 w.heap.size [] f (.inr rfl) Try.underlying3 Try.underlying4 Try.underlying62 rfl rfl rfl hf64 hnew0 (Nat.zero_lt_succ _) ?_; intro w1 hS1 hg1)
  have hg0 : w.grownBy w1 none := by
    refine ⟨hg1.os, hg1.tape, hg1.output, by have := hg1.size; simp at this; omega, fun c hc _ => ?_⟩
    rw [hg1.block c (by simp; omega) (by intro e; injection e with e; omega), heap_alloc_old w _ hc]
  have hE1 : Eff w w1 In In := (Eff.refl w In).grown hg0 (by simp)
  have hnIn : ¬ In w.heap.size := by
    obtain ⟨m, vW, E, h'⟩ := h
    intro hc; have := h'.ub _ hc; omega
  go_loopw [18, 7] (fun i now wr => Thr1 c toks σ seq f X a b (.slice AD c.alts.length cD) (.slice AT toks.length cT) wB.heap.size In w i now wr) (fun i _ _ => seq.length - (intOf i).toNat)
  case atStart =>
    refine ⟨0, Nat.zero_le _, rfl, w.heap.size, insK f [], σ, In, rfl, h.grown hg0 (by simp), hE1, Ext0.refl σ, hok, Nat.le_refl _, hnIn, hS1, ?_, ?_, ?_, ?_⟩
    · intro j hj; simp [insK] at hj; subst hj; exact hf
    · intro j; simp [insK, thr]
    · intro p hp; exact .inl hp
    · rintro p ⟨n, k, i, hn, _⟩; simp at hn
  case round =>
    obtain ⟨n, hn, rfl, bl, K, σ1, In1, e, hC, hE, hX, hOk, hbl, hnbl, hS, hKr, hK, hWs, hWc⟩ := hrel
    injection e with e
    subst e
    have hwsz : w.heap.size ≤ wr.heap.size := hE.size
    by_cases hlt : n < seq.length
    · obtain ⟨k, hk⟩ := at_lt seq hlt
      have hBr := h.below hBw hE
      obtain ⟨ad, rfl, hk64, hcellS⟩ := (hrU.below hBr).int hk
      unfold Ty.i64 at hk64
      have HK := Lib.hid hk; clear hk
      have hE2 : Eff w (wr.alloc (.map #[] 0)) In In1 := hE.grown (World.grownBy_alloc wr _ none) (by simp)
      have hC2 := hC.grown (World.grownBy_alloc wr (.map #[] 0) none) (by simp)
      have hS2 : ISet (wr.alloc (.map #[] 0)) bl K := hS.keep (heap_alloc_old wr _ hS.lt)
      have hN2 : ISet (wr.alloc (.map #[] 0)) wr.heap.size [] := SetAt.new wr
      have hszr : (wr.alloc (.map #[] 0)).heap.size = wr.heap.size + 1 := by simp
      obtain ⟨wo, rfl⟩ : ∃ wo : World, wo = wr := ⟨_, rfl⟩
      have hblt := hS.lt
      go_wp2_with (at_range; refine wpList_range rfl (.tmp 23) 62 3 4 bl K rfl Try.underlying3 Try.underlying62 rfl hS2 ?_; intro w2 hR2 hg2 hs2)
      go_frame
      have hr2 : w2.heap.size = wo.heap.size + 2 := by omega
      rw [hszr] at hR2 ⊢
      have hC3 := hC2.grown hg2 (by simp)
      have hE3 := hE2.grown hg2 (by simp)
      have hN3 : ISet w2 wo.heap.size [] := hN2.keep (hg2.block _ (by rw [hszr]; omega) (by simp))
      have hub : ∀ c, In1 c → c < wo.heap.size := by obtain ⟨m, vW, E, h'⟩ := hC; exact h'.ub
      go_loopw [] (fun wr => Thr2 c toks σ σ1 k X a b (.slice AD c.alts.length cD) (.slice AT toks.length cT) wB.heap.size In w bl (wo.heap.size + 1) wo.heap.size K wr) (fun wr => wr.rangeLeft bl (wo.heap.size + 1))
      case atStart =>
        refine ⟨K, K.length, [], σ1, In1, hR2, hC3, hE3, hX, hOk, hnbl, ?_, ?_, hN3, ?_, ?_, fun p hp => hp, ?_⟩
        · intro hc; have := hub _ hc; omega
        · intro hc; have := hub _ hc; omega
        · intro j; simp; intro i h1 h2; exact absurd h1 h2
        · intro p hp; exact .inl hp
        · intro i h1 h2; exact absurd h1 h2
      case round =>
        clear hR2 hC3 hE3 hN3 hub hC2 hE2 hS2 hN2 hg2 hs2 hr2 hcellS hS hC hE
        obtain ⟨L, cnt, K2, σ', In', hR, hC', hE', hX', hOk', hb1, hb2, hb3, hN, hK2, hW1, hW2, hW3⟩ := hrel
        have hdone : (∀ x, x ∉ L) → Thr1 c toks σ seq f X a b (.slice AD c.alts.length cD) (.slice AT toks.length cT) wB.heap.size In w (.int .i64 ((n : Int) + 1)) (.map (some wo.heap.size)) wr := fun hL0 => by
          have e1 := take_next HK.out
          refine ⟨n + 1, by omega, by simp, wo.heap.size, K2, σ', In', rfl, hC', hE', hX', hOk', by omega, hb3, hN, fun j hj => ?_, fun j => ?_, fun p hp => ?_, fun p hp => ?_⟩
          · obtain ⟨i, _, _, ho⟩ := (hK2 j).1 hj
            exact one_range hok ho
          · rw [e1, thr_snoc, hK2 j]
            unfold stepP
            constructor
            · rintro ⟨i, h1, _, h3⟩; exact ⟨i, (hK i).1 h1, h3⟩
            · rintro ⟨i, h1, h3⟩; exact ⟨i, (hK i).2 h1, hL0 i, h3⟩
          · rw [e1, askd_snoc]
            rcases hW1 p hp with h1 | ⟨i, h1, _, h2, h3, h4⟩
            · rcases hWs p h1 with h5 | h5
              · exact .inl h5
              · exact .inr (.inl h5)
            · exact .inr (.inr ⟨h2, h3, i, (hK i).1 h1, h4⟩)
          · rw [e1, askd_snoc] at hp
            rcases hp with hp | ⟨h2, h3, i, h4, rfl⟩
            · exact hW2 p (hWc p hp)
            · exact hW3 i ((hK i).2 h4) (hL0 i) h2 h3
        by_cases hk0 : 0 ≤ k
        · have hne1 : some wo.heap.size ≠ some (wo.heap.size + 1) := by simp
          have hK2r : ∀ j ∈ K2, 0 ≤ j ∧ j ≤ (toks.length : Int) := fun j hj => by obtain ⟨i, _, _, ho⟩ := (hK2 j).1 hj; exact one_range hok ho
          have hK2l : K2.length < maxLen := by
            obtain ⟨D, _, hD⟩ := hN
            have := ends_le hD.nodup hK2r
            simp only [maxLen]; omega
          have hNlt := hN.lt
          have hplus : ∀ xn : Nat, xn < toks.length → Ty.i64 ((xn : Int) + 1) := fun xn hx => by unfold Ty.i64; omega
          have hrw : ∀ r', some r' = some (wo.heap.size + 1) → ∀ k', some r' = some k' → w.heap.size ≤ k' := fun r' e1 k' e2 => by injection e1 with e1; injection e2 with e2; omega
          go_wp2_with (first | (at_next; refine wpList_next rfl (.tmp 24) 3 4 bl (wo.heap.size + 1) K L cnt rfl Try.underlying3 Try.underlying4 rfl hR ?_ ?_; all_goals first | (intro x cb w3 cnt' hx64 hxL hxK hR3 hcl hg3 hsz3 hen; have hC3 := hC'.grown hg3 (notIn hb2); have hE3 := hE'.grown hg3 (hrw _ rfl); have hB3 := h.below hBw hE3; have hC4 := hC3; obtain ⟨m, vW, E, hCA⟩ := hC4; have x2 := hCA.box.cell 2 (v := .slice AD c.alts.length cD) rfl; have x3 := hCA.box.cell 3 (v := .slice AT toks.length cT) rfl; have hN3 := hN.keep (hg3.block _ hNlt hne1); obtain ⟨xn, rfl, hcase⟩ := tokCase (hrT.below hB3) (hKr _ hxK) k; rcases hcase with ⟨q1, H1⟩ | ⟨ad', y, rfl, q1, q2, ⟨q4, H1⟩ | ⟨q4, H1⟩⟩) | intro hL0) | (at_mapUpdate; refine wpList_put rfl rfl (.tmp 50) (.tmp 52) (.const (.bool true)) 62 3 4 wo.heap.size K2 (xn + 1) (.inl rfl) Try.underlying3 Try.underlying4 Try.underlying62 rfl rfl rfl (hplus xn q1) hN3 hK2l ?_; intro w4 hS4 hg4))
          · exact ⟨hdone hL0, by simp [intOf]; omega⟩
          · refine ⟨Thr2.next hR3 hC3 hE3 hX' hOk' hb1 hb2 hb3 hN3 (fun j => ?_) hxK hK2 hW1 hW2 hW3 (fun p hp => .inl hp) (fun p hp => hp) (fun h1 _ => absurd h1 (by omega)), by rw [hR3.left_eq, hR.left_eq]; exact hcl⟩
            constructor
            · exact .inl
            · rintro (h1 | ho)
              · exact h1
              · rcases ho with ⟨_, _, h3, _⟩ | ⟨h1, _⟩
                · have e := H1.out; simp at h3; rw [e] at h3; cases h3
                · omega
          · have hRb := hR3.lt
            have hwo3 : some (wo.heap.size + 1) ≠ some wo.heap.size := by simp
            have hbl3 : some bl ≠ some wo.heap.size := by intro e'; injection e' with e'; omega
            have hR4 := hR3.keep (hg4.block _ hRb.1 hbl3) (hg4.block _ hRb.2.1 hwo3)
            refine ⟨Thr2.next hR4 (hC3.grown hg4 (notIn hb3)) (hE3.grown hg4 (fun k' e' => by injection e' with e'; omega)) hX' hOk' hb1 hb2 hb3 hS4 (fun j => ?_) hxK hK2 hW1 hW2 hW3 (fun p hp => .inl hp) (fun p hp => hp) (fun h1 _ => absurd h1 (by omega)), by rw [hR4.left_eq, hR.left_eq]; exact hcl⟩
            rw [mem_insK]
            constructor
            · rintro (h1 | rfl)
              · exact .inl h1
              · exact .inr (.inl ⟨hk0, by omega, by simpa using H1.out, rfl⟩)
            · rintro (h1 | ho)
              · exact .inl h1
              · rcases ho with ⟨_, _, _, h4⟩ | ⟨h1, _⟩
                · exact .inr h4
                · omega
          · refine ⟨Thr2.next hR3 hC3 hE3 hX' hOk' hb1 hb2 hb3 hN3 (fun j => ?_) hxK hK2 hW1 hW2 hW3 (fun p hp => .inl hp) (fun p hp => hp) (fun h1 _ => absurd h1 (by omega)), by rw [hR3.left_eq, hR.left_eq]; exact hcl⟩
            constructor
            · exact .inl
            · rintro (h1 | ho)
              · exact h1
              · rcases ho with ⟨_, _, h3, _⟩ | ⟨h1, _⟩
                · have e := H1.out; simp at h3; exact absurd h3 e
                · omega
        · have hk2 : k < 0 := by omega
          have HXOR := Lib.hid (i64_notneg k hk64.1 hk2)
          have HK2 := Lib.hid hk2
          by_cases hk1 : -1 - k < c.alts.length
          · have hk1' : decide (bits .xor .i64 (-1) k < (c.alts.length : Int)) = true := by rw [HXOR.out]; simpa using hk1
            have hk1'' : decide (bits .xor .i64 (if IntKind.i64.signed = true then -1 else 9223372036854775807) k < (c.alts.length : Int)) = true := hk1'
            have hk0' : decide (k ≥ 0) = false := by simpa using hk2
            have HK1 := Lib.hid hk1; clear hk1
            have HK0 := Lib.hid hk0; clear hk0
            have hrw : ∀ r', some r' = some (wo.heap.size + 1) → ∀ k', some r' = some k' → w.heap.size ≤ k' := fun r' e1 k' e2 => by injection e1 with e1; injection e2 with e2; omega
            have hpl : ∀ x, x ∈ K → Pl.ok (bits .xor .i64 (-1) k, x) ∧ (0 ≤ bits .xor .i64 (-1) k ∧ bits .xor .i64 (-1) k < c.alts.length ∧ 0 ≤ x ∧ x ≤ (toks.length : Int)) := fun x hx => by
              have := hKr x hx
              have h1 := HK1.out
              have h2 := HK2.out
              rw [HXOR.out]
              refine ⟨⟨?_, ?_⟩, ?_⟩
              · show Ty.i64 (-1 - k); unfold Ty.i64; omega
              · show Ty.i64 x; unfold Ty.i64; omega
              · omega
            have hWl : (σ'.W.length + 1) * 16 ≤ 140737488355328 := by
              have h1 := places_le hOk'
              have h2 : c.alts.length * (toks.length + 1) ≤ 1000 * 1001 := Nat.mul_le_mul hl2 (by omega)
              omega
            have hBs : wB.heap.size ≤ wr.heap.size := Nat.le_trans hBw.size hE'.size
            go_wp2_with (first | (at_next; refine wpList_next rfl (.tmp 24) 3 4 bl (wo.heap.size + 1) K L cnt rfl Try.underlying3 Try.underlying4 rfl hR ?_ ?_; all_goals first | (intro x cb w3 cnt' hx64 hxL hxK hR3 hcl hg3 hsz3 hen; have hC3 := hC'.grown hg3 (notIn hb2); have hE3 := hE'.grown hg3 (hrw _ rfl); have hC4 := hC3; obtain ⟨m, vW, E, hCA⟩ := hC4; have x2 := hCA.box.cell 2 (v := .slice AD c.alts.length cD) rfl; have x3 := hCA.box.cell 3 (v := .slice AT toks.length cT) rfl) | intro hL0) | (go_at_call 40; refine (of_calls w3 X a b (.slice AD c.alts.length cD) (.slice AT toks.length cT) σ' wB.heap.size In' (bits .xor .i64 (-1) k, x) (hpl x hxK).1 hC3 (Nat.le_trans hBs hg3.size) hWl).mono ?_; rintro e w4 ⟨b3, In3, rfl, hC5, hE5, hb3In, hS5⟩) | (at_range; refine wpList_range rfl (.tmp 68) 62 3 4 b3 _ rfl Try.underlying3 Try.underlying62 rfl hS5 ?_; intro w5 hR5 hg5 hs5))
            · exact ⟨hdone hL0, by simp [intOf]; omega⟩
            · try go_frame
              have hq : ((bits .xor .i64 (-1) k, x) : Pl) = (-1 - k, x) := by rw [HXOR.out]
              have hpr := (hpl x hxK).2
              have hOk5 := hOk'.want (p := (bits .xor .i64 (-1) k, x)) hpr
              rw [hq] at hC5 hS5 hR5 hOk5
              have hX5 := hX'.trans (Ext0.want σ' (-1 - k, x))
              have hK3 := want_S hX' (-1 - k, x)
              have hs3r := hOk5.s _ (want_mem σ' (-1 - k, x))
              have hnodup3 : ((σ'.want (-1 - k, x)).S (-1 - k, x)).Nodup := by obtain ⟨D, _, hD⟩ := hS5; exact hD.nodup
              generalize (σ'.want (-1 - k, x)).S (-1 - k, x) = K3 at hS5 hR5 hK3 hs3r hnodup3
              have hlt3 := hR3.lt
              have hNlt := hN.lt
              have hub3 : ∀ c, In3 c → c < w4.heap.size := by obtain ⟨m', vW', E', h'⟩ := hC5; exact h'.ub
              have hn3 : ∀ c, ¬ In' c → c < w3.heap.size → ¬ In3 c := fun c h1 h2 h3 => by
                rcases hE5.new c h3 with h4 | h4
                · exact h1 h4
                · omega
              have hb31 := hn3 _ hb1 hlt3.1
              have hb32 := hn3 _ hb2 hlt3.2.1
              have hb33 := hn3 _ hb3 (by omega)
              have hs34 := hE5.size
              have hC6 := hC5.grown hg5 (by simp)
              have hE6 := (hE3.trans hE5).grown hg5 (by simp)
              have hkp : ∀ c, c < w3.heap.size → ¬ In' c → w5.heap[c]? = w3.heap[c]? := fun c h1 h2 => by
                rw [hg5.block c (by omega) (by simp), hE5.block c h1 h2]
              have hR6 := hR3.keep (hkp _ hlt3.1 hb1) (hkp _ hlt3.2.1 hb2)
              have hN3 : ISet w3 wo.heap.size K2 := hN.keep (hg3.block _ hNlt (by simp))
              have hN6 := hN3.keep (hkp _ (by omega) hb3)
              have hb3lt := hub3 _ hb3In
              have hne32 : b3 ≠ wo.heap.size := fun e => hb33 (e ▸ hb3In)
              obtain ⟨w2r, rfl⟩ : ∃ w2r : World, w2r = wr := ⟨_, rfl⟩
              go_loopw [] (fun wr => Thr3 X a b (.slice AD c.alts.length cD) (.slice AT toks.length cT) (σ'.want (-1 - k, x)) wB.heap.size w In In3 bl (wo.heap.size + 1) wo.heap.size b3 w4.heap.size K (L.filter (· ≠ x)) K2 K3 cnt' wr) (fun wr => wr.rangeLeft b3 w4.heap.size)
              case atStart => exact ⟨K3, K3.length, K2, hR5, hC6, hE6, hR6, hN6, fun j => ⟨.inl, fun h => h.elim id fun h => absurd h.1 h.2⟩⟩
              case round =>
                clear hC6 hE6 hR6 hN6 hR5 hkp hN3
                obtain ⟨L3, cnt3, K2', hR6, hC6, hE6, hR7, hN6, hK2'⟩ := hrel
                have hK2l : K2'.length < maxLen := by
                  have h1 : ∀ j ∈ K2', 0 ≤ j ∧ j ≤ (toks.length : Int) := fun j hj => by
                    rcases (hK2' j).1 hj with h2 | h2
                    · obtain ⟨i, _, _, ho⟩ := (hK2 j).1 h2; exact one_range hok ho
                    · exact hs3r j h2.1
                  obtain ⟨D, _, hD⟩ := hN6
                  have := ends_le hD.nodup h1
                  simp only [maxLen]; omega
                have hne7 : some wo.heap.size ≠ some w4.heap.size := by intro e'; injection e' with e'; omega
                have hne8 : some bl ≠ some w4.heap.size := by intro e'; injection e' with e'; omega
                have hne9 : some (wo.heap.size + 1) ≠ some w4.heap.size := by intro e'; injection e' with e'; omega
                have hl7 := hR7.lt
                have hN6lt := hN6.lt
                have hr3 : ¬ In3 w4.heap.size := fun h1 => by have := hub3 _ h1; omega
                have hK3i : ∀ y ∈ K3, Ty.i64 y := fun y hy => by have := hs3r y hy; unfold Ty.i64; omega
                go_wp2_with (first | (at_next; refine wpList_next rfl (.tmp 69) 3 4 b3 w4.heap.size K3 L3 cnt3 rfl Try.underlying3 Try.underlying4 rfl hR6 ?_ ?_; all_goals first | (intro y cb2 w6 cnt4 hy64 hyL hyK hR8 hcl8 hg8 hsz8 hen8; have hN8 := hN6.keep (hg8.block _ hN6lt hne7)) | intro hL3) | (at_mapUpdate; refine wpList_put rfl rfl (.tmp 74) (.tmp 75) (.const (.bool true)) 62 3 4 wo.heap.size K2' y (.inl rfl) Try.underlying3 Try.underlying4 Try.underlying62 rfl rfl rfl hy64 hN8 hK2l ?_; intro w7 hS7 hg7))
                · refine ⟨Thr2.next hR7 hC6 hE6 hX5 hOk5 hb31 hb32 hb33 hN6 (fun j => ?_) hxK hK2 hW1 hW2 hW3 (fun p hp => ?_) (fun p hp => (Ext0.want σ' _).mem hp) (fun _ _ => want_mem σ' _), by rw [hR7.left_eq, hR.left_eq]; exact hcl⟩
                  · rw [hK2' j]
                    constructor
                    · rintro (h1 | ⟨h1, _⟩)
                      · exact .inl h1
                      · exact .inr (.inr ⟨HK2.out, HK1.out, (hK3 j).1 h1⟩)
                    · rintro (h1 | ⟨h1, _⟩ | ⟨_, _, h1⟩)
                      · exact .inl h1
                      · exact absurd h1 (by have := HK2.out; omega)
                      · exact .inr ⟨(hK3 j).2 h1, hL3 j⟩
                  · rcases want_W hp with h1 | h1
                    · exact .inl h1
                    · exact .inr ⟨HK2.out, HK1.out, h1⟩
                · have hb7 : some b3 ≠ some wo.heap.size := by intro e'; injection e' with e'; omega
                  have hr7 : some w4.heap.size ≠ some wo.heap.size := fun e => hne7 e.symm
                  have hbl7 : some bl ≠ some wo.heap.size := by intro e'; injection e' with e'; omega
                  have hwo7 : some (wo.heap.size + 1) ≠ some wo.heap.size := by simp
                  have hl8 := hR8.lt
                  have hR9 := hR8.keep (hg7.block _ hl8.1 hb7) (hg7.block _ hl8.2.1 hr7)
                  have hs86 := hg8.size
                  have hR10 := (hR7.keep (hg8.block _ hl7.1 hne8) (hg8.block _ hl7.2.1 hne9)).keep (hg7.block _ (by omega) hbl7) (hg7.block _ (by omega) hwo7)
                  refine ⟨⟨L3.filter (· ≠ y), cnt4, _, hR9, (hC6.grown hg8 (notIn hr3)).grown hg7 (notIn hb33), (hE6.grown hg8 (fun k' e' => by injection e' with e'; omega)).grown hg7 (fun k' e' => by injection e' with e'; omega), hR10, hS7, fun j => ?_⟩, by rw [hR9.left_eq, hR6.left_eq]; exact hcl8⟩
                  rw [mem_insK, hK2' j, notin_filter]
                  constructor
                  · rintro ((h1 | ⟨h1, h2⟩) | rfl)
                    · exact .inl h1
                    · exact .inr ⟨h1, .inl h2⟩
                    · exact .inr ⟨hyK, .inr rfl⟩
                  · rintro (h1 | ⟨h1, h2 | rfl⟩)
                    · exact .inl (.inl h1)
                    · exact .inl (.inr ⟨h1, h2⟩)
                    · exact .inr rfl
          · have hk1' : decide (bits .xor .i64 (-1) k < (c.alts.length : Int)) = false := by rw [HXOR.out]; simpa using hk1
            have hk1'' : decide (bits .xor .i64 (if IntKind.i64.signed = true then -1 else 9223372036854775807) k < (c.alts.length : Int)) = false := hk1'
            have hk0' : decide (k ≥ 0) = false := by simpa using hk2
            have HK1 := Lib.hid hk1; clear hk1
            have HK0 := Lib.hid hk0; clear hk0
            go_wp2_with (at_next; refine wpList_next rfl (.tmp 24) 3 4 bl (wo.heap.size + 1) K L cnt rfl Try.underlying3 Try.underlying4 rfl hR ?_ ?_; all_goals first | (intro x cb w3 cnt' hx64 hxL hxK hR3 hcl hg3 hsz3 hen; have hC3 := hC'.grown hg3 (notIn hb2); have hC4 := hC3; obtain ⟨m, vW, E, hCA⟩ := hC4; have x2 := hCA.box.cell 2 (v := .slice AD c.alts.length cD) rfl; have x3 := hCA.box.cell 3 (v := .slice AT toks.length cT) rfl) | intro hL0)
            · exact ⟨hdone hL0, by simp [intOf]; omega⟩
            · have hno : ∀ j, ¬ one c toks σ k x j := fun j ho => by
                rcases ho with ⟨h1, _⟩ | ⟨_, h1, _⟩
                · exact HK0.out h1
                · exact HK1.out h1
              refine ⟨Thr2.next hR3 hC3 (hE'.grown hg3 (by intro k' e'; injection e' with e'; omega)) hX' hOk' hb1 hb2 hb3 (hN.keep (hg3.block _ hN.lt (by intro e'; injection e' with e'; omega))) (fun j => by simp [hno j]) hxK hK2 hW1 hW2 hW3 (fun p hp => .inl hp) (fun p hp => hp) (fun _ h1 => absurd h1 HK1.out), ?_⟩
              rw [hR3.left_eq, hR.left_eq]; exact hcl
    · have hnn : n = seq.length := by omega
      have HN := Lib.hid hnn; clear hnn
      go_wp2
      go_ret
      have et : seq.take n = seq := List.take_of_length_le (by have := HN.out; omega)
      rw [et] at hK hWs hWc
      exact ⟨bl, K, σ1, In1, rfl, hC, hE, hX, hOk, hbl, hnbl, hS, hKr, hK, hWs, hWc⟩
end Go.Proofs.Ytgjobbapnileiaa
set_option linter.unusedVariables false
set_option linter.unusedSimpArgs false
namespace Go.Proofs.Ytgjobbapnileiaa
open Go.RowKit Gk

/-- a number of a grammar: what not of it is -/
theorem notOf {k : Int} (h1 : Ty.i64 k) (h2 : k < 0) : ∃ r : Nat, -1 - k = r ∧ bits .xor .i64 (-1) k = r := by
  refine ⟨(-1 - k).toNat, by omega, ?_⟩
  rw [i64_notneg k h1.1 h2]; omega
set_option maxRecDepth 100000 in
set_option maxHeartbeats 2000000 in
theorem least_calls (X : Nat) (a b d sv rv u : Value) (long : Int) (short s : List Int) (w : World) (hX : Box w X #[a, b, d, .int .i64 long, sv, rv] 49) (hs : Sl Ty.int w sv short) (hu : Sl Ty.int w u s) (hnn : ∀ x ∈ short, 0 ≤ x) :
    Calls Try.prog 33 #[.pointer (some ⟨X, 0, none⟩), u] w fun e w' => e = .returned (.int .i64 (leastP short s)) ∧ Drawn w w' := by
  obtain ⟨AS, cS, rfl, s1, s2, s3, s4⟩ := hs
  obtain ⟨AU, cU, rfl, u1, u2, u3, u4⟩ := hu
  unfold LB at s3 u3
  have hc := hX.cell 4 (v := .slice AS short.length cS) rfl
  have HN := Lib.hid hnn; clear hnn
  clear hX
  go_enter Try.func33, Try.ntmps33
  go_wp2
  go_loopw [11, 5] (fun i o wr => (∃ n : Nat, ∃ q : Int, n ≤ s.length ∧ i = .int .i64 n ∧ o = .int .i64 q ∧ 0 ≤ q ∧ q ≤ 100 ∧ Hid (q = leastP short (s.take n))) ∧ Drawn w wr) (fun i _ _ => s.length - (intOf i).toNat)
  case atStart => exact ⟨⟨0, 0, Nat.zero_le _, rfl, rfl, by omega, by omega, by simp [leastP, Hid]⟩, Drawn.refl _⟩
  case round =>
    obtain ⟨⟨n, q, hn, rfl, rfl, hq0, hq1, hq⟩, hD⟩ := hrel
    have hcr := cell_far hc hD.below.block
    have s4r := s4.below hD.below
    have u4r := u4.below hD.below
    clear s4 u4 hc
    have HQ : Hid _ := hq
    clear hq
    by_cases hlt : n < s.length
    · obtain ⟨k, hk⟩ := at_lt s hlt
      obtain ⟨ad, rfl, hk64, hcell⟩ := u4r.int hk
      have hstep : Hid (leastP short (s.take (n + 1)) = min (leastP short (s.take n) + morP short k) 100) := by
        rw [take_next hk, leastP_snoc]; rfl
      clear hk
      by_cases hk0 : k < 0
      · obtain ⟨r, hr, hxor⟩ := notOf hk64 hk0
        have hx1 : decide (bits .xor .i64 (-1) k < (short.length : Int)) = decide (r < short.length) := by rw [hxor]; simp
        have hxor' : bits .xor .i64 (if IntKind.i64.signed = true then -1 else 9223372036854775807) k = r := hxor
        by_cases hrs : r < short.length
        · obtain ⟨x, hx⟩ := at_lt short hrs
          obtain ⟨ads, rfl, hx64, hcx⟩ := s4r.int hx
          have hx0 := HN.out x (List.mem_of_getElem? hx)
          have hmor : Hid (morP short k = min x 100) := by
            unfold morP; rw [if_pos hk0, show (-1 - k).toNat = r by omega, hx]; rfl
          clear hx
          have HR := Lib.hid hr; clear hr
          go_wp2
          have hm : morP short k = _ := hmor
          have hst : leastP short _ = _ := hstep
          refine ⟨⟨⟨n + 1, min (q + min x 100) 100, by omega, by simp, rfl, by omega, by omega, ?_⟩, hD⟩, by simp [intOf]; omega⟩
          show _ = _
          rw [hst, hm, ← (show q = _ from HQ)]
        · have hmor : Hid (morP short k = 1) := by
            unfold morP; rw [if_pos hk0, show (-1 - k).toNat = r by omega, List.getElem?_eq_none (by omega)]; rfl
          have HR := Lib.hid hr; clear hr
          go_wp2
          have hm : morP short k = _ := hmor
          have hst : leastP short _ = _ := hstep
          refine ⟨⟨⟨n + 1, min (q + 1) 100, by omega, by simp, rfl, by omega, by omega, ?_⟩, hD⟩, by simp [intOf]; omega⟩
          show _ = _
          rw [hst, hm, ← (show q = _ from HQ)]
      · have hmor : Hid (morP short k = 1) := by
          unfold morP; rw [if_neg hk0]; rfl
        go_wp2
        have hm : morP short k = _ := hmor
        have hst : leastP short _ = _ := hstep
        refine ⟨⟨⟨n + 1, min (q + 1) 100, by omega, by simp, rfl, by omega, by omega, ?_⟩, hD⟩, by simp [intOf]; omega⟩
        show _ = _
        rw [hst, hm, ← (show q = _ from HQ)]
    · have hne : n = s.length := by omega
      have HNE := Lib.hid hne; clear hne
      go_wp2
      go_ret
      have : q = _ := HQ
      exact ⟨ret_int (by rw [this, HNE.out, List.take_length]), hD⟩
end Go.Proofs.Ytgjobbapnileiaa
