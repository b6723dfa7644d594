/- The reference's Sentences: the walk; DeriveAll: the walk. -/
import Derived.Test.YtgjobbapnileiaaZ19
import Derived.Test.YtgjobbapnileiaaZ22
import Derived.Test.YtgjobbapnileiaaZ14
import Derived.Deep.LoopGhost
import Derived.Test.YtgjobbapnileiaaZ15
set_option linter.unusedVariables false
set_option linter.unusedSimpArgs false
namespace Go.Proofs.Ytgjobbapnileiaa
open Go.RowKit Gk

abbrev madeR (short : List Int) (long : Int) (R : List Sents) (a : List Int) : Option Sents := madeS (restR short) R long a [[]]
/-- what is told of a run -/
def rsenEnd (c : Cfg) (r long : Int) (w : World) (e : Ending) (w' : World) : Prop :=
  Below w.heap.size w w' ∧
  if r < 0 ∨ (c.alts.length : Int) ≤ r ∨ long < 0 ∨ 8 < long then e = .returned (.tuple #[.slice none 0 0, .int .i64 1])
  else ∃ short n res, ShortOk c short ∧ loopS (madeR short long) c.alts n (List.replicate c.alts.length []) = some res ∧ match res with
    | none => e = .returned (.tuple #[.slice none 0 0, .int .i64 2])
    | some R => ∃ v, e = .returned (.tuple #[v, .int .i64 0]) ∧ Bag 0 w' v (R.getD r.toNat [])
theorem madeR_ok {short : List Int} (hnn : ∀ x ∈ short, 0 ≤ x) {long : Int} (hl : 0 ≤ long) {R : List Sents} {a : List Int} {l : Sents} (h : madeR short long R a = some l) : Srt l ∧ Shrt long l ∧ l.length ≤ 3600 :=
  madeS_ok (fun s => (restR_bd hnn s).1) hl a [[]] h (by simp) (by intro x hx; simp at hx; subst hx; simpa using hl) (by simp)
theorem SenB.set {wS w : World} {R : Nat} {cs : Array Value} {t : TypeId} (h : SenB wS R w) (hb : Box w R cs t) (ht : t ≠ 3) (s : Nat) (v : Value) : SenB wS R (w.setCell ⟨R, s, none⟩ v) :=
  ⟨h.os, h.tape, h.output, by simpa using h.size, fun c hc hr => by rw [Below.heap_setCell w ⟨R, s, none⟩ v c hr, h.block c hc hr], h.ki.trans (KI.set hb ht s v)⟩
theorem bagNe {B : Nat} {w : World} {v : Value} {l : Sents} {R : Nat} {cs : Array Value} (h : Bag B w v l) (hb : Box w R cs 28) : v.ownBlock ≠ some R := fun e => by
  obtain ⟨cur, hc⟩ := h.at_block R e
  unfold Box at hb
  rw [hb] at hc; injection hc with hc; injection hc with _ hc; exact absurd hc (by decide)
theorem Bag.senB {B : Nat} {wl wr : World} {v : Value} {l : Sents} {R : Nat} {cs : Array Value} (h : Bag B wl v l) (hb : Box wl R cs 28) (hk : SenB wl R wr) : Bag B wr v l :=
  h.keep hk.ki fun g hg => hk.block g (h.lt g hg).2 fun e => bagNe h hb (by rw [hg, e])
structure RSn (wS : World) (R : Nat) (rules : List Sents) (cells : Array Value) (w : World) : Prop where
  rr : RulesR w R cells rules
  base : SenB wS R w
  lt : R < wS.heap.size
theorem RSn.below {wS w w' : World} {R : Nat} {rules : List Sents} {cells : Array Value} (h : RSn wS R rules cells w) (k : Below w.heap.size w w') : RSn wS R rules cells w' := ⟨h.rr.below k, h.base.below k, h.lt⟩
theorem RSn.set {wS w : World} {R : Nat} {rules : List Sents} {cells : Array Value} (h : RSn wS R rules cells w) {s : Nat} {v : Value} {l : Sents} (hs : s < rules.length) (hB : Bag 0 w v l) : RSn wS R (rules.set s l) (cells.setIfInBounds s v) (w.setCell ⟨R, s, none⟩ v) := by
  obtain ⟨hb, hsz, hbags⟩ := h.rr
  have hk : KI w (w.setCell ⟨R, s, none⟩ v) := KI.set hb (by decide) s v
  have hkeep : ∀ {u : Value} {y : Sents}, Bag 0 w u y → Bag 0 (w.setCell ⟨R, s, none⟩ v) u y := fun hy =>
    hy.keep hk fun g hg => Below.heap_setCell w ⟨R, s, none⟩ v g (fun e => bagNe hy hb (by rw [hg]; exact congrArg some e))
  refine ⟨⟨hb.set s v, by simp [hsz], fun s' l' hl' => ?_⟩, h.base.set hb (by decide) s v, h.lt⟩
  by_cases e : s' = s
  · subst e
    rw [List.getElem?_set_self hs] at hl'
    injection hl' with hl'; subst hl'
    exact ⟨v, by rw [Array.getElem?_setIfInBounds_self_of_lt (by omega)], hkeep hB⟩
  · rw [List.getElem?_set_ne (fun e' => e e'.symm)] at hl'
    obtain ⟨u, hu, hbu⟩ := hbags s' l' hl'
    exact ⟨u, by rw [Array.getElem?_setIfInBounds_ne (fun e' => e e'.symm)]; exact hu, hkeep hbu⟩
theorem rallEnd.cases {res : Option Sents} {w : World} {e : Ending} {w' : World} (h : rallEnd res w e w') : ∃ lv l okb, e = .returned (.tuple #[lv, .bool okb]) ∧ Bag 0 w' lv l ∧ Below w.heap.size w w' ∧ ((res = none ∧ l = [] ∧ okb = false) ∨ (res = some l ∧ okb = decide (l.length ≤ 400))) := by
  obtain ⟨hb, h⟩ := h
  cases res with
  | none => exact ⟨_, [], false, h, Bag.nil _ _, hb, .inl ⟨rfl, rfl, rfl⟩⟩
  | some l => obtain ⟨v, e1, h1⟩ := h; exact ⟨v, l, _, e1, h1, hb, .inr ⟨rfl, rfl⟩⟩
/-- loop 0 -/
def RSen0 (c : Cfg) (long : Int) (mf : List Sents → List Int → Option Sents) (wS : World) (R gk : Nat) (flag : Value) (wr : World) : Prop :=
  ∃ (rules : List Sents) (cells : Array Value) (b : Bool), flag = .bool b ∧ RSn wS R rules cells wr ∧ Hid (SOk long c.alts.length rules) ∧ Hid (Run0 mf c rules b) ∧ (b = true → c.alts.length * 400 + 2 - total rules ≤ gk)
/-- loop 2: the first s rules are done -/
def RSen2 (c : Cfg) (long : Int) (mf : List Sents → List Int → Option Sents) (wS : World) (R : Nat) (rules0 : List Sents) (i flag : Value) (wr : World) : Prop :=
  ∃ (s : Nat) (rules : List Sents) (cells : Array Value) (b : Bool), s ≤ c.alts.length ∧ i = .int .i64 s ∧ flag = .bool b ∧ RSn wS R rules cells wr ∧ Hid (SOk long c.alts.length rules) ∧ Hid (roundS mf 0 c.alts (rules0, false) = roundS mf s (c.alts.drop s) (rules, b)) ∧ Hid (StepOk rules0 false rules b)
/-- loop 4: the first j alternatives are done -/
def RSen4 (c : Cfg) (long : Int) (mf : List Sents → List Int → Option Sents) (wS : World) (R s : Nat) (al : List (List Int)) (rules1 : List Sents) (b1 : Bool) (i flag : Value) (wr : World) : Prop :=
  ∃ (j : Nat) (rules : List Sents) (cells : Array Value) (b : Bool), j ≤ al.length ∧ i = .int .i64 j ∧ flag = .bool b ∧ RSn wS R rules cells wr ∧ Hid (SOk long c.alts.length rules) ∧ Hid (ruleS mf s al (rules1, b1) = ruleS mf s (al.drop j) (rules, b)) ∧ Hid (StepOk rules1 b1 rules b)
/-- loop 6: the first q sentences are added -/
def RSen6 (wS : World) (R s : Nat) (rules : List Sents) (b : Bool) (l : Sents) (wl : World) (i flag : Value) (wr : World) : Prop :=
  ∃ (q : Nat) (cur : Sents) (cells : Array Value) (b' : Bool), q ≤ l.length ∧ i = .int .i64 q ∧ flag = .bool b' ∧ RSn wS R (rules.set s cur) cells wr ∧ Hid (cur = (l.take q).foldl insS (rules.getD s [])) ∧ Hid (b' = (b || decide ((rules.getD s []).length < cur.length))) ∧ cur.length ≤ 400 + q ∧ Hid (Srt cur) ∧ SenB wl R wr
set_option maxRecDepth 100000 in
set_option maxHeartbeats 8000000 in
theorem rsen_calls (c : Cfg) (v : Value) (r long : Int) (w : World) (h : CfgV w v c) (hok : CfgOk c) (hsm : Small 60 c) (h0 : 0 < c.alts.length) :
    Calls Try.prog 10 #[v, .int .i64 r, .int .i64 long] w (rsenEnd c r long w) := by
  have hcal : c.alts.length ≤ 60 := by have := hok.1; have := hsm.1; omega
  have HH := Lib.hid (And.intro h (And.intro hok hsm))
  obtain ⟨a0, b0, d0, rfl, h1, h2, h3⟩ := id h
  obtain ⟨A1, c1, rfl, hc1, hm1, _, hr1⟩ := id h1
  obtain ⟨A2, c2, rfl, hc2, hm2, _, hr2⟩ := id h2
  obtain ⟨A3, c3, rfl, hc3, hm3, hl3, hr3⟩ := id h3
  unfold LB at hl3
  clear h hok hsm h1 h2 h3 hr1 hr2
  by_cases hbad : r < 0 ∨ (c.alts.length : Int) ≤ r ∨ long < 0 ∨ 8 < long
  · go_enter Try.func10, Try.ntmps10
    have hbox := Box.new w #[.slice A1 c.toks.length c1, .slice A2 c.names.length c2, .slice A3 c.alts.length c3] 25
    have hbc := hbox.cell 2 (v := .slice A3 c.alts.length c3) rfl
    have hend : ∀ e, e = Ending.returned (.tuple #[.slice none 0 0, .int .i64 1]) → rsenEnd c r long w e (w.alloc (.cells #[.slice A1 c.toks.length c1, .slice A2 c.names.length c2, .slice A3 c.alts.length c3] 25)) := fun e he => ⟨(Below.refl _ _).alloc (Nat.le_refl _) _, by rw [if_pos hbad]; exact he⟩
    have HE := Lib.hid hend
    clear hend
    rcases hbad with h | h | h | h
    · go_wp2
      go_ret2
      exact HE.out _ rfl
    · go_wp2
      all_goals go_ret2
      all_goals exact HE.out _ rfl
    · by_cases h' : r < 0
      · go_wp2
        go_ret2
        exact HE.out _ rfl
      · by_cases h'' : (c.alts.length : Int) ≤ r
        · go_wp2
          go_ret2
          exact HE.out _ rfl
        · go_wp2
          go_ret2
          exact HE.out _ rfl
    · by_cases h' : r < 0
      · go_wp2
        go_ret2
        exact HE.out _ rfl
      · by_cases h'' : (c.alts.length : Int) ≤ r
        · go_wp2
          go_ret2
          exact HE.out _ rfl
        · have h3 : ¬ long < 0 := by omega
          go_wp2
          go_ret2
          exact HE.out _ rfl
  · have hr0 : 0 ≤ r := by omega
    have hr1 : r < c.alts.length := by omega
    have hl0 : 0 ≤ long := by omega
    have hl1 : long ≤ 8 := by omega
    have HB := Lib.hid hbad; clear hbad
    have hba : Below w.heap.size w (w.alloc (.cells #[.slice A1 c.toks.length c1, .slice A2 c.names.length c2, .slice A3 c.alts.length c3] 25)) := (Below.refl _ _).alloc (Nat.le_refl _) _
    have hbx := Box.new w #[.slice A1 c.toks.length c1, .slice A2 c.names.length c2, .slice A3 c.alts.length c3] 25
    have HBA := Lib.hid (And.intro hba hbx)
    clear hba hbx
    obtain ⟨i0, hi0, hz0, hzs, hzb⟩ := info_parts infoIntss
    have hmk : ∀ wz, Hid ((Instr.makeSlice 23 (.int .i64 c.alts.length) (.int .i64 c.alts.length)).run Try.prog wz = .ok (.slice (some ⟨wz.heap.size, 0, none⟩) c.alts.length c.alts.length) (wz.alloc (.cells (Array.replicate c.alts.length (.slice none 0 0)) 28))) := fun wz => by
      have h := run_makeSlice (P := Try.prog) wz 23 28 i0 _ Try.underlying23 hi0 hz0 .i64 .i64 c.alts.length c.alts.length (by omega) (by omega) (by rw [hzs]; omega) (by rw [hzb]; omega) (by omega)
      have e0 : (madeCells (Value.slice none 0 0).cells ((c.alts.length : Int).toNat * i0.size)) = Array.replicate c.alts.length (.slice none 0 0) := by rw [hzs, Int.toNat_natCast]; exact madeNil _
      rw [e0, Int.toNat_natCast] at h
      exact h
    have HMK := Lib.hid hmk
    clear hmk hi0 hz0 hzs hzb
    obtain ⟨rn, rfl⟩ := Int.eq_ofNat_of_zero_le hr0
    go_enter Try.func10, Try.ntmps10
    go_wp2_with (go_at_call 21; refine (refShort_calls c _ _ (HH.out.1.below HBA.out.1) HH.out.2.1 HH.out.2.2 (by omega)).mono ?_; rintro e w3 ⟨O, short, rfl, hO, hso, hb3, hOs⟩; have hX3 := HBA.out.2.below hb3; have hx2 := hX3.cell 2 (v := .slice A3 c.alts.length c3) rfl; have hmk3 := (HMK.out w3).out; have H3 := Lib.hid (And.intro hO (And.intro hso (And.intro (below2 HBA.out.1 hb3) (And.intro hX3 hOs)))); clear hO hso hb3 hX3 hOs)
    have d1 : decide ((rn : Int) < 0) = false := decide_eq_false (by omega)
    have d2 : decide (long < 0) = false := decide_eq_false (by omega)
    have d3 : decide (8 < long) = false := decide_eq_false (by omega)
    simp only [d1, d2, d3, Bool.or_self]
    clear d1 d2 d3 hx2 hmk3
    have hRb := Box.new w3 (Array.replicate c.alts.length (Value.slice none 0 0)) 28
    have hbn : Below w3.heap.size w3 (w3.alloc (.cells (Array.replicate c.alts.length (.slice none 0 0)) 28)) := (Below.refl _ _).alloc (Nat.le_refl _) _
    have hXlt := H3.out.2.2.2.1.lt
    have hOlt := H3.out.1.lt
    have hszn : (w3.alloc (.cells (Array.replicate c.alts.length (.slice none 0 0)) 28)).heap.size = w3.heap.size + 1 := by simp
    obtain ⟨R, hReq⟩ : ∃ R, R = w3.heap.size := ⟨_, rfl⟩
    rw [← hReq] at hRb hXlt hOlt hszn ⊢
    have HF := Lib.hid (And.intro (H3.out.2.2.2.1.below hbn) (And.intro (H3.out.1.below hbn) (And.intro H3.out.2.1 (below2 H3.out.2.2.1 hbn))))
    have hRge : w.heap.size ≤ R := by rw [hReq]; exact H3.out.2.2.1.size
    clear hbn
    generalize w3.alloc (.cells (Array.replicate c.alts.length (.slice none 0 0)) 28) = wS at *
    clear hReq
    have hnn : Hid (∀ x ∈ short, 0 ≤ x) := HF.out.2.2.1.nn
    have hS0 : RSn wS R (List.replicate c.alts.length []) (Array.replicate c.alts.length (.slice none 0 0)) wS := by
      refine ⟨⟨hRb, by simp, fun s l hl => ?_⟩, SenB.refl _ _, hRb.lt⟩
      rw [List.getElem?_replicate] at hl
      split at hl
      · injection hl with hl; subst hl
        rename_i hlt
        exact ⟨.slice none 0 0, by rw [Array.getElem?_replicate, if_pos hlt], Bag.nil _ _⟩
      · cases hl
    have hO0 : SOk long c.alts.length (List.replicate c.alts.length []) := ⟨by simp, fun l hl => by rw [List.eq_of_mem_replicate hl]; exact List.Pairwise.nil, fun l hl => by rw [List.eq_of_mem_replicate hl]; intro x hx; simp at hx, fun l hl => by rw [List.eq_of_mem_replicate hl]; simp⟩
    have HS0 := Lib.hid (And.intro hS0 hO0)
    have hXS : w.heap.size < wS.heap.size := by omega
    have hOS : O < wS.heap.size := by omega
    clear hS0 hO0 hRb
    go_loopg [10] (c.alts.length * 400 + 2) (fun gk flag wr => RSen0 c long (madeR short long) wS R gk flag wr)
    case atStart => exact ⟨_, _, true, rfl, HS0.out.1, HS0.out.2, ⟨fun _ m res h => ⟨m, h⟩, fun h => by cases h⟩, fun _ => by omega⟩
    case round =>
      obtain ⟨rules, cells, b, rfl, hC, hO, hRun, hgk⟩ := hrel
      have H0 := Lib.hid (And.intro hC (And.intro hO (And.intro hRun hgk)))
      clear hC hO hRun hgk
      have hXr := HF.out.1.keep (H0.out.1.base.block w.heap.size hXS (by omega))
      have hN2 := hXr.cell 2 (v := .slice A3 c.alts.length c3) rfl
      cases b with
      | false =>
        have hlen := H0.out.2.1.out.len
        obtain ⟨lr, hlr⟩ : ∃ lr, lr = rules.getD rn [] := ⟨_, rfl⟩
        obtain ⟨vr, hvr, hbr⟩ := H0.out.1.rr.2.2 rn lr (by rw [hlr, List.getD_eq_getElem?_getD, List.getElem?_eq_getElem (by omega)]; rfl)
        have HLR := Lib.hid hlr; clear hlr
        obtain ⟨Ar, cr, rfl, _, _, _, _⟩ := hbr.sl
        have hcr := H0.out.1.rr.1.cell rn hvr
        have HR := Lib.hid hbr
        clear hbr hXr
        go_wp2
        go_ret2
        refine ⟨H0.out.1.base.to HF.out.2.2.2 hRge, ?_⟩
        rw [if_neg HB.out]
        obtain ⟨m', hm'⟩ := H0.out.2.2.1.out.2 rfl
        refine ⟨short, m', some rules, HF.out.2.2.1, hm', _, rfl, ?_⟩
        have h1 : lr = _ := HLR.out
        rw [show ((rn : Int)).toNat = rn by omega, ← h1]; exact HR.out
      | true =>
        clear hXr
        obtain ⟨w0, rfl⟩ : ∃ w0 : World, w0 = wr := ⟨_, rfl⟩
        go_wp2
        go_loopw [47, 10] (fun i flag wr => RSen2 c long (madeR short long) wS R rules i flag wr) (fun i _ _ => c.alts.length - (intOf i).toNat)
        case atStart => exact ⟨0, rules, cells, false, Nat.zero_le _, rfl, rfl, H0.out.1, H0.out.2.1, rfl, ⟨Nat.le_refl _, fun h => .inl h⟩⟩
        case round =>
          obtain ⟨s, rules1, cells1, b1, hs, rfl, rfl, hC1, hO1, hR1, hT1⟩ := hrel
          have H1 := Lib.hid (And.intro hC1 (And.intro hO1 (And.intro hR1 hT1)))
          clear hC1 hO1 hR1 hT1
          by_cases hlt : s < c.alts.length
          · obtain ⟨al, hal⟩ := at_lt c.alts hlt
            have hB1 : Below w.heap.size w wr := H1.out.1.base.to HF.out.2.2.2 hRge
            obtain ⟨ad3, B3, c4, rfl, hcellB, g1, g2, g3, g4⟩ := (hr3.below hB1).slice hal
            have HAL := Lib.hid hal; clear hal
            have hrowB : Hid (∀ w' : World, Below w.heap.size w w' → Row (Ty.slice Ty.int) w' B3 al) := by
              intro w' hb
              obtain ⟨ad0, B0, c0, e0, hcell0, _, _, _, g40⟩ := hr3.slice HAL.out
              injection e0 with e0
              subst e0
              have q1 := cell_far hcell0 hB1.block
              rw [hcellB] at q1; injection q1 with q1; injection q1 with q1 _ _
              rw [q1]; exact g40.below hb
            clear g4 hB1
            obtain ⟨w3', rfl⟩ : ∃ w3' : World, w3' = wr := ⟨_, rfl⟩
            go_wp2
            go_loopw [54, 10] (fun i flag wr => RSen4 c long (madeR short long) wS R s al rules1 b1 i flag wr) (fun i _ _ => al.length - (intOf i).toNat)
            case atStart => exact ⟨0, rules1, cells1, b1, Nat.zero_le _, rfl, rfl, H1.out.1, H1.out.2.1, rfl, ⟨Nat.le_refl _, fun h => .inl h⟩⟩
            case round =>
              obtain ⟨j, rules2, cells2, b2, hj, rfl, rfl, hC2, hO2, hR2, hT2⟩ := hrel
              have H2 := Lib.hid (And.intro hC2 (And.intro hO2 (And.intro hR2 hT2)))
              clear hC2 hO2 hR2 hT2
              by_cases hlt4 : j < al.length
              · obtain ⟨a, ha⟩ := at_lt al hlt4
                have hB2 : Below w.heap.size w wr := H2.out.1.base.to HF.out.2.2.2 hRge
                obtain ⟨adA, BA, cA, rfl, hcellA, a1, a2, a3, a4⟩ := (hrowB.out wr hB2).slice ha
                have hua : Hid (Sl Ty.int wr (.slice BA a.length cA) a) := ⟨BA, cA, rfl, a1, a2, a3, a4⟩
                have HA := Lib.hid ha; clear ha a4
                obtain ⟨wm, rfl⟩ : ∃ wm : World, wm = wr := ⟨_, rfl⟩
                have hlen2 := H2.out.2.1.out.len
                have hsmA := HH.out.2.2.2 al (List.mem_of_getElem? HAL.out)
                have hsmA2 := hsmA.2 a (List.mem_of_getElem? HA.out)
                have hinA := HH.out.2.1.2 al (List.mem_of_getElem? HAL.out) a (List.mem_of_getElem? HA.out)
                have hnm := HH.out.2.1.1
                have hXm := HF.out.1.keep (H2.out.1.base.block w.heap.size hXS (by omega))
                have hOm := HF.out.2.1.keep (H2.out.1.base.block O hOS (by omega))
                have hbd : ∀ x ∈ short, 0 ≤ x ∧ x ≤ 2147483647 := fun x hx => by
                  obtain ⟨i, hi⟩ := List.mem_iff_getElem?.1 hx
                  have h1 := HF.out.2.2.1.2 i x hi
                  have h2 := h1.le
                  unfold farI at h2
                  exact ⟨h1.nn, h2⟩
                have hsl := (ilOfBox hOm HF.out.2.2.1.1 (by omega) (fun x hx => by have := hbd x hx; unfold Ty.i64; omega)).sl
                have hall := rall_calls R (.agg #[.slice A1 c.toks.length c1, .slice A2 c.names.length c2, .slice (some ad3) c.alts.length c3]) (.slice (some ⟨O, 0, none⟩) c.alts.length c.alts.length) (.slice BA a.length cA) c long cells2 short a rules2 wm (HH.out.1.below hB2) hsl hua hbd H2.out.1.rr hl0 hl1 (by omega) (by omega) H2.out.2.1.out.few H2.out.2.1.out.shrt (fun k hk hk0 => by rcases hinA k hk with h | h <;> omega) (by rw [HF.out.2.2.1.1, hlen2])
                rw [hlen2] at hall
                have HALL := Lib.hid hall; clear hall
                have hx0 := hXm.cell 0 (v := .slice A1 c.toks.length c1) rfl
                have hx1 := hXm.cell 1 (v := .slice A2 c.names.length c2) rfl
                have hx2 := hXm.cell 2 (v := .slice (some ad3) c.alts.length c3) rfl
                clear hsmA hsmA2 hinA hnm hXm hOm hbd hsl
                go_wp2_with (go_at_call 22; refine HALL.out.mono ?_; rintro e wl hme; obtain ⟨lv, l, okb, rfl, hlb, hBl, hres⟩ := rallEnd.cases hme; obtain ⟨AL, cL, rfl, l1, l2, l3, l4⟩ := id hlb.sl; have HL := Lib.hid (And.intro hlb (And.intro hBl hres)); clear hlb hBl hres l4 hme)
                have hsz := H2.out.1.base.size
                have hlbs := HL.out.2.1.size
                have hl36 : l.length ≤ 3600 := by
                  rcases HL.out.2.2 with ⟨_, h, _⟩ | ⟨h, _⟩
                  · rw [h]; simp
                  · exact (madeR_ok hnn.out hl0 h).2.2
                have hRwl : Hid (Box wl R cells2 28) := (H2.out.1.rr.1).below HL.out.2.1
                go_loopw [69, 10] (fun i flag wr => RSen6 wS R s rules2 b2 l wl i flag wr) (fun i _ _ => l.length - (intOf i).toNat)
                case atStart =>
                  have hmem : rules2.getD s [] ∈ rules2 := getD_mem (by omega)
                  refine ⟨0, rules2.getD s [], cells2, b2, Nat.zero_le _, rfl, rfl, ?_, rfl, ?_, ?_, H2.out.2.1.out.srt _ hmem, SenB.refl _ _⟩
                  · rw [set_getD]; exact H2.out.1.below HL.out.2.1
                  · show b2 = _; simp
                  · have := H2.out.2.1.out.few _ hmem; omega
                case round =>
                  obtain ⟨q, cur, cells, b', hq, rfl, rfl, hC, hcur, hb', hcl, hsrt, hki⟩ := hrel
                  have H6 := Lib.hid (And.intro hC (And.intro hcur (And.intro hb' (And.intro hsrt hki))))
                  have hszr := hki.size
                  have hcsz := hC.rr.2.1
                  simp only [List.length_set] at hcsz
                  have HCS := Lib.hid hcsz
                  clear hC hcur hb' hsrt hki hcsz
                  obtain ⟨vs, hvs, hbs⟩ := H6.out.1.rr.2.2 s cur (by rw [List.getElem?_set_self (by omega)])
                  obtain ⟨Av, cv, rfl, v1', v2', v3', v4'⟩ := id hbs.sl
                  unfold LB at v3'
                  have hcell6 := H6.out.1.rr.1.cell s hvs
                  have HBS := Lib.hid (And.intro hvs hbs)
                  clear hvs hbs v4'
                  by_cases hlt6 : q < l.length
                  · obtain ⟨x, hx⟩ := at_lt l hlt6
                    have hLr : Bag 0 wr (.slice AL l.length cL) l := HL.out.1.senB hRwl.out H6.out.2.2.2.2
                    obtain ⟨adL, UX, cx, rfl, hcx, hILx, x1, x2, x3⟩ := hLr.at_ hx
                    have hwith := with_calls 0 _ _ cur x wr HBS.out.2 hILx H6.out.2.2.2.1.out (by omega) (Nat.zero_le _)
                    have HWITH := Lib.hid hwith
                    have HX := Lib.hid hx
                    clear hwith hx hLr hILx
                    obtain ⟨wr0, rfl⟩ : ∃ wr0 : World, wr0 = wr := ⟨_, rfl⟩
                    have hfr : wr0.frozen? ⟨R, s, none⟩ = false := H6.out.1.rr.1.frozen s
                    obtain ⟨cur', hcur'⟩ : ∃ y, y = insS cur x := ⟨_, rfl⟩
                    have hgrow : Hid (cur.length ≤ cur'.length ∧ cur'.length ≤ cur.length + 1) := by rw [hcur']; exact insS_ge
                    rw [← hcur'] at HWITH
                    have HC' := Lib.hid hcur'; clear hcur'
                    have hsetC : ∀ (wz : World) (v8 : Value), Below wr0.heap.size wr0 wz → Bag 0 wz v8 cur' → RSn wS R (rules2.set s cur') (cells.setIfInBounds s v8) (wz.setCell ⟨R, s, none⟩ v8) ∧ SenB wl R (wz.setCell ⟨R, s, none⟩ v8) := fun wz v8 hb hB8 => by
                      have h1 := (H6.out.1.below hb).set (s := s) (by simp; omega) hB8
                      rw [List.set_set] at h1
                      exact ⟨h1, (H6.out.2.2.2.2.below hb).set ((H6.out.1.below hb).rr.1) (by decide) s v8⟩
                    have HSET := Lib.hid hsetC; clear hsetC
                    have hfold : Hid (cur' = (l.take (q + 1)).foldl insS (rules2.getD s [])) := by
                      have h : cur = _ := H6.out.2.1
                      have h2 : cur' = _ := HC'.out
                      show _ = _
                      rw [h2, take_next HX.out, List.foldl_append, ← h]; rfl
                    have hge := (foldl_ins (l.take q) (rules2.getD s [])).1
                    have hgeC : Hid ((rules2.getD s []).length ≤ cur.length) := by
                      have h : cur = _ := H6.out.2.1
                      rw [← h] at hge; exact hge
                    clear hge
                    have hg1 := hgrow.out.1
                    have hg2 := hgrow.out.2
                    have hsrt' : Hid (Srt cur') := by
                      have h2 : cur' = _ := HC'.out
                      show Srt cur'
                      rw [h2]; exact srt_insS H6.out.2.2.2.1.out _
                    cases b' with
                    | true =>
                      go_wp2_with (go_at_call 23; refine HWITH.out.mono ?_; rintro e w8 ⟨v8, rfl, hB8, hb8⟩; obtain ⟨A8, c8, rfl, y1, y2, y3, y4⟩ := id hB8.sl; clear y4; have hfr8 := (H6.out.1.below hb8).rr.1.frozen s; have hcl8 := (H6.out.1.below hb8).rr.1.cell s HBS.out.1; have hS8 := HSET.out w8 _ hb8 hB8)
                      refine ⟨⟨q + 1, cur', _, true, by omega, by simp, rfl, hS8.1, hfold, ?_, by omega, hsrt', hS8.2⟩, by simp [intOf]; omega⟩
                      have h : true = _ := H6.out.2.2.1
                      have h3 := hgeC.out
                      show true = _
                      rcases hd : b2 with _ | _
                      · rw [hd] at h
                        simp only [Bool.false_or] at h ⊢
                        have := of_decide_eq_true h.symm
                        exact (decide_eq_true (by omega)).symm
                      · rfl
                    | false =>
                      have hb2 : Hid (b2 = false ∧ ¬ (rules2.getD s []).length < cur.length) := by
                        have h : false = _ := H6.out.2.2.1
                        cases hd : b2 with
                        | true => rw [hd] at h; cases h
                        | false =>
                          rw [hd] at h
                          simp only [Bool.false_or] at h
                          exact ⟨rfl, of_decide_eq_false h.symm⟩
                      have hlen0 : Hid ((rules2.getD s []).length = cur.length) := by
                        have h1 := hb2.out.2
                        have h2 := hgeC.out
                        show _ = _
                        omega
                      by_cases hcc : cur.length < cur'.length
                      · have hcc' : decide ((cur'.length : Int) > (cur.length : Int)) = true := decide_eq_true (by omega)
                        go_wp2_with (go_at_call 23; refine HWITH.out.mono ?_; rintro e w8 ⟨v8, rfl, hB8, hb8⟩; obtain ⟨A8, c8, rfl, y1, y2, y3, y4⟩ := id hB8.sl; clear y4; have hfr8 := (H6.out.1.below hb8).rr.1.frozen s; have hcl8 := (H6.out.1.below hb8).rr.1.cell s HBS.out.1; have hS8 := HSET.out w8 _ hb8 hB8)
                        refine ⟨⟨q + 1, cur', _, true, by omega, by simp, rfl, hS8.1, hfold, ?_, by omega, hsrt', hS8.2⟩, by simp [intOf]; omega⟩
                        show true = _
                        have h1 : _ = cur.length := hlen0
                        rw [h1, decide_eq_true hcc, Bool.or_true]
                      · have hcc' : decide ((cur'.length : Int) > (cur.length : Int)) = false := decide_eq_false (by omega)
                        go_wp2_with (go_at_call 23; refine HWITH.out.mono ?_; rintro e w8 ⟨v8, rfl, hB8, hb8⟩; obtain ⟨A8, c8, rfl, y1, y2, y3, y4⟩ := id hB8.sl; clear y4; have hfr8 := (H6.out.1.below hb8).rr.1.frozen s; have hcl8 := (H6.out.1.below hb8).rr.1.cell s HBS.out.1; have hS8 := HSET.out w8 _ hb8 hB8)
                        refine ⟨⟨q + 1, cur', _, false, by omega, by simp, rfl, hS8.1, hfold, ?_, by omega, hsrt', hS8.2⟩, by simp [intOf]; omega⟩
                        show false = _
                        have h1 : _ = cur.length := hlen0
                        rw [h1, decide_eq_false hcc, hb2.out.1]; rfl
                  · have hqe : q = l.length := by omega
                    have hcurf : Hid (cur = l.foldl insS (rules2.getD s [])) := by
                      have h : cur = _ := H6.out.2.1
                      show _ = _
                      rw [h, hqe, List.take_length]
                    have HQE := Lib.hid hqe; clear hqe
                    have hret : ∀ e, altS (madeR short long) (rules2, b2) s a = none → e = Ending.returned (.tuple #[.slice none 0 0, .int .i64 2]) → rsenEnd c rn long w e wr := fun e h1 h2 => by
                      have hr4 : ruleS (madeR short long) s al (rules1, b1) = none := by
                        have h : ruleS _ _ _ _ = _ := H2.out.2.2.1
                        rw [h, drop_at HA.out, ruleS, h1]
                      have hr2 : roundS (madeR short long) 0 c.alts (rules, false) = none := by
                        have h : roundS _ _ _ _ = _ := H1.out.2.2.1
                        rw [h, drop_at HAL.out, roundS, hr4]
                      obtain ⟨m', hm'⟩ := H0.out.2.2.1.out.1 rfl 1 none (by rw [loopS, hr2])
                      refine ⟨H6.out.1.base.to HF.out.2.2.2 hRge, ?_⟩
                      rw [if_neg HB.out]
                      exact ⟨short, m', none, HF.out.2.2.1, hm', h2⟩
                    have HRET := Lib.hid hret; clear hret
                    cases okb with
                    | false =>
                      go_wp2
                      go_ret2
                      refine HRET.out _ ?_ rfl
                      rcases HL.out.2.2 with ⟨h, _, _⟩ | ⟨h, h2⟩
                      · exact altS_none h
                      · have h3 : ¬ l.length ≤ 400 := by simpa using h2.symm
                        rw [altS_eq h, if_neg (fun h => h3 h.1)]
                    | true =>
                      have hl4 : Hid (madeR short long rules2 a = some l ∧ l.length ≤ 400) := by
                        rcases HL.out.2.2 with ⟨_, _, h⟩ | ⟨h, h2⟩
                        · cases h
                        · exact ⟨h, by simpa using h2.symm⟩
                      by_cases h400 : (cur.length : Int) > 400
                      · go_wp2
                        go_ret2
                        refine HRET.out _ ?_ rfl
                        have h : cur = _ := hcurf
                        rw [altS_eq hl4.out.1, if_neg (fun h' => by have := h'.2; rw [← h] at this; omega)]
                      · have halt : Hid (altS (madeR short long) (rules2, b2) s a = some (rules2.set s cur, b')) := by
                          have h : cur = _ := hcurf
                          have hb : b' = _ := H6.out.2.2.1
                          show _ = _
                          rw [altS_eq hl4.out.1, if_pos ⟨hl4.out.2, by rw [← h]; omega⟩, ← h, hb]
                        have hok2 := altS_ok (long := long) (n := c.alts.length) (fun R a l hR hl => (madeR_ok hnn.out hl0 hl).2.1) halt.out hlt H2.out.2.1.out
                        have HOK := Lib.hid hok2; clear hok2
                        go_wp2
                        refine ⟨⟨j + 1, rules2.set s cur, cells, b', by omega, by simp, rfl, H6.out.1, HOK.out.1, ?_, H2.out.2.2.2.out.trans HOK.out.2⟩, by simp [intOf]; omega⟩
                        have h : ruleS _ _ _ _ = _ := H2.out.2.2.1
                        show _ = _
                        rw [h, drop_at HA.out, ruleS, halt.out]
              · have hje : j = al.length := by omega
                have HJE := Lib.hid hje; clear hje
                go_wp2
                refine ⟨⟨s + 1, rules2, cells2, b2, by omega, by simp, rfl, H2.out.1, H2.out.2.1, ?_, H1.out.2.2.2.out.trans H2.out.2.2.2⟩, by simp [intOf]; omega⟩
                have h : roundS _ _ _ _ = _ := H1.out.2.2.1
                have h2 : ruleS _ _ _ _ = _ := H2.out.2.2.1
                show _ = _
                rw [h, drop_at HAL.out, roundS, h2, HJE.out, List.drop_length, ruleS]
          · have hse : s = c.alts.length := by omega
            have hfin : Hid (roundS (madeR short long) 0 c.alts (rules, false) = some (rules1, b1)) := by
              have h : roundS _ _ _ _ = _ := H1.out.2.2.1
              show _ = _
              rw [h, hse, List.drop_length, roundS]
            have HSE := Lib.hid hse; clear hse
            have htl := total_le H1.out.2.1.out
            have hT := H1.out.2.2.2.out
            have hgk := H0.out.2.2.2 (by first | rfl | trivial)
            go_wp2
            go_roundg (if b1 = true then c.alts.length * 400 + 2 - total rules1 else 0)
            case measure =>
              cases b1 with
              | false => simp; have := total_le H0.out.2.1.out; omega
              | true =>
                rcases hT.lt rfl with h | h
                · cases h
                · have := total_le H0.out.2.1.out; simp; omega
            case rel =>
              refine ⟨rules1, cells1, b1, rfl, H1.out.1, H1.out.2.1, ⟨fun hb m res hm => ?_, fun hb => ?_⟩, fun hb => by rw [if_pos hb]; exact Nat.le_refl _⟩
              · subst hb
                exact H0.out.2.2.1.out.1 rfl (m + 1) res (by rw [loopS, hfin.out]; exact hm)
              · subst hb
                exact H0.out.2.2.1.out.1 rfl 1 (some rules1) (by rw [loopS, hfin.out])
end Go.Proofs.Ytgjobbapnileiaa
set_option linter.unusedVariables false
set_option linter.unusedSimpArgs false
namespace Go.Proofs.Ytgjobbapnileiaa
open Go.RowKit Gk

/-- what Sentences tells -/
def SenIs (c : Cfg) (r long k : Int) (l : Sents) : Prop :=
  if r < 0 ∨ (c.alts.length : Int) ≤ r ∨ long < 0 ∨ 8 < long then k = 1 ∧ l = []
  else ∃ short n res, ShortOk c short ∧ loopS (madeF short long) c.alts n (List.replicate c.alts.length []) = some res ∧ match res with
    | none => k = 2 ∧ l = []
    | some R => k = 0 ∧ l = R.getD r.toNat []
theorem SenIs.one {c : Cfg} {r long k k' : Int} {l l' : Sents} (h : SenIs c r long k l) (h' : SenIs c r long k' l') : k = k' ∧ l = l' := by
  unfold SenIs at h h'
  split at h
  · rename_i hb
    rw [if_pos hb] at h'
    exact ⟨h.1.trans h'.1.symm, h.2.trans h'.2.symm⟩
  · rename_i hb
    rw [if_neg hb] at h'
    obtain ⟨short, n, res, h1, h2, h3⟩ := h
    obtain ⟨short', n', res', h1', h2', h3'⟩ := h'
    have e := h1.one h1'
    subst e
    have e := loopS_one h2 h2'
    subst e
    cases res with
    | none => exact ⟨h3.1.trans h3'.1.symm, h3.2.trans h3'.2.symm⟩
    | some R => exact ⟨h3.1.trans h3'.1.symm, h3.2.trans h3'.2.symm⟩
theorem altS_congr {f g : List Sents → List Int → Option Sents} {a : List Int} (h : ∀ R, f R a = g R a) (S : List Sents × Bool) (s : Nat) : altS f S s a = altS g S s a := by
  unfold altS; rw [h]
theorem ruleS_congr {f g : List Sents → List Int → Option Sents} (s : Nat) : ∀ (al : List (List Int)), (∀ a ∈ al, ∀ R, f R a = g R a) → ∀ S, ruleS f s al S = ruleS g s al S := by
  intro al
  induction al with
  | nil => intro _ S; rfl
  | cons a al ih =>
    intro h S
    unfold ruleS
    rw [altS_congr (h a (by simp))]
    split
    · rfl
    · exact ih (fun a ha => h a (by simp [ha])) _
theorem roundS_congr {f g : List Sents → List Int → Option Sents} : ∀ (alts : List (List (List Int))) (s : Nat), (∀ al ∈ alts, ∀ a ∈ al, ∀ R, f R a = g R a) → ∀ S, roundS f s alts S = roundS g s alts S := by
  intro alts
  induction alts with
  | nil => intro s _ S; rfl
  | cons al alts ih =>
    intro s h S
    unfold roundS
    rw [ruleS_congr s al (h al (by simp))]
    split
    · rfl
    · exact ih _ (fun al ha => h al (by simp [ha])) _
theorem loopS_congr {f g : List Sents → List Int → Option Sents} {alts : List (List (List Int))} (h : ∀ al ∈ alts, ∀ a ∈ al, ∀ R, f R a = g R a) : ∀ (n : Nat) R, loopS f alts n R = loopS g alts n R := by
  intro n
  induction n with
  | zero => intro R; rfl
  | succ n ih =>
    intro R
    unfold loopS
    rw [roundS_congr alts 0 h]
    split
    · rfl
    · exact ih _
    · rfl
theorem senEnd.is {c : Cfg} {r long : Int} {w : World} {e : Ending} {w' : World} (h : senEnd c r long w e w') : Below w.heap.size w w' ∧ ∃ v l k, e = .returned (.tuple #[v, .int .i64 k]) ∧ Sl (Ty.slice Ty.int) w' v l ∧ SenIs c r long k l := by
  obtain ⟨hb, h⟩ := h
  refine ⟨hb, ?_⟩
  unfold SenIs
  split at h
  · rename_i hbad
    exact ⟨_, [], 1, h, Sl.nil _ _, by rw [if_pos hbad]; exact ⟨rfl, rfl⟩⟩
  · rename_i hbad
    obtain ⟨short, n, res, h1, h2, h3⟩ := h
    cases res with
    | none => exact ⟨_, [], 2, h3, Sl.nil _ _, by rw [if_neg hbad]; exact ⟨short, n, none, h1, h2, rfl, rfl⟩⟩
    | some R =>
      obtain ⟨v, e1, h4, _⟩ := h3
      exact ⟨v, _, 0, e1, h4.sl, by rw [if_neg hbad]; exact ⟨short, n, some R, h1, h2, rfl, rfl⟩⟩
theorem rsenEnd.is {c : Cfg} {r long : Int} {w : World} {e : Ending} {w' : World} (hok : CfgOk c) (h : rsenEnd c r long w e w') : Below w.heap.size w w' ∧ ∃ v l k, e = .returned (.tuple #[v, .int .i64 k]) ∧ Sl (Ty.slice Ty.int) w' v l ∧ SenIs c r long k l := by
  obtain ⟨hb, h⟩ := h
  refine ⟨hb, ?_⟩
  unfold SenIs
  split at h
  · rename_i hbad
    exact ⟨_, [], 1, h, Sl.nil _ _, by rw [if_pos hbad]; exact ⟨rfl, rfl⟩⟩
  · rename_i hbad
    obtain ⟨short, n, res, h1, h2, h3⟩ := h
    have hl8 : long ≤ 8 := by omega
    have hsame : ∀ al ∈ c.alts, ∀ a ∈ al, ∀ R, madeR short long R a = madeF short long R a := fun al hal a ha R => by
      have hin := hok.2 al hal a ha
      have hnm := hok.1
      refine madeS_eq hl8 a [[]] fun t _ ht => ?_
      have := rest_or h1.nn t (fun k hk hk0 => by rw [h1.1]; rcases hin k (ht k hk) with h | h <;> omega)
      rcases this with e | ⟨e1, e2⟩
      · exact .inl e.symm
      · exact .inr ⟨e2, e1⟩
    rw [loopS_congr hsame] at h2
    cases res with
    | none => exact ⟨_, [], 2, h3, Sl.nil _ _, by rw [if_neg hbad]; exact ⟨short, n, none, h1, h2, rfl, rfl⟩⟩
    | some R =>
      obtain ⟨v, e1, h4⟩ := h3
      exact ⟨v, _, 0, e1, h4.sl, by rw [if_neg hbad]; exact ⟨short, n, some R, h1, h2, rfl, rfl⟩⟩
set_option maxRecDepth 100000 in
set_option maxHeartbeats 4000000 in
theorem deriveAll_walk (w : World) {v : Value} (c : Cfg) (h : CfgV w v c) (ht : TokOk v) (r : Int) (hr64 : Ty.i64 r) (long : Int) (hl64 : Ty.i64 long) :
    Calls Try.prog 3 #[v, .int .i64 r, .int .i64 long] w fun e w' => e = .returned (.bool true) ∧ Below w.heap.size w w' := by
  obtain ⟨a0, b0, d0, rfl, h1, h2, h3⟩ := id h
  obtain ⟨A1, c1, rfl, hc1, hm1, _, hr1⟩ := id h1
  obtain ⟨A2, c2, rfl, hc2, hm2, _, hr2⟩ := id h2
  obtain ⟨A3, c3, rfl, hc3, hm3, hl3, hr3⟩ := id h3
  unfold LB at hl3
  have HH := Lib.hid (And.intro h (And.intro ht (And.intro hr64 hl64)))
  clear h ht h1 h2 h3 hr1 hr2 hr3 hr64 hl64
  have hB1 := Box.new w #[.slice A1 c.toks.length c1, .slice A2 c.names.length c2, .slice A3 c.alts.length c3] 25
  have hb1 : Below w.heap.size w (w.alloc (.cells #[.slice A1 c.toks.length c1, .slice A2 c.names.length c2, .slice A3 c.alts.length c3] 25)) := (Below.refl _ _).alloc (Nat.le_refl _) _
  have HB := Lib.hid (And.intro hB1 hb1)
  clear hB1 hb1
  go_enter Try.func3, Try.ntmps3
  have hcase : (6 < long ∧ long ≤ 8) ∨ (long ≤ 6) ∨ (6 < long ∧ ¬ long ≤ 8) := by omega
  rcases hcase with ⟨hl6, hl8⟩ | hl6 | ⟨hl6, hl8⟩
  · go_wp2_with (first | (go_at_call 7; refine (live_calls _).mono ?_; rintro e w1 ⟨rfl, hbl⟩; have hbx1 := HB.out.1.below hbl; have x0 := hbx1.cell 0 (v := .slice A1 c.toks.length c1) rfl; have x1 := hbx1.cell 1 (v := .slice A2 c.names.length c2) rfl; have x2 := hbx1.cell 2 (v := .slice A3 c.alts.length c3) rfl; have H1 := Lib.hid (And.intro (below2 HB.out.2 hbl) hbx1); clear hbl hbx1) | (go_at_call 8; refine (lawfew_calls _ c _ (HH.out.1.below H1.out.1) HH.out.2.1).mono ?_; rintro e w2 ⟨b, rfl, hbf, hfw⟩; have H2 := Lib.hid (below2 H1.out.1 hbf); clear hbf hfw; cases b))
    all_goals (go_ret; exact ⟨rfl, H2.out⟩)
  all_goals
    go_wp2_with (first | (go_at_call 7; refine (live_calls _).mono ?_; rintro e w1 ⟨rfl, hbl⟩; have hbx1 := HB.out.1.below hbl; have x0 := hbx1.cell 0 (v := .slice A1 c.toks.length c1) rfl; have x1 := hbx1.cell 1 (v := .slice A2 c.names.length c2) rfl; have x2 := hbx1.cell 2 (v := .slice A3 c.alts.length c3) rfl; have H1 := Lib.hid (And.intro (below2 HB.out.2 hbl) hbx1); clear hbl hbx1) | (go_at_call 8; refine (lawfew_calls _ c _ (HH.out.1.below H1.out.1) HH.out.2.1).mono ?_; rintro e w2 ⟨b, rfl, hbf, hfw⟩; have hbx2 := H1.out.2.below hbf; have y0 := hbx2.cell 0 (v := .slice A1 c.toks.length c1) rfl; have y1 := hbx2.cell 1 (v := .slice A2 c.names.length c2) rfl; have y2 := hbx2.cell 2 (v := .slice A3 c.alts.length c3) rfl; have H2 := Lib.hid (And.intro (below2 H1.out.1 hbf) (And.intro hbx2 hfw)); clear hbf hbx2 hfw; cases b) | (go_at_call 9; refine (sen_calls short_calls c _ r long _ (HH.out.1.below H2.out.1) (H2.out.2.2 (by first | rfl | trivial)).2.1 (H2.out.2.2 (by first | rfl | trivial)).1).mono ?_; rintro e w3 hse; obtain ⟨hb3, va, la, ka, rfl, hsa, hia⟩ := senEnd.is hse; obtain ⟨AA, cA, rfl, l1, l2, l3, _⟩ := id hsa; have hbx3 := H2.out.2.1.below hb3; have z0 := hbx3.cell 0 (v := .slice A1 c.toks.length c1) rfl; have z1 := hbx3.cell 1 (v := .slice A2 c.names.length c2) rfl; have z2 := hbx3.cell 2 (v := .slice A3 c.alts.length c3) rfl; have H3 := Lib.hid (And.intro hsa (And.intro hia (below2 H2.out.1 hb3))); clear hsa hia hb3 hse hbx3) | (go_at_call 10; refine (rsen_calls c _ r long _ (HH.out.1.below H3.out.2.2) (H2.out.2.2 (by first | rfl | trivial)).2.1 (H2.out.2.2 (by first | rfl | trivial)).1 (H2.out.2.2 (by first | rfl | trivial)).2.2).mono ?_; rintro e w4 hse; obtain ⟨hb4, vb, lb, kb, rfl, hsb, hib⟩ := rsenEnd.is (H2.out.2.2 (by first | rfl | trivial)).2.1 hse; obtain ⟨e1, e2⟩ := SenIs.one H3.out.2.1 hib; subst e1; subst e2; obtain ⟨AB, cB, rfl, m1, m2, m3, _⟩ := id hsb; have hsa4 := H3.out.1.below hb4; have hsame := sameLists_calls _ _ la la w4 hsa4 hsb; rw [decide_eq_true (rfl : la = la)] at hsame; have H4 := Lib.hid (And.intro hsame (below2 H3.out.2.2 hb4)); clear hsame hsa4 hsb hib hb4 hse) | (go_at_call 11; refine H4.out.1.mono ?_; rintro e w5 ⟨rfl, hD5⟩))
    · go_ret
      exact ⟨rfl, H2.out.1⟩
    · go_ret
      exact ⟨rfl, below2 H4.out.2 hD5.below⟩
end Go.Proofs.Ytgjobbapnileiaa
