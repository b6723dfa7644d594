/- Sentences: the walk; Derives: states that grow. -/
import Derived.Test.YtgjobbapnileiaaZ13
import Derived.Test.YtgjobbapnileiaaZ06
import Derived.Deep.LoopGhost
import Derived.Test.YtgjobbapnileiaaZ08
import Derived.Test.YtgjobbapnileiaaZ11
set_option linter.unusedVariables false
set_option linter.unusedSimpArgs false
namespace Go.Proofs.Ytgjobbapnileiaa
open Go.RowKit Gk

abbrev madeF (short : List Int) (long : Int) (R : List Sents) (a : List Int) : Option Sents := madeS (leastP short) R long a [[]]
/-- what is told of a run -/
def senEnd (c : Cfg) (r long : Int) (w : World) (e : Ending) (w' : World) : Prop :=
  Below w.heap.size w w' ∧
  if r < 0 ∨ (c.alts.length : Int) ≤ r ∨ long < 0 ∨ 8 < long then e = .returned (.tuple #[.slice none 0 0, .int .i64 1])
  else ∃ short n res, ShortOk c short ∧ loopS (madeF short long) c.alts n (List.replicate c.alts.length []) = some res ∧ match res with
    | none => e = .returned (.tuple #[.slice none 0 0, .int .i64 2])
    | some R => ∃ v, e = .returned (.tuple #[v, .int .i64 0]) ∧ Bag w.heap.size w' v (R.getD r.toNat []) ∧ SOk long c.alts.length R
def Run0 (mf : List Sents → List Int → Option Sents) (c : Cfg) (rules : List Sents) (b : Bool) : Prop :=
  (b = true → ∀ m res, loopS mf c.alts m rules = some res → ∃ m', loopS mf c.alts m' (List.replicate c.alts.length []) = some res) ∧ (b = false → ∃ m', loopS mf c.alts m' (List.replicate c.alts.length []) = some (some rules))
theorem madeEnd.cases {res : Option Sents} {w : World} {e : Ending} {w' : World} (h : madeEnd res w e w') : ∃ lv l okb, e = .returned (.tuple #[lv, .bool okb]) ∧ Bag w.heap.size w' lv l ∧ Below w.heap.size w w' ∧ ((res = none ∧ l = [] ∧ okb = false) ∨ (res = some l ∧ okb = decide (l.length ≤ 400))) := by
  obtain ⟨hb, h⟩ := h
  cases res with
  | none => exact ⟨_, [], false, h, Bag.nil _ _, hb, .inl ⟨rfl, rfl, rfl⟩⟩
  | some l => obtain ⟨v, e1, h1⟩ := h; exact ⟨v, l, _, e1, h1, hb, .inr ⟨rfl, rfl⟩⟩
theorem madeF_ok {short : List Int} (hnn : ∀ x ∈ short, 0 ≤ x) {long : Int} (hl : 0 ≤ long) {R : List Sents} {a : List Int} {l : Sents} (h : madeF short long R a = some l) : Srt l ∧ Shrt long l ∧ l.length ≤ 3600 :=
  madeS_ok (fun s => (leastP_nn hnn s).1) hl a [[]] h (by simp) (by intro x hx; simp at hx; subst hx; simpa using hl) (by simp)
theorem altS_none {mf : List Sents → List Int → Option Sents} {R : List Sents} {b : Bool} {s : Nat} {a : List Int} (h : mf R a = none) : altS mf (R, b) s a = none := by
  unfold altS; simp only [h]
theorem altS_eq {mf : List Sents → List Int → Option Sents} {R : List Sents} {b : Bool} {s : Nat} {a : List Int} {l : Sents} (h : mf R a = some l) :
    altS mf (R, b) s a = if l.length ≤ 400 ∧ (l.foldl insS (R.getD s [])).length ≤ 400 then some (R.set s (l.foldl insS (R.getD s [])), b || decide ((R.getD s []).length < (l.foldl insS (R.getD s [])).length)) else none := by
  unfold altS; simp only [h]
theorem set_getD {R : List Sents} {s : Nat} : R.set s (R.getD s []) = R := by
  apply List.ext_getElem?
  intro i
  by_cases h : i = s
  · subst h
    by_cases hi : i < R.length
    · rw [List.getElem?_set_self hi, List.getD_eq_getElem?_getD, List.getElem?_eq_getElem hi]; rfl
    · rw [List.getElem?_eq_none (by simpa using hi), List.getElem?_eq_none (by omega)]
  · rw [List.getElem?_set_ne (fun e => h e.symm)]
theorem Sen6.c {wS w w' : World} {R s : Nat} {rules : List Sents} {cur : Sents} {cells : Array Value} {v v' : Value} {x : List Int} (h : SenC wS R (rules.set s cur) cells w) (hv : cells[s]? = some v) (hs : s < rules.length)
    (hb : Box w' R (cells.setIfInBounds s v') 50) (hB : Bag wS.heap.size w' v' (insS cur x)) (hE : AddEff w w' R v.ownBlock) (hat : v'.ownBlock = v.ownBlock ∨ ∃ k, v'.ownBlock = some k ∧ w.heap.size ≤ k) :
    SenC wS R (rules.set s (insS cur x)) (cells.setIfInBounds s v') w' := by
  have := h.add hv (by simpa using hs) hb hB hE hat
  rwa [List.set_set] at this
theorem Sen6.keep {wm wl wr w' : World} {R s : Nat} {cells : Array Value} {v : Value} (h : ∀ g, wm.heap.size ≤ g → g < wl.heap.size → wr.heap[g]? = wl.heap[g]?) (ho : ∀ v g, cells[s]? = some v → v.ownBlock = some g → g < wm.heap.size ∨ wl.heap.size ≤ g) (hv : cells[s]? = some v)
    (hE : AddEff wr w' R v.ownBlock) (hs : wl.heap.size ≤ wr.heap.size) (hR : R < wm.heap.size) (_ : wm.heap.size ≤ wl.heap.size) : ∀ g, wm.heap.size ≤ g → g < wl.heap.size → w'.heap[g]? = wl.heap[g]? := fun g h1 h2 => by
  rw [hE.block g (by omega) (by omega) (fun e => by rcases ho v g hv e.symm with h | h <;> omega), h g h1 h2]
theorem Sen6.own {wm wl wr : World} {s : Nat} {cells : Array Value} {v v' : Value} (ho : ∀ v g, cells[s]? = some v → v.ownBlock = some g → g < wm.heap.size ∨ wl.heap.size ≤ g) (hv : cells[s]? = some v)
    (hat : v'.ownBlock = v.ownBlock ∨ ∃ k, v'.ownBlock = some k ∧ wr.heap.size ≤ k) (hs : wl.heap.size ≤ wr.heap.size) : ∀ u g, (cells.setIfInBounds s v')[s]? = some u → u.ownBlock = some g → g < wm.heap.size ∨ wl.heap.size ≤ g := fun u g hu hg => by
  rw [Array.getElem?_setIfInBounds_self_of_lt (Array.getElem?_eq_some_iff.1 hv).1] at hu
  injection hu with hu; subst hu
  rcases hat with e | ⟨k, e, hk⟩
  · exact ho v g hv (e ▸ hg)
  · rw [hg] at e; injection e with e; exact .inr (by omega)
/-- loop 0 -/
def Sen0 (c : Cfg) (long : Int) (mf : List Sents → List Int → Option Sents) (wS : World) (R gk : Nat) (flag : Value) (wr : World) : Prop :=
  ∃ (rules : List Sents) (cells : Array Value) (b : Bool), flag = .bool b ∧ SenC wS R rules cells wr ∧ Hid (SOk long c.alts.length rules) ∧ Hid (Run0 mf c rules b) ∧ (b = true → c.alts.length * 400 + 2 - total rules ≤ gk)
/-- loop 2: the first s rules are done -/
def Sen2 (c : Cfg) (long : Int) (mf : List Sents → List Int → Option Sents) (wS : World) (R : Nat) (rules0 : List Sents) (i flag : Value) (wr : World) : Prop :=
  ∃ (s : Nat) (rules : List Sents) (cells : Array Value) (b : Bool), s ≤ c.alts.length ∧ i = .int .i64 s ∧ flag = .bool b ∧ SenC wS R rules cells wr ∧ Hid (SOk long c.alts.length rules) ∧ Hid (roundS mf 0 c.alts (rules0, false) = roundS mf s (c.alts.drop s) (rules, b)) ∧ Hid (StepOk rules0 false rules b)
/-- loop 4: the first j alternatives are done -/
def Sen4 (c : Cfg) (long : Int) (mf : List Sents → List Int → Option Sents) (wS : World) (R s : Nat) (al : List (List Int)) (rules1 : List Sents) (b1 : Bool) (i flag : Value) (wr : World) : Prop :=
  ∃ (j : Nat) (rules : List Sents) (cells : Array Value) (b : Bool), j ≤ al.length ∧ i = .int .i64 j ∧ flag = .bool b ∧ SenC wS R rules cells wr ∧ Hid (SOk long c.alts.length rules) ∧ Hid (ruleS mf s al (rules1, b1) = ruleS mf s (al.drop j) (rules, b)) ∧ Hid (StepOk rules1 b1 rules b)
/-- loop 6: the first q sentences are added -/
def Sen6 (wS : World) (R s : Nat) (rules : List Sents) (b : Bool) (l : Sents) (wm wl : World) (i flag : Value) (wr : World) : Prop :=
  ∃ (q : Nat) (cur : Sents) (cells : Array Value) (b' : Bool), q ≤ l.length ∧ i = .int .i64 q ∧ flag = .bool b' ∧ SenC wS R (rules.set s cur) cells wr ∧ Hid (cur = (l.take q).foldl insS (rules.getD s [])) ∧ Hid (b' = (b || decide ((rules.getD s []).length < cur.length))) ∧ cur.length ≤ 400 + q ∧ Hid (Srt cur) ∧ KI wl wr ∧
    Hid (∀ g, wm.heap.size ≤ g → g < wl.heap.size → wr.heap[g]? = wl.heap[g]?) ∧ Hid (∀ v g, cells[s]? = some v → v.ownBlock = some g → g < wm.heap.size ∨ wl.heap.size ≤ g)
set_option maxRecDepth 100000 in
set_option maxHeartbeats 4000000 in
theorem sen_calls (hshort : ∀ (c : Cfg) (v : Value) (w : World), CfgV w v c → CfgOk c → Small 60 c → 0 < c.alts.length → Calls Try.prog 18 #[v] w (shortEnd c w)) (c : Cfg) (v : Value) (r long : Int) (w : World) (h : CfgV w v c) (hok : CfgOk c) (hsm : Small 60 c) :
    Calls Try.prog 9 #[v, .int .i64 r, .int .i64 long] w (senEnd c r long w) := by
  have hal : c.alts.length ≤ 60 := by have := hok.1; have := hsm.1; omega
  have HH := Lib.hid (And.intro h (And.intro hok hsm))
  obtain ⟨a0, b0, d0, rfl, h1, h2, h3⟩ := id h
  obtain ⟨A1, c1, rfl, hc1, hm1, _, hr1⟩ := id h1
  obtain ⟨A2, c2, rfl, hc2, hm2, _, hr2⟩ := id h2
  obtain ⟨A3, c3, rfl, hc3, hm3, hl3, hr3⟩ := id h3
  unfold LB at hl3
  clear h hok hsm h1 h2 h3 hr1 hr2
  by_cases hbad : r < 0 ∨ (c.alts.length : Int) ≤ r ∨ long < 0 ∨ 8 < long
  · go_enter Try.func9, Try.ntmps9
    have hbox := Box.new w #[.slice A1 c.toks.length c1, .slice A2 c.names.length c2, .slice A3 c.alts.length c3] 25
    have hbc := hbox.cell 2 (v := .slice A3 c.alts.length c3) rfl
    have hend : ∀ e, e = Ending.returned (.tuple #[.slice none 0 0, .int .i64 1]) → senEnd c r long w e (w.alloc (.cells #[.slice A1 c.toks.length c1, .slice A2 c.names.length c2, .slice A3 c.alts.length c3] 25)) := fun e he => ⟨(Below.refl _ _).alloc (Nat.le_refl _) _, by rw [if_pos hbad]; exact he⟩
    have HE := Lib.hid hend
    clear hend
    rcases hbad with h | h | h | h
    · go_wp2
      go_ret2
      exact HE.out _ rfl
    · go_wp2
      all_goals go_ret2
      all_goals exact HE.out _ rfl
    · by_cases h' : r < 0
      · go_wp2
        go_ret2
        exact HE.out _ rfl
      · by_cases h'' : (c.alts.length : Int) ≤ r
        · go_wp2
          go_ret2
          exact HE.out _ rfl
        · go_wp2
          go_ret2
          exact HE.out _ rfl
    · by_cases h' : r < 0
      · go_wp2
        go_ret2
        exact HE.out _ rfl
      · by_cases h'' : (c.alts.length : Int) ≤ r
        · go_wp2
          go_ret2
          exact HE.out _ rfl
        · have h3 : ¬ long < 0 := by omega
          go_wp2
          go_ret2
          exact HE.out _ rfl
  · have hr0 : 0 ≤ r := by omega
    have hr1 : r < c.alts.length := by omega
    have hl0 : 0 ≤ long := by omega
    have hl1 : long ≤ 8 := by omega
    have HB := Lib.hid hbad; clear hbad
    go_enter Try.func9, Try.ntmps9
    go_wp2
    have hba : Below w.heap.size w (w.alloc (.cells #[.slice A1 c.toks.length c1, .slice A2 c.names.length c2, .slice A3 c.alts.length c3] 25)) := (Below.refl _ _).alloc (Nat.le_refl _) _
    have hbx := Box.new w #[.slice A1 c.toks.length c1, .slice A2 c.names.length c2, .slice A3 c.alts.length c3] 25
    have hsz1 : (w.alloc (.cells #[.slice A1 c.toks.length c1, .slice A2 c.names.length c2, .slice A3 c.alts.length c3] 25)).heap.size = w.heap.size + 1 := by simp
    generalize w.alloc (.cells #[.slice A1 c.toks.length c1, .slice A2 c.names.length c2, .slice A3 c.alts.length c3] 25) = w1 at *
    rename_i KK hKK
    refine wp_region_grow (by kernel_rfl) (by kernel_rfl) (by kernel_rfl) (SenV w1 (.slice A1 c.toks.length c1) (.slice A2 c.names.length c2) (.slice A3 c.alts.length c3) c long w.heap.size) (fun i v w w' h hb => SenV.below i v w w' h hb) ?_ ?_
    · intro i o ho val w2 hB2 hd
      have hcfg : CfgV w2 (.agg #[.slice A1 c.toks.length c1, .slice A2 c.names.length c2, .slice A3 c.alts.length c3]) c := HH.out.1.below (below2 hba hB2)
      have hbx2 := hbx.below hB2
      have hx0 := hbx2.cell 0 (v := .slice A1 c.toks.length c1) rfl
      have hx1 := hbx2.cell 1 (v := .slice A2 c.names.length c2) rfl
      have hx2 := hbx2.cell 2 (v := .slice A3 c.alts.length c3) rfl
      have hi11 : i < 11 := (List.getElem?_eq_some_iff.1 ho).1
      have : i = 0 ∨ i = 1 ∨ i = 2 ∨ i = 3 ∨ i = 4 ∨ i = 5 ∨ i = 6 ∨ i = 7 ∨ i = 8 ∨ i = 9 ∨ i = 10 := by omega
      rcases this with rfl | rfl | rfl | rfl | rfl | rfl | rfl | rfl | rfl | rfl | rfl <;> cases ho
      · exact does_value (exec_load rfl rfl (by go_simp)) ⟨Below.refl _ _, rfl⟩
      · exact does_value (v := .int .i64 long) (w := w2) rfl ⟨Below.refl _ _, rfl⟩
      · exact does_value (exec_load rfl rfl (by go_simp)) ⟨Below.refl _ _, rfl⟩
      · have e2 : val 2 = _ := hd 2 ⟨⟨2, .data⟩, by simp, rfl, rfl⟩
        refine does_enter (f := 18) (args := #[.agg #[.slice A1 c.toks.length c1, .slice A2 c.names.length c2, .slice A3 c.alts.length c3]]) (w := w2) (exec_call rfl rfl (by simp only [List.map_toArray, List.map_cons, List.map_nil]; exact congrArg (fun x => #[x]) e2) Try.func18 (by decide) rfl) ?_
        refine (hshort c _ _ hcfg HH.out.2.1 HH.out.2.2 (by omega)).mono ?_
        rintro e w3 ⟨v, short, rfl, h1, h2, h3⟩
        exact ⟨v, rfl, h3, short, h1, h2⟩
      · exact does_value (exec_fieldAddr (vx := .pointer (some ⟨w.heap.size, 0, none⟩)) rfl rfl (by go_simp)) ⟨Below.refl _ _, rfl⟩
      · have e4 : val 4 = _ := hd 4 ⟨⟨4, .data⟩, by simp, rfl, rfl⟩
        exact does_value (exec_load rfl e4 (by go_simp)) ⟨Below.refl _ _, rfl⟩
      · have e5 : val 5 = _ := hd 5 ⟨⟨5, .data⟩, by simp, rfl, rfl⟩
        exact does_value (exec_len rfl e5 (by go_simp)) ⟨Below.refl _ _, rfl⟩
      · have e6 : val 6 = _ := hd 6 ⟨⟨6, .data⟩, by simp, rfl, rfl⟩
        obtain ⟨i0, hi0, hz0, hzs, hzb⟩ := info_parts infoBag
        have hr := run_makeSlice (P := Try.prog) w2 47 50 i0 _ Try.underlying47 hi0 hz0 .i64 .i64 c.alts.length c.alts.length (by omega) (by omega) (by rw [hzs]; omega) (by rw [hzb]; omega) (by omega)
        refine does_value (exec_makeSlice rfl e6 e6 hr) ⟨(Below.refl _ _).alloc (Nat.le_refl _) _, w2.heap.size, by simp, ?_, hB2.size⟩
        have e : (madeCells (Value.slice none 0 0).cells ((c.alts.length : Int).toNat * 1)) = Array.replicate c.alts.length (.slice none 0 0) := by rw [Int.toNat_natCast]; exact madeNil _
        rw [hzs, e]
        exact Box.new _ _ _
      · have e0 : val 0 = _ := hd 0 ⟨⟨0, .data⟩, by simp, rfl, rfl⟩
        have e1 : val 1 = _ := hd 1 ⟨⟨1, .data⟩, by simp, rfl, rfl⟩
        obtain ⟨short, h1, h2⟩ := hd 3 ⟨⟨3, .data⟩, by simp, rfl, rfl⟩
        have h7 := hd 7 ⟨⟨7, .data⟩, by simp, rfl, rfl⟩
        obtain ⟨R, e7, h3, h4⟩ := id h7
        obtain ⟨As, cs, e3, _⟩ := h2.sl
        have hr : (Instr.build 49 #[(0, Value.agg #[.slice A1 c.toks.length c1, .slice A2 c.names.length c2, .slice A3 c.alts.length c3]), (1, .int .i64 long), (2, val 3), (3, val 7)]).run Try.prog w2 = .ok (.agg #[.slice A1 c.toks.length c1, .slice A2 c.names.length c2, .slice A3 c.alts.length c3, .int .i64 long, val 3, val 7]) w2 := by
          rw [e3, e7]; go_simp
        refine does_value (exec_build (A := #[(0, Value.agg #[.slice A1 c.toks.length c1, .slice A2 c.names.length c2, .slice A3 c.alts.length c3]), (1, .int .i64 long), (2, val 3), (3, val 7)]) rfl (by simp only [List.map_toArray, List.map_cons, List.map_nil]; rw [← e0, ← e1]; rfl) hr) ⟨Below.refl _ _, val 3, val 7, short, rfl, h1, h2, h7⟩
      · obtain ⟨sv, rv, short, e8, h1, h2, h3⟩ := hd 8 ⟨⟨8, .data⟩, by simp, rfl, rfl⟩
        have hr : (Instr.box 49 (.agg #[.slice A1 c.toks.length c1, .slice A2 c.names.length c2, .slice A3 c.alts.length c3, .int .i64 long, sv, rv])).run Try.prog w2 = .ok (.pointer (some ⟨w2.heap.size, 0, none⟩)) (w2.alloc (.cells #[.slice A1 c.toks.length c1, .slice A2 c.names.length c2, .slice A3 c.alts.length c3, .int .i64 long, sv, rv] 49)) := by
          go_simp
        have hbn : Below w2.heap.size w2 (w2.alloc (.cells #[.slice A1 c.toks.length c1, .slice A2 c.names.length c2, .slice A3 c.alts.length c3, .int .i64 long, sv, rv] 49)) := (Below.refl _ _).alloc (Nat.le_refl _) _
        refine does_value (exec_box rfl e8 hr) ⟨hbn, w2.heap.size, sv, rv, short, rfl, hB2.size, Box.new _ _ _, h1, h2.ki (KI.below hbn), h3.below hbn, fun R n m e => ?_⟩
        obtain ⟨R', e', hb', _⟩ := h3
        rw [e] at e'; injection e' with e'; injection e' with e'; injection e' with e'; have := hb'.lt; omega
      · have h9 := hd 9 ⟨⟨9, .data⟩, by simp, rfl, rfl⟩
        exact does_value (v := val 9) (w := w2) rfl ⟨Below.refl _ _, h9⟩
    · rintro val w2 hB2 hV
      obtain ⟨X, sv, rv, short, e10, hXs, hXb, hso, hsl, hnr, hXR⟩ := hV 10 (by decide)
      obtain ⟨R, rfl, hRb, hRs⟩ := hnr
      have hRX := hXR R _ _ rfl
      clear hV hXR
      have hbx2 := hbx.below hB2
      have hB20 := below2 hba hB2
      clear hbx hba hB2
      refine hKK _ _ ?_
      simp [fillAll, List.range, List.range.loop, dstOf, Act.put]
      rw [e10]
      generalize Value.bool (decide (r < 0) || decide (↑c.alts.length ≤ r) || decide (long < 0) || decide (8 < long)) = z4
      generalize Value.bool (decide (r < 0) || decide (↑c.alts.length ≤ r) || decide (long < 0)) = z3
      generalize Value.bool (decide (r < 0) || decide (↑c.alts.length ≤ r)) = z2
      generalize Value.bool (decide (r < 0)) = z1
      generalize Value.bool (decide (↑c.alts.length ≤ r)) = z5
      generalize Value.bool (decide (long < 0)) = z6
      generalize Value.bool (decide (8 < long)) = z7
      generalize val 0 = v0; generalize val 1 = v1; generalize val 2 = v2; generalize val 3 = v3; generalize val 4 = v4; generalize val 5 = v5; generalize val 6 = v6; generalize val 7 = v7; generalize val 8 = v8; generalize val 9 = v9
      clear e10 val
      obtain ⟨rn, rfl⟩ := Int.eq_ofNat_of_zero_le hr0
      have hS0 : SenC w2 R (List.replicate c.alts.length []) (Array.replicate c.alts.length (.slice none 0 0)) w2 := by
        refine ⟨hRb, by simp, fun s l hl => ?_, fun s s' v v' g h1 h2 h3 _ => ?_, SenB.refl _ _, hRb.lt⟩
        · rw [List.getElem?_replicate] at hl
          split at hl
          · injection hl with hl; subst hl
            rename_i hlt
            exact ⟨.slice none 0 0, by rw [Array.getElem?_replicate, if_pos hlt], Bag.nil _ _⟩
          · cases hl
        · rw [Array.getElem?_replicate] at h1
          split at h1
          · injection h1 with h1; subst h1; simp [Value.ownBlock] at h3
          · cases h1
      have hO0 : SOk long c.alts.length (List.replicate c.alts.length []) := ⟨by simp, fun l hl => by rw [List.eq_of_mem_replicate hl]; exact List.Pairwise.nil, fun l hl => by rw [List.eq_of_mem_replicate hl]; intro x hx; simp at hx, fun l hl => by rw [List.eq_of_mem_replicate hl]; simp⟩
      have HF := Lib.hid (And.intro hXb (And.intro hso (And.intro hsl (And.intro hbx2 (And.intro hB20 (And.intro hS0 hO0))))))
      have hXlt := hXb.lt
      have hNlt := hbx2.lt
      clear hXb hso hsl hbx2 hB20 hS0 hO0 hRb
      go_wp2
      go_loopg [9] (c.alts.length * 400 + 2) (fun gk flag wr => Sen0 c long (madeF short long) w2 R gk flag wr)
      case atStart => exact ⟨_, _, true, rfl, HF.out.2.2.2.2.2.1, HF.out.2.2.2.2.2.2, ⟨fun _ m res h => ⟨m, h⟩, fun h => by cases h⟩, fun _ => by omega⟩
      case round =>
        obtain ⟨rules, cells, b, rfl, hC, hO, hRun, hgk⟩ := hrel
        have H0 := Lib.hid (And.intro hC (And.intro hO (And.intro hRun hgk)))
        clear hC hO hRun hgk
        have hXr := (HF.out.1.keep (H0.out.1.base.block X hXlt (Ne.symm hRX)))
        have hx5 := hXr.cell 5 (v := .slice (some ⟨R, 0, none⟩) c.alts.length c.alts.length) rfl
        have hN2 := (HF.out.2.2.2.1.keep (H0.out.1.base.block w.heap.size hNlt (by omega))).cell 2 (v := .slice A3 c.alts.length c3) rfl
        cases b with
        | false =>
          have hlen := H0.out.2.1.out.len
          obtain ⟨vr, hvr, hbr⟩ := H0.out.1.bags rn (rules.getD rn []) (by rw [List.getD_eq_getElem?_getD, List.getElem?_eq_getElem (by omega)]; rfl)
          obtain ⟨Ar, cr, rfl, _, _, _, _⟩ := hbr.sl
          have hcr := H0.out.1.box.cell rn hvr
          have HR := Lib.hid hbr
          clear hbr
          go_wp2
          go_ret2
          refine ⟨H0.out.1.base.to HF.out.2.2.2.2.1 (by omega), ?_⟩
          rw [if_neg HB.out]
          obtain ⟨m', hm'⟩ := H0.out.2.2.1.out.2 rfl
          exact ⟨short, m', some rules, HF.out.2.1, hm', _, rfl, HR.out.mono (fun k hk => by have := (HR.out.lt k hk).1; have := HF.out.2.2.2.2.1.size; omega), H0.out.2.1.out⟩
        | true =>
          have hC3 : Below w.heap.size w wr := H0.out.1.base.to HF.out.2.2.2.2.1 (by omega)
          obtain ⟨w0, rfl⟩ : ∃ w0 : World, w0 = wr := ⟨_, rfl⟩
          go_wp2
          go_loopw [49, 9] (fun i flag wr => Sen2 c long (madeF short long) w2 R rules i flag wr) (fun i _ _ => c.alts.length - (intOf i).toNat)
          case atStart => exact ⟨0, rules, cells, false, Nat.zero_le _, rfl, rfl, H0.out.1, H0.out.2.1, rfl, ⟨Nat.le_refl _, fun h => .inl h⟩⟩
          case round =>
            obtain ⟨s, rules1, cells1, b1, hs, rfl, rfl, hC1, hO1, hR1, hT1⟩ := hrel
            have H1 := Lib.hid (And.intro hC1 (And.intro hO1 (And.intro hR1 hT1)))
            clear hC1 hO1 hR1 hT1
            by_cases hlt : s < c.alts.length
            · obtain ⟨al, hal⟩ := at_lt c.alts hlt
              have hB1 : Below w.heap.size w wr := H1.out.1.base.to HF.out.2.2.2.2.1 (by omega)
              obtain ⟨ad3, B3, c4, rfl, hcellB, g1, g2, g3, g4⟩ := (hr3.below hB1).slice hal
              have HAL := Lib.hid hal; clear hal
              obtain ⟨w3, rfl⟩ : ∃ w3 : World, w3 = wr := ⟨_, rfl⟩
              have G4 := Lib.hid g4; clear g4
              go_wp2
              go_loopw [56, 9] (fun i flag wr => Sen4 c long (madeF short long) w2 R s al rules1 b1 i flag wr) (fun i _ _ => al.length - (intOf i).toNat)
              case atStart => exact ⟨0, rules1, cells1, b1, Nat.zero_le _, rfl, rfl, H1.out.1, H1.out.2.1, rfl, ⟨Nat.le_refl _, fun h => .inl h⟩⟩
              case round =>
                obtain ⟨j, rules2, cells2, b2, hj, rfl, rfl, hC2, hO2, hR2, hT2⟩ := hrel
                have H2 := Lib.hid (And.intro hC2 (And.intro hO2 (And.intro hR2 hT2)))
                clear hC2 hO2 hR2 hT2
                by_cases hlt4 : j < al.length
                · obtain ⟨a, ha⟩ := at_lt al hlt4
                  have hB2 : Below w.heap.size w wr := H2.out.1.base.to HF.out.2.2.2.2.1 (by omega)
                  obtain ⟨alA, hal2⟩ : ∃ x, x = al := ⟨_, rfl⟩
                  obtain ⟨ad0, B0, c0, e0, hcell0, _, _, _, g40⟩ := (hr3.below hB2).slice HAL.out
                  injection e0 with e0
                  subst e0
                  have hrowA : Row (Ty.slice Ty.int) w3 B3 al := G4.out
                  have hrowB : Row (Ty.slice Ty.int) wr B3 al := by
                    obtain ⟨ad1, B1, c1', e1, hcell1, _, _, _, g41⟩ := hr3.slice HAL.out
                    injection e1 with e1
                    subst e1
                    have q1 := cell_far hcell1 hB1.block
                    rw [hcellB] at q1; injection q1 with q1; injection q1 with q1 _ _
                    rw [q1]; exact g41.below hB2
                  obtain ⟨adA, BA, cA, rfl, hcellA, a1, a2, a3, a4⟩ := hrowB.slice ha
                  have hua : Hid (Sl Ty.int wr (.slice BA a.length cA) a) := ⟨BA, cA, rfl, a1, a2, a3, a4⟩
                  have HA := Lib.hid ha; clear ha a4 hrowA hrowB g40
                  obtain ⟨wm, rfl⟩ : ∃ wm : World, wm = wr := ⟨_, rfl⟩
                  have hlen2 := H2.out.2.1.out.len
                  have hsmA := HH.out.2.2.2 al (List.mem_of_getElem? HAL.out)
                  have hsmA2 := hsmA.2 a (List.mem_of_getElem? HA.out)
                  have hinA := HH.out.2.1.2 al (List.mem_of_getElem? HAL.out) a (List.mem_of_getElem? HA.out)
                  have hnm := HH.out.2.1.1
                  have hXm := (HF.out.1.keep (H2.out.1.base.block X hXlt (Ne.symm hRX)))
                  have hmade := made_calls X R _ _ _ sv (.slice BA a.length cA) long cells2 short a rules2 wm (by rw [hlen2]; exact hXm) (HF.out.2.2.1.ki H2.out.1.base.ki).sl hua HF.out.2.1.nn H2.out.1.at_ hl0 hl1 (by omega) (by omega) H2.out.2.1.out.few H2.out.2.1.out.shrt (fun k hk hk0 => by rcases hinA k hk with h | h <;> omega)
                  have HMADE := Lib.hid hmade; clear hmade
                  clear hsmA hsmA2 hinA hnm
                  have HXM := Lib.hid hXm; clear hXm
                  go_wp2_with (go_at_call 19; refine HMADE.out.mono ?_; rintro e wl hme; obtain ⟨lv, l, okb, rfl, hlb, hBl, hres⟩ := madeEnd.cases hme; obtain ⟨AL, cL, rfl, l1, l2, l3, l4⟩ := id hlb.sl; have HL := Lib.hid (And.intro hlb (And.intro hBl hres)); clear hlb hBl hres l4 hme)
                  have hsz := H2.out.1.base.size
                  have hlbs := HL.out.2.1.size
                  have hl36 : l.length ≤ 3600 := by
                    rcases HL.out.2.2 with ⟨_, h, _⟩ | ⟨h, _⟩
                    · rw [h]; simp
                    · exact (madeF_ok HF.out.2.1.nn hl0 h).2.2
                  go_loopw [68, 9] (fun i flag wr => Sen6 w2 R s rules2 b2 l wm wl i flag wr) (fun i _ _ => l.length - (intOf i).toNat)
                  case atStart =>
                    have hmem : rules2.getD s [] ∈ rules2 := getD_mem (by omega)
                    refine ⟨0, rules2.getD s [], cells2, b2, Nat.zero_le _, rfl, rfl, ?_, rfl, ?_, ?_, H2.out.2.1.out.srt _ hmem, KI.refl _, fun _ _ _ => rfl, fun v g hv hg => ?_⟩
                    · rw [set_getD]; exact H2.out.1.below HL.out.2.1
                    · show b2 = _; simp
                    · have := H2.out.2.1.out.few _ hmem; omega
                    · obtain ⟨v', hv', hb'⟩ := H2.out.1.bags s (rules2.getD s []) (by rw [List.getD_eq_getElem?_getD, List.getElem?_eq_getElem (by omega)]; rfl)
                      rw [hv] at hv'; injection hv' with hv'; subst hv'
                      exact .inl (hb'.lt g hg).2
                  case round =>
                    obtain ⟨q, cur, cells, b', hq, rfl, rfl, hC, hcur, hb', hcl, hsrt, hki, hkeep, hown⟩ := hrel
                    have H6 := Lib.hid (And.intro hC (And.intro hcur (And.intro hb' (And.intro hsrt (And.intro hki (And.intro hkeep hown))))))
                    have hszr := hki.size
                    have hsize6 := hC.base.size
                    have hRlt := hC.lt
                    clear hC hcur hb' hsrt hki hkeep hown
                    have hX5 := (HF.out.1.keep (H6.out.1.base.block X hXlt (Ne.symm hRX))).cell 5 (v := .slice (some ⟨R, 0, none⟩) c.alts.length c.alts.length) rfl
                    obtain ⟨vs, hvs, hbs⟩ := H6.out.1.bags s cur (by rw [List.getElem?_set_self (by omega)])
                    obtain ⟨Av, cv, rfl, v1', v2', v3', v4'⟩ := id hbs.sl
                    unfold LB at v3'
                    have hcell6 := H6.out.1.box.cell s hvs
                    have HBS := Lib.hid (And.intro hvs hbs)
                    clear hvs hbs v4'
                    by_cases hlt6 : q < l.length
                    · obtain ⟨x, hx⟩ := at_lt l hlt6
                      have hLr : Bag wm.heap.size wr (.slice AL l.length cL) l := HL.out.1.keep H6.out.2.2.2.2.1 (fun g hg => by have := HL.out.1.lt g hg; exact H6.out.2.2.2.2.2.1 g this.1 this.2)
                      obtain ⟨adL, UX, cx, rfl, hcx, hILx, x1, x2, x3⟩ := hLr.at_ hx
                      have hadd := add_calls w2.heap.size R s cells 50 _ _ cur x wr H6.out.1.box (by decide) HBS.out.1 HBS.out.2 hILx H6.out.2.2.2.1.out (fun e => by have := (HBS.out.2.lt _ e).1; omega) (by omega) hsize6
                      have HADD := Lib.hid hadd
                      have HX := Lib.hid hx
                      clear hadd hx hLr hILx
                      obtain ⟨wr0, rfl⟩ : ∃ wr0 : World, wr0 = wr := ⟨_, rfl⟩
                      by_cases hxc : x ∈ cur
                      · have hdec : decide (x ∉ cur) = false := decide_eq_false (fun h => h hxc)
                        go_wp2_with (go_at_call 20; refine HADD.out.mono ?_; rintro e w7 ⟨v7, rfl, hbx7, hbag7, hE7, hat7⟩)
                        refine ⟨⟨q + 1, insS cur x, _, b', by omega, by simp, rfl, Sen6.c H6.out.1 HBS.out.1 (by omega) hbx7 hbag7 hE7 hat7, ?_, ?_, by rw [insS_old hxc]; omega, srt_insS H6.out.2.2.2.1.out _, H6.out.2.2.2.2.1.trans hE7.ki, Sen6.keep H6.out.2.2.2.2.2.1.out H6.out.2.2.2.2.2.2.out HBS.out.1 hE7 hszr (by omega) (by omega), Sen6.own H6.out.2.2.2.2.2.2.out HBS.out.1 hat7 hszr⟩, by simp [intOf]; omega⟩
                        · have h : cur = _ := H6.out.2.1
                          show _ = _
                          rw [take_next HX.out, List.foldl_append, ← h]; rfl
                        · rw [insS_old hxc]; exact H6.out.2.2.1
                      · have hdec : decide (x ∉ cur) = true := decide_eq_true hxc
                        go_wp2_with (go_at_call 20; refine HADD.out.mono ?_; rintro e w7 ⟨v7, rfl, hbx7, hbag7, hE7, hat7⟩)
                        have hil : (insS cur x).length = cur.length + 1 := by rw [length_insS, if_neg hxc]
                        refine ⟨⟨q + 1, insS cur x, _, true, by omega, by simp, rfl, Sen6.c H6.out.1 HBS.out.1 (by omega) hbx7 hbag7 hE7 hat7, ?_, ?_, by omega, srt_insS H6.out.2.2.2.1.out _, H6.out.2.2.2.2.1.trans hE7.ki, Sen6.keep H6.out.2.2.2.2.2.1.out H6.out.2.2.2.2.2.2.out HBS.out.1 hE7 hszr (by omega) (by omega), Sen6.own H6.out.2.2.2.2.2.2.out HBS.out.1 hat7 hszr⟩, by simp [intOf]; omega⟩
                        · have h : cur = _ := H6.out.2.1
                          show _ = _
                          rw [take_next HX.out, List.foldl_append, ← h]; rfl
                        · have h : cur = _ := H6.out.2.1
                          have h2 := (foldl_ins (l.take q) (rules2.getD s [])).1
                          rw [← h] at h2
                          show true = _
                          rw [decide_eq_true (show (rules2.getD s []).length < (insS cur x).length by omega), Bool.or_true]
                    · have hqe : q = l.length := by omega
                      have hcurf : Hid (cur = l.foldl insS (rules2.getD s [])) := by
                        have h : cur = _ := H6.out.2.1
                        show _ = _
                        rw [h, hqe, List.take_length]
                      have HQE := Lib.hid hqe; clear hqe
                      have hret : ∀ e, altS (madeF short long) (rules2, b2) s a = none → e = Ending.returned (.tuple #[.slice none 0 0, .int .i64 2]) → senEnd c rn long w e wr := fun e h1 h2 => by
                        have hr4 : ruleS (madeF short long) s al (rules1, b1) = none := by
                          have h : ruleS _ _ _ _ = _ := H2.out.2.2.1
                          rw [h, drop_at HA.out, ruleS, h1]
                        have hr2 : roundS (madeF short long) 0 c.alts (rules, false) = none := by
                          have h : roundS _ _ _ _ = _ := H1.out.2.2.1
                          rw [h, drop_at HAL.out, roundS, hr4]
                        obtain ⟨m', hm'⟩ := H0.out.2.2.1.out.1 rfl 1 none (by rw [loopS, hr2])
                        refine ⟨H6.out.1.base.to HF.out.2.2.2.2.1 (by omega), ?_⟩
                        rw [if_neg HB.out]
                        exact ⟨short, m', none, HF.out.2.1, hm', h2⟩
                      have HRET := Lib.hid hret; clear hret
                      cases okb with
                      | false =>
                        go_wp2
                        go_ret2
                        refine HRET.out _ ?_ rfl
                        rcases HL.out.2.2 with ⟨h, _, _⟩ | ⟨h, h2⟩
                        · exact altS_none h
                        · have h3 : ¬ l.length ≤ 400 := by simpa using h2.symm
                          rw [altS_eq h, if_neg (fun h => h3 h.1)]
                      | true =>
                        have hl4 : Hid (madeF short long rules2 a = some l ∧ l.length ≤ 400) := by
                          rcases HL.out.2.2 with ⟨_, _, h⟩ | ⟨h, h2⟩
                          · cases h
                          · exact ⟨h, by simpa using h2.symm⟩
                        by_cases h400 : (cur.length : Int) > 400
                        · go_wp2
                          go_ret2
                          refine HRET.out _ ?_ rfl
                          have h : cur = _ := hcurf
                          rw [altS_eq hl4.out.1, if_neg (fun h' => by have := h'.2; rw [← h] at this; omega)]
                        · have halt : Hid (altS (madeF short long) (rules2, b2) s a = some (rules2.set s cur, b')) := by
                            have h : cur = _ := hcurf
                            have hb : b' = _ := H6.out.2.2.1
                            show _ = _
                            rw [altS_eq hl4.out.1, if_pos ⟨hl4.out.2, by rw [← h]; omega⟩, ← h, hb]
                          have hok2 := altS_ok (long := long) (n := c.alts.length) (fun R a l hR hl => (madeF_ok HF.out.2.1.nn hl0 hl).2.1) halt.out hlt H2.out.2.1.out
                          have HOK := Lib.hid hok2; clear hok2
                          go_wp2
                          refine ⟨⟨j + 1, rules2.set s cur, cells, b', by omega, by simp, rfl, H6.out.1, HOK.out.1, ?_, H2.out.2.2.2.out.trans HOK.out.2⟩, by simp [intOf]; omega⟩
                          have h : ruleS _ _ _ _ = _ := H2.out.2.2.1
                          show _ = _
                          rw [h, drop_at HA.out, ruleS, halt.out]
                · have hje : j = al.length := by omega
                  have HJE := Lib.hid hje; clear hje
                  go_wp2
                  refine ⟨⟨s + 1, rules2, cells2, b2, by omega, by simp, rfl, H2.out.1, H2.out.2.1, ?_, H1.out.2.2.2.out.trans H2.out.2.2.2⟩, by simp [intOf]; omega⟩
                  have h : roundS _ _ _ _ = _ := H1.out.2.2.1
                  have h2 : ruleS _ _ _ _ = _ := H2.out.2.2.1
                  show _ = _
                  rw [h, drop_at HAL.out, roundS, h2, HJE.out, List.drop_length, ruleS]
            · have hse : s = c.alts.length := by omega
              have hfin : Hid (roundS (madeF short long) 0 c.alts (rules, false) = some (rules1, b1)) := by
                have h : roundS _ _ _ _ = _ := H1.out.2.2.1
                show _ = _
                rw [h, hse, List.drop_length, roundS]
              have HSE := Lib.hid hse; clear hse
              have htl := total_le H1.out.2.1.out
              have hT := H1.out.2.2.2.out
              have hgk := H0.out.2.2.2 (by first | rfl | trivial)
              go_wp2
              go_roundg (if b1 = true then c.alts.length * 400 + 2 - total rules1 else 0)
              case measure =>
                cases b1 with
                | false => simp; have := total_le H0.out.2.1.out; omega
                | true =>
                  rcases hT.lt rfl with h | h
                  · cases h
                  · have := total_le H0.out.2.1.out; simp; omega
              case rel =>
                refine ⟨rules1, cells1, b1, rfl, H1.out.1, H1.out.2.1, ⟨fun hb m res hm => ?_, fun hb => ?_⟩, fun hb => by rw [if_pos hb]; exact Nat.le_refl _⟩
                · subst hb
                  exact H0.out.2.2.1.out.1 rfl (m + 1) res (by rw [loopS, hfin.out]; exact hm)
                · subst hb
                  exact H0.out.2.2.1.out.1 rfl 1 (some rules1) (by rw [loopS, hfin.out])
end Go.Proofs.Ytgjobbapnileiaa
set_option linter.unusedVariables false
set_option linter.unusedSimpArgs false
namespace Go.Proofs.Ytgjobbapnileiaa
open Go.RowKit Gk

/-- one more end -/
def St.add (σ : St) (p : Pl) (j : Int) : St := ⟨σ.W, fun q => if q = p then insK j (σ.S p) else σ.S q⟩
/-- nothing is lost -/
structure Grow (σ σ' : St) : Prop where
  W : ∃ l, σ'.W = σ.W ++ l
  S : ∀ p ∈ σ.W, ∃ l, σ'.S p = σ.S p ++ l
theorem Grow.refl (σ : St) : Grow σ σ := ⟨⟨[], by simp⟩, fun p _ => ⟨[], by simp⟩⟩
theorem Grow.mem {σ σ' : St} (h : Grow σ σ') {p : Pl} (hp : p ∈ σ.W) : p ∈ σ'.W := by obtain ⟨l, e⟩ := h.W; rw [e]; simp [hp]
theorem Grow.trans {a b c : St} (h : Grow a b) (k : Grow b c) : Grow a c := by
  refine ⟨?_, fun p hp => ?_⟩
  · obtain ⟨l, e⟩ := h.W; obtain ⟨m, e2⟩ := k.W; exact ⟨l ++ m, by rw [e2, e, List.append_assoc]⟩
  · obtain ⟨l, e⟩ := h.S p hp; obtain ⟨m, e2⟩ := k.S p (h.mem hp); exact ⟨l ++ m, by rw [e2, e, List.append_assoc]⟩
theorem Ext0.grow {σ σ' : St} (h : Ext0 σ σ') : Grow σ σ' := ⟨h.pre, fun p hp => ⟨[], by rw [h.same p hp]; simp⟩⟩
theorem insK_pre (j : Int) (K : List Int) : ∃ l, insK j K = K ++ l := by
  unfold insK; split
  · exact ⟨[], by simp⟩
  · exact ⟨[j], rfl⟩
theorem Grow.add (σ : St) (p : Pl) (j : Int) : Grow σ (σ.add p j) := ⟨⟨[], by simp [St.add]⟩, fun q hq => by
  unfold St.add
  by_cases e : q = p
  · subst e; simpa using insK_pre j (σ.S q)
  · exact ⟨[], by simp [e]⟩⟩
theorem Grow.ends {σ σ' : St} (h : Grow σ σ') {p : Pl} {j : Int} (he : σ.ends p j) : σ'.ends p j := by
  obtain ⟨h1, h2⟩ := he
  obtain ⟨l, e⟩ := h.S p h1
  exact ⟨h.mem h1, by rw [e]; simp [h2]⟩
theorem Grow.one {c : Cfg} {toks : List Int} {σ σ' : St} (h : Grow σ σ') {k i j : Int} (ho : one c toks σ k i j) : one c toks σ' k i j := by
  rcases ho with h1 | ⟨h1, h2, h3⟩
  · exact .inl h1
  · exact .inr ⟨h1, h2, h.ends h3⟩
theorem Grow.thr {c : Cfg} {toks : List Int} {σ σ' : St} (h : Grow σ σ') (s : List Int) : ∀ (X Y : Int → Prop), (∀ j, X j → Y j) → ∀ j, thr c toks σ s X j → Go.Proofs.Ytgjobbapnileiaa.thr c toks σ' s Y j := by
  induction s with
  | nil => intro X Y hXY j hj; exact hXY j hj
  | cons k s ih =>
    intro X Y hXY j hj
    exact ih (stepP c toks σ k X) (stepP c toks σ' k Y) (fun m ⟨i, hi, ho⟩ => ⟨i, hXY i hi, h.one ho⟩) j hj
theorem Grow.askd {c : Cfg} {toks : List Int} {σ σ' : St} (h : Grow σ σ') {s : List Int} {X : Int → Prop} {q : Pl} (ha : askd c toks σ s X q) : Go.Proofs.Ytgjobbapnileiaa.askd c toks σ' s X q := by
  obtain ⟨n, k, i, h1, h2, h3, h4, h5⟩ := ha
  exact ⟨n, k, i, h1, h2, h3, h.thr _ _ _ (fun _ h => h) _ h4, h5⟩
def sumL (f : Pl → Nat) (l : List Pl) : Nat := (l.map f).sum
/-- how much is known -/
def St.count (σ : St) : Nat := σ.W.length + sumL (fun p => (σ.S p).length) σ.W
theorem sumL_le {f g : Pl → Nat} : ∀ l : List Pl, (∀ p ∈ l, f p ≤ g p) → sumL f l ≤ sumL g l := by
  intro l
  induction l with
  | nil => intro _; simp [sumL]
  | cons a l ih =>
    intro h
    have h1 := h a (by simp)
    have h2 := ih fun p hp => h p (by simp [hp])
    simp only [sumL, List.map_cons, List.sum_cons] at h2 ⊢; omega
theorem sumL_eq {f g : Pl → Nat} : ∀ l : List Pl, (∀ p ∈ l, f p ≤ g p) → sumL g l ≤ sumL f l → ∀ p ∈ l, f p = g p := by
  intro l
  induction l with
  | nil => intro _ _ p hp; simp at hp
  | cons a l ih =>
    intro h hs p hp
    have h1 := h a (by simp)
    have h2 := sumL_le l fun p hp => h p (by simp [hp])
    simp only [sumL, List.map_cons, List.sum_cons] at hs h2
    rcases List.mem_cons.1 hp with rfl | hp
    · omega
    · exact ih (fun p hp => h p (by simp [hp])) (by simp only [sumL]; omega) p hp
theorem sumL_append (f : Pl → Nat) (a b : List Pl) : sumL f (a ++ b) = sumL f a + sumL f b := by simp [sumL]
/-- as much as before: the same as before -/
theorem Grow.still {σ σ' : St} (h : Grow σ σ') (hc : σ'.count = σ.count) : σ'.W = σ.W ∧ ∀ p ∈ σ.W, σ'.S p = σ.S p := by
  obtain ⟨l, e⟩ := h.W
  have hle : ∀ p ∈ σ.W, (σ.S p).length ≤ (σ'.S p).length := fun p hp => by obtain ⟨m, e2⟩ := h.S p hp; rw [e2]; simp
  unfold St.count at hc
  rw [e, sumL_append, List.length_append] at hc
  have h1 := sumL_le σ.W hle
  have hl : l = [] := by
    cases l with
    | nil => rfl
    | cons a t => simp only [List.length_cons] at hc; omega
  subst hl
  simp only [List.length_nil, sumL, List.map_nil, List.sum_nil] at hc
  refine ⟨by simpa using e, fun p hp => ?_⟩
  have h2 := sumL_eq σ.W hle (by simp only [sumL] at hc ⊢; omega) p hp
  obtain ⟨m, e2⟩ := h.S p hp
  rw [e2, List.length_append] at h2
  have : m = [] := List.eq_nil_of_length_eq_zero (by omega)
  rw [e2, this]; simp
theorem Grow.count_le {σ σ' : St} (h : Grow σ σ') : σ.count ≤ σ'.count := by
  obtain ⟨l, e⟩ := h.W
  have h1 := sumL_le (f := fun p => (σ.S p).length) (g := fun p => (σ'.S p).length) σ.W fun p hp => by obtain ⟨m, e2⟩ := h.S p hp; simp only [e2, List.length_append]; omega
  unfold St.count
  rw [e, sumL_append, List.length_append]; omega
theorem StOk.add {c : Cfg} {L : Nat} {σ : St} (h : StOk c L σ) {p : Pl} {j : Int} (hj : 0 ≤ j ∧ j ≤ L) : StOk c L (σ.add p j) := by
  refine ⟨h.r, fun q hq i hi => ?_, h.n⟩
  unfold St.add at hi hq
  by_cases e : q = p
  · subst e
    simp only [if_true] at hi
    rcases mem_insK.1 hi with hi | rfl
    · exact h.s q hq i hi
    · exact hj
  · simp only [e, if_false] at hi; exact h.s q hq i hi
theorem Sound.add {c : Cfg} {toks : List Int} {σ : St} (h : Sound c toks σ) {p : Pl} {j : Int} {al : List (List Int)} {a : List Int} (h1 : c.alts[p.1.toNat]? = some al) (h2 : a ∈ al) (h3 : Dp c toks a p.2 j) : Sound c toks (σ.add p j) := by
  intro q hq i hi
  unfold St.add at hi hq
  by_cases e : q = p
  · subst e
    simp only [if_true] at hi
    rcases mem_insK.1 hi with hi | rfl
    · exact h q hq i hi
    · exact ⟨al, a, h1, h2, h3⟩
  · simp only [e, if_false] at hi; exact h q hq i hi
theorem Sound.ext {c : Cfg} {toks : List Int} {σ σ' : St} (h : Sound c toks σ) (k : Ext0 σ σ') : Sound c toks σ' := by
  intro q hq i hi
  by_cases hm : q ∈ σ.W
  · rw [k.same q hm] at hi; exact h q hm i hi
  · rw [k.new q hq hm] at hi; simp at hi
end Go.Proofs.Ytgjobbapnileiaa
