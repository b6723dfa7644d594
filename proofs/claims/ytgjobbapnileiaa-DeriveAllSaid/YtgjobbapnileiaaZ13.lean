/- All short sentences: how what is known lies in memory; A region whose operations only read what is old and lay what is new; Sentences: the region that makes the maker; The program's Short: rule, the closure, each: the walks; The program's Short: each, Short: the walks. -/
import Derived.Test.YtgjobbapnileiaaZ12
import Derived.Test.YtgjobbapnileiaaZ09
import Derived.Test.YtgjobbapnileiaaZ07
import Derived.Test.YtgjobbapnileiaaZ06
import Derived.Deep.LoopGhost
set_option linter.unusedVariables false
set_option linter.unusedSimpArgs false
namespace Go.Proofs.Ytgjobbapnileiaa
open Go.RowKit Gk

/-- all that lay stays, but for the row of the rules -/
structure SenB (wS : World) (R : Nat) (w : World) : Prop where
  os : w.os = wS.os
  tape : w.tape = wS.tape
  output : w.output = wS.output
  size : wS.heap.size ≤ w.heap.size
  block : ∀ c, c < wS.heap.size → c ≠ R → w.heap[c]? = wS.heap[c]?
  ki : KI wS w
theorem SenB.refl (wS : World) (R : Nat) : SenB wS R wS := ⟨rfl, rfl, rfl, Nat.le_refl _, fun _ _ _ => rfl, KI.refl _⟩
theorem SenB.below {wS w w' : World} {R : Nat} (h : SenB wS R w) (k : Below w.heap.size w w') : SenB wS R w' :=
  ⟨k.os.trans h.os, k.tape.trans h.tape, k.output.trans h.output, Nat.le_trans h.size k.size, fun c hc hr => by have := h.size; rw [k.block c (by omega), h.block c hc hr], h.ki.trans (KI.below k)⟩
theorem SenB.to {w0 wS w : World} {R : Nat} (h : SenB wS R w) (h0 : Below w0.heap.size w0 wS) (hR : w0.heap.size ≤ R) : Below w0.heap.size w0 w :=
  ⟨h.os.trans h0.os, h.tape.trans h0.tape, h.output.trans h0.output, Nat.le_trans h0.size h.size, fun c hc => by have := h0.size; rw [h.block c (by omega) (by omega), h0.block c hc]⟩
/-- the rules' bags -/
structure SenC (wS : World) (R : Nat) (rules : List Sents) (cells : Array Value) (w : World) : Prop where
  box : Box w R cells 50
  size : cells.size = rules.length
  bags : ∀ (s : Nat) l, rules[s]? = some l → ∃ v, cells[s]? = some v ∧ Bag wS.heap.size w v l
  apart : ∀ (s s' : Nat) (v v' : Value) (g : Nat), cells[s]? = some v → cells[s']? = some v' → v.ownBlock = some g → v'.ownBlock = some g → s = s'
  base : SenB wS R w
  lt : R < wS.heap.size
theorem SenC.at_ {wS w : World} {R : Nat} {rules : List Sents} {cells : Array Value} (h : SenC wS R rules cells w) : RulesAt w R cells rules :=
  ⟨h.box, h.size, fun s l hl => by obtain ⟨v, hv, hb⟩ := h.bags s l hl; exact ⟨v, hv, hb.mono fun _ _ => Nat.zero_le _⟩⟩
theorem SenC.below {wS w w' : World} {R : Nat} {rules : List Sents} {cells : Array Value} (h : SenC wS R rules cells w) (k : Below w.heap.size w w') : SenC wS R rules cells w' :=
  ⟨h.box.below k, h.size, fun s l hl => by obtain ⟨v, hv, hb⟩ := h.bags s l hl; exact ⟨v, hv, hb.below k⟩, h.apart, h.base.below k, h.lt⟩
theorem SenC.add {wS w w' : World} {R : Nat} {rules : List Sents} {cells : Array Value} (h : SenC wS R rules cells w) {s : Nat} {v v' : Value} {l' : Sents} (hv : cells[s]? = some v) (hs : s < rules.length)
    (hb : Box w' R (cells.setIfInBounds s v') 50) (hB : Bag wS.heap.size w' v' l') (hE : AddEff w w' R v.ownBlock) (hat : v'.ownBlock = v.ownBlock ∨ ∃ k, v'.ownBlock = some k ∧ w.heap.size ≤ k) :
    SenC wS R (rules.set s l') (cells.setIfInBounds s v') w' := by
  have hsz := h.base.size
  have hcs := h.size
  have hown : ∀ (s' : Nat) (u : Value) (g : Nat), cells[s']? = some u → u.ownBlock = some g → g < w.heap.size ∧ wS.heap.size ≤ g := fun s' u g hu hg => by
    have hlt := (Array.getElem?_eq_some_iff.1 hu).1
    obtain ⟨v2, hv2, hb2⟩ := h.bags s' _ (List.getElem?_eq_getElem (by omega))
    rw [hu] at hv2; injection hv2 with hv2; subst hv2
    have := hb2.lt g hg; exact ⟨this.2, this.1⟩
  refine ⟨hb, by simp [h.size], fun s' l hl => ?_, fun s1 s2 v1 v2 g h1 h2 g1 g2 => ?_, ⟨hE.os.trans h.base.os, hE.tape.trans h.base.tape, hE.output.trans h.base.output, Nat.le_trans hsz hE.ki.size, fun c hc hr => ?_, h.base.ki.trans hE.ki⟩, h.lt⟩
  · by_cases e : s' = s
    · subst e
      rw [List.getElem?_set_self hs] at hl
      injection hl with hl; subst hl
      exact ⟨v', by rw [Array.getElem?_setIfInBounds_self_of_lt (by omega)], hB⟩
    · rw [List.getElem?_set_ne (fun e' => e e'.symm)] at hl
      obtain ⟨u, hu, hbu⟩ := h.bags s' l hl
      refine ⟨u, by rw [Array.getElem?_setIfInBounds_ne (fun e' => e e'.symm)]; exact hu, hbu.keep hE.ki fun g hg => ?_⟩
      have hg2 := hown s' u g hu hg
      refine hE.block g hg2.1 (by have := h.lt; omega) (fun e' => e ?_)
      exact h.apart s' s u v g hu hv hg e'.symm
  · have key : ∀ (s' : Nat) (u : Value), (cells.setIfInBounds s v')[s']? = some u → s' ≠ s → cells[s']? = some u := fun s' u hu hne => by rwa [Array.getElem?_setIfInBounds_ne (fun e' => hne e'.symm)] at hu
    have keys : ∀ u, (cells.setIfInBounds s v')[s]? = some u → u = v' := fun u hu => by
      rw [Array.getElem?_setIfInBounds_self_of_lt (by omega)] at hu; injection hu with hu; exact hu.symm
    have hnew : ∀ (s' : Nat) (u : Value), s' ≠ s → cells[s']? = some u → u.ownBlock = some g → v'.ownBlock = some g → False := fun s' u hne hu hg hg' => by
      rcases hat with e | ⟨k, e, hk⟩
      · exact hne (h.apart s' s u v g hu hv hg (e ▸ hg'))
      · rw [hg'] at e; injection e with e; have := (hown s' u g hu hg).1; omega
    by_cases e1 : s1 = s
    · by_cases e2 : s2 = s
      · rw [e1, e2]
      · subst e1; rw [keys _ h1] at g1; exact (hnew s2 v2 e2 (key _ _ h2 e2) g2 g1).elim
    · by_cases e2 : s2 = s
      · subst e2; rw [keys _ h2] at g2; exact (hnew s1 v1 e1 (key _ _ h1 e1) g1 g2).elim
      · exact h.apart s1 s2 v1 v2 g (key _ _ h1 e1) (key _ _ h2 e2) g1 g2
  · rw [hE.block c (by omega) hr (fun e => by have := (hown s v c hv e.symm).2; omega), h.base.block c hc hr]
end Go.Proofs.Ytgjobbapnileiaa
set_option linter.unusedVariables false
set_option linter.unusedSimpArgs false
namespace Gk
open Go Go.RowKit
section
variable {P : Program} {Q : Exit → Act → World → Prop}
theorem does_mono {r : Result Next} {K K' : Value → World → Prop} (h : does P r K) (hk : ∀ v w, K v w → K' v w) : does P r K' := by
  cases r with
  | ok nx w' =>
    cases nx <;> simp only [does] at h ⊢
    case value v => exact hk _ _ h
    case skip => exact hk _ _ h
    case enter f args => exact h.mono fun e w'' ⟨v, he, hq⟩ => ⟨v, he, hk _ _ hq⟩
  | halt x w' => cases x <;> simp only [does] at h
theorem wp_region_grow {id : Nat} {l : List Oper} {a0 : Act} {w : World} (hm : P.follows .mixedOrders = true) (h : regOk l.toArray a0.tmps.size = true) (hng : noGuards l = true) (V : Nat → Value → World → Prop)
    (hV : ∀ i v w w', V i v w → Below w.heap.size w w' → V i v w')
    (hstep : ∀ i o, l[i]? = some o → ∀ (val : Nat → Value) (w2 : World), Below w.heap.size w w2 → (∀ j, (∃ e ∈ o.after.toList, e.on = j ∧ Region.binds .any e = true) → V j (val j) w2) → does P ((execOp (opv l.toArray a0 val) o).run P w2) (fun v w' => Below w2.heap.size w2 w' ∧ V i v w'))
    (hend : ∀ (val : Nat → Value) (w2 : World), Below w.heap.size w w2 → (∀ i, i < l.length → V i (val i) w2) → Q .normal (fillAll l.toArray val a0) w2) :
    (Code.region id l.toArray true).wp P Q a0 w := by
  refine wp_region_inv hm h (fun L val w2 => Below w.heap.size w w2 ∧ ∀ i, i < l.length → L i = true → V i (val i) w2) (fun _ => undef) ⟨below_drewN (Below.refl _ _) 1, fun i _ hL => by simp at hL⟩ ?_ ?_
  · intro i hi o ho L val w2 hI hL hd
    have hol : l[i]? = some o := by simpa using ho
    have hil : i < l.length := hi
    rw [guard_none hng hol, if_pos (by rfl)]
    refine does_mono (hstep i o hol val w2 hI.1 fun j hj => ?_) fun v w' hv => ?_
    · obtain ⟨e, he, rfl, hb⟩ := hj
      have hlt := (regOk_at h ho).2.1 e (Array.mem_toList_iff.1 he)
      exact hI.2 _ (by omega) (hd e (Array.mem_toList_iff.1 he) hb)
    · refine ⟨below2 hI.1 hv.1, fun j hj hLj => ?_⟩
      by_cases e : j = i
      · subst e; simpa [upd] using hv.2
      · simp only [up, e, if_false] at hLj
        have := hI.2 j hj hLj
        simpa [upd, e] using hV _ _ _ _ this hv.1
  · intro val w2 hI
    exact hend val w2 hI.1 fun i hi => hI.2 i hi (by simp [hi])
/-- the same, with guards -/
theorem wp_region_growG {id : Nat} {l : List Oper} {a0 : Act} {w : World} (hm : P.follows .mixedOrders = true) (h : regOk l.toArray a0.tmps.size = true) (V : Nat → Value → World → Prop)
    (hV : ∀ i v w w', V i v w → Below w.heap.size w w' → V i v w')
    (hstep : ∀ i o, l[i]? = some o → ∀ (val : Nat → Value) (w2 : World), Below w.heap.size w w2 → (∀ j, (∃ e ∈ o.after.toList, e.on = j ∧ Region.binds .any e = true) → V j (val j) w2) → if guardv val l.toArray o.guard = true then does P ((execOp (opv l.toArray a0 val) o).run P w2) (fun v w' => Below w2.heap.size w2 w' ∧ V i v w') else V i undef w2)
    (hend : ∀ (val : Nat → Value) (w2 : World), Below w.heap.size w w2 → (∀ i, i < l.length → V i (val i) w2) → Q .normal (fillAll l.toArray val a0) w2) :
    (Code.region id l.toArray true).wp P Q a0 w := by
  refine wp_region_inv hm h (fun L val w2 => Below w.heap.size w w2 ∧ ∀ i, i < l.length → L i = true → V i (val i) w2) (fun _ => undef) ⟨below_drewN (Below.refl _ _) 1, fun i _ hL => by simp at hL⟩ ?_ ?_
  · intro i hi o ho L val w2 hI hL hd
    have hol : l[i]? = some o := by simpa using ho
    have hil : i < l.length := hi
    have hs := hstep i o hol val w2 hI.1 fun j hj => by
      obtain ⟨e, he, rfl, hb⟩ := hj
      have hlt := (regOk_at h ho).2.1 e (Array.mem_toList_iff.1 he)
      exact hI.2 _ (by omega) (hd e (Array.mem_toList_iff.1 he) hb)
    split at hs
    · rename_i hg
      rw [if_pos hg]
      refine does_mono hs fun v w' hv => ⟨below2 hI.1 hv.1, fun j hj hLj => ?_⟩
      by_cases e : j = i
      · subst e; simpa [upd] using hv.2
      · simp only [up, e, if_false] at hLj
        have := hI.2 j hj hLj
        simpa [upd, e] using hV _ _ _ _ this hv.1
    · rename_i hg
      rw [if_neg hg]
      refine ⟨hI.1, fun j hj hLj => ?_⟩
      by_cases e : j = i
      · subst e; simpa [upd] using hs
      · simp only [up, e, if_false] at hLj
        have := hI.2 j hj hLj
        simpa [upd, e] using this
  · intro val w2 hI
    exact hend val w2 hI.1 fun i hi => hI.2 i hi (by simp [hi])
theorem exec_box {ρ : Operand → Value} {o : Oper} {t : TypeId} {x : Operand} {v u : Value} {w w' : World} (ho : o.op = .box t x) (hx : ρ x = v) (hr : (Instr.box t v).run P w = .ok u w') : (execOp ρ o).run P w = .ok (.value u) w' := by
  unfold execOp
  simp only [ho, hx, Sem.run_bind, Sem.run_pure, Result.andThen_ok, hr]
theorem exec_makeSlice {ρ : Operand → Value} {o : Oper} {t : TypeId} {x y : Operand} {vx vy u : Value} {w w' : World} (ho : o.op = .makeSlice t x y) (hx : ρ x = vx) (hy : ρ y = vy) (hr : (Instr.makeSlice t vx vy).run P w = .ok u w') : (execOp ρ o).run P w = .ok (.value u) w' := by
  unfold execOp
  simp only [ho, hx, hy, Sem.run_bind, Sem.run_pure, Result.andThen_ok, hr]
theorem exec_len {ρ : Operand → Value} {o : Oper} {x : Operand} {t : TypeId} {v u : Value} {w w' : World} (ho : o.op = .call { callee := .builtin .len, args := #[x], argTypes := #[t] }) (hx : ρ x = v) (hr : (Builtin.len_ #[t] o.type #[v]).run P w = .ok u w') : (execOp ρ o).run P w = .ok (.value u) w' := by
  unfold execOp
  simp only [ho, resolve, invoke, builtin, Sem.run_bind, Sem.run_pure, Result.andThen_ok, List.map_toArray, List.map_cons, List.map_nil, hx, hr]
end
end Gk
set_option linter.unusedVariables false
set_option linter.unusedSimpArgs false
namespace Go.Proofs.Ytgjobbapnileiaa
open Go.RowKit Gk

/-- a row of slices that is new, all empty -/
def NewRow (w0 w : World) (v : Value) (n : Nat) (t : TypeId) : Prop := ∃ R, v = .slice (some ⟨R, 0, none⟩) n n ∧ Box w R (Array.replicate n (.slice none 0 0)) t ∧ w0.heap.size ≤ R
theorem NewRow.below {w0 w w' : World} {v : Value} {n : Nat} {t : TypeId} (h : NewRow w0 w v n t) (hb : Below w.heap.size w w') : NewRow w0 w' v n t := by
  obtain ⟨R, e, h1, h2⟩ := h; exact ⟨R, e, h1.below hb, h2⟩
/-- what the values of the region's operations are -/
def SenV (w0 : World) (a b d : Value) (c : Cfg) (long : Int) (N : Nat) (i : Nat) (v : Value) (w : World) : Prop :=
  match i with
  | 0 => v = .agg #[a, b, d]
  | 1 => v = .int .i64 long
  | 2 => v = .agg #[a, b, d]
  | 3 => ∃ short, ShortOk c short ∧ IL w v short
  | 4 => v = .pointer (some ⟨N, 2, none⟩)
  | 5 => v = d
  | 6 => v = .int .i64 c.alts.length
  | 7 => NewRow w0 w v c.alts.length 50
  | 8 => ∃ sv rv short, v = .agg #[a, b, d, .int .i64 long, sv, rv] ∧ ShortOk c short ∧ IL w sv short ∧ NewRow w0 w rv c.alts.length 50
  | _ => ∃ X sv rv short, v = .pointer (some ⟨X, 0, none⟩) ∧ w0.heap.size ≤ X ∧ Box w X #[a, b, d, .int .i64 long, sv, rv] 49 ∧ ShortOk c short ∧ IL w sv short ∧ NewRow w0 w rv c.alts.length 50 ∧ (∀ R n m, rv = .slice (some ⟨R, 0, none⟩) n m → R ≠ X)
theorem SenV.below {w0 : World} {a b d : Value} {c : Cfg} {long : Int} {N : Nat} (i : Nat) (v : Value) (w w' : World) (h : SenV w0 a b d c long N i v w) (hb : Below w.heap.size w w') : SenV w0 a b d c long N i v w' := by
  unfold SenV at h ⊢
  split at h
  · exact h
  · exact h
  · exact h
  · obtain ⟨s, h1, h2⟩ := h; exact ⟨s, h1, h2.ki (KI.below hb)⟩
  · exact h
  · exact h
  · exact h
  · exact h.below hb
  · obtain ⟨sv, rv, s, e, h1, h2, h3⟩ := h; exact ⟨sv, rv, s, e, h1, h2.ki (KI.below hb), h3.below hb⟩
  · rename_i n0 n1 n2 n3 n4 n5 n6 n7 n8
    obtain ⟨X, sv, rv, s, e, h0, h1, h2, h3, h4, h5⟩ := h
    exact ⟨X, sv, rv, s, e, h0, h1.below hb, h2, h3.ki (KI.below hb), h4.below hb, h5⟩
theorem infoBag : (Try.prog.info? 50).map (fun i => (i.zero, i.size, i.bytes)) = some (some (.slice none 0 0), 1, 24) := by kernel_rfl
theorem madeNil (n : Nat) : madeCells #[Value.slice none 0 0] (n * 1) = Array.replicate n (.slice none 0 0) := by
  apply Array.ext_getElem?
  intro j
  by_cases hj : j < n
  · simp [madeCells, hj, Nat.mod_one]
  · simp [madeCells, hj]
def shortEnd (c : Cfg) (w : World) (e : Ending) (w' : World) : Prop := ∃ v short, e = .returned v ∧ ShortOk c short ∧ IL w' v short ∧ Below w.heap.size w w'
end Go.Proofs.Ytgjobbapnileiaa
set_option linter.unusedVariables false
set_option linter.unusedSimpArgs false
namespace Go.Proofs.Ytgjobbapnileiaa
open Go.RowKit Gk

set_option maxHeartbeats 1000000 in
theorem rule_calls (T : Nat) (a b x y z : Value) (A : Option Addr) (n c : Nat) (k : Int) (w : World) (hT : Box w T #[a, b, .slice A n c, x, y, z] 78) (hk : Ty.i64 k) (hn : n ≤ 1000000) :
    Calls Try.prog 32 #[.pointer (some ⟨T, 0, none⟩), .int .i64 k] w fun e w' => (∃ q, e = .returned (.tuple #[.int .i64 q, .bool (decide (k < 0 ∧ -1 - k < n))]) ∧ (k < 0 → q = -1 - k)) ∧ Drawn w w' := by
  have hc := hT.cell 2 (v := .slice A n c) rfl
  clear hT
  by_cases hk0 : k < 0
  · obtain ⟨r, hr, hxor⟩ := notOf hk hk0
    have hxor' : bits .xor .i64 (if IntKind.i64.signed = true then -1 else 9223372036854775807) k = r := hxor
    by_cases hrn : r < n
    · have hd : decide (k < 0 ∧ -1 - k < n) = true := decide_eq_true ⟨hk0, by omega⟩
      rw [hd]
      have HR := Lib.hid hr; clear hr
      go_enter Try.func32, Try.ntmps32
      go_wp2
      go_quiet (fail)
      go_wp2
      go_ret2
      exact ⟨⟨_, rfl, fun _ => HR.out.symm⟩, (Drawn.refl _).more _⟩
    · have hd : decide (k < 0 ∧ -1 - k < n) = false := decide_eq_false (fun h => by omega)
      rw [hd]
      have HR := Lib.hid hr; clear hr
      go_enter Try.func32, Try.ntmps32
      go_wp2
      go_quiet (fail)
      go_wp2
      go_ret2
      exact ⟨⟨_, rfl, fun _ => HR.out.symm⟩, (Drawn.refl _).more _⟩
  · have hd : decide (k < 0 ∧ -1 - k < n) = false := decide_eq_false (fun h => by omega)
    rw [hd]
    obtain ⟨q, hq⟩ : ∃ q, bits .xor .i64 (-1) k = q := ⟨_, rfl⟩
    have hq' : bits .xor .i64 (if IntKind.i64.signed = true then -1 else 9223372036854775807) k = q := hq
    have hk0' : decide (k < 0) = false := decide_eq_false hk0
    go_enter Try.func32, Try.ntmps32
    go_wp2
    go_quiet (fail)
    go_wp2
    go_ret2
    exact ⟨⟨_, rfl, fun h => by omega⟩, (Drawn.refl _).more _⟩
/-- what is known, in memory -/
structure ShS (w0 : World) (T P2 P3 O : Nat) (a b d : Value) (c : Cfg) (out : List Int) (w : World) : Prop where
  tb : Box w T #[a, b, d, .slice none 0 0, .slice none 0 0, .slice none 0 0] 78
  p2 : Box w P2 #[.pointer (some ⟨T, 0, none⟩)] 75
  p3 : Box w P3 #[.slice (some ⟨O, 0, none⟩) c.alts.length c.alts.length] 34
  ob : Box w O (out.map (Value.int .i64)).toArray 3
  ne : O ≠ T ∧ O ≠ P2 ∧ O ≠ P3
  bl : Below w0.heap.size w0 w
  lb : w0.heap.size ≤ O
  inv : ShI c out
theorem ShS.below {w0 : World} {T P2 P3 O : Nat} {a b d : Value} {c : Cfg} {out : List Int} {w w' : World} (h : ShS w0 T P2 P3 O a b d c out w) (k : Below w.heap.size w w') : ShS w0 T P2 P3 O a b d c out w' :=
  ⟨h.tb.below k, h.p2.below k, h.p3.below k, h.ob.below k, h.ne, below2 h.bl k, h.lb, h.inv⟩
theorem ShS.cell {w0 : World} {T P2 P3 O : Nat} {a b d : Value} {c : Cfg} {out : List Int} {w : World} (h : ShS w0 T P2 P3 O a b d c out w) {r : Nat} {m : Int} (hm : out[r]? = some m) : w.cell? ⟨O, r, none⟩ = some (.int .i64 m) :=
  h.ob.cell r (by simp [hm])
theorem ShS.set {w0 : World} {T P2 P3 O : Nat} {a b d : Value} {c : Cfg} {out : List Int} {w : World} (h : ShS w0 T P2 P3 O a b d c out w) {r : Nat} {m : Int} (hi : ShI c (out.set r m)) : ShS w0 T P2 P3 O a b d c (out.set r m) (w.setCell ⟨O, r, none⟩ (.int .i64 m)) := by
  have hk : ∀ g, g ≠ O → (w.setCell ⟨O, r, none⟩ (.int .i64 m)).heap[g]? = w.heap[g]? := fun g hg => Below.heap_setCell w ⟨O, r, none⟩ _ g hg
  refine ⟨h.tb.keep (hk _ h.ne.1.symm), h.p2.keep (hk _ h.ne.2.1.symm), h.p3.keep (hk _ h.ne.2.2.symm), ?_, h.ne, h.bl.setCell h.lb _, h.lb, hi⟩
  have := h.ob.set r (.int .i64 m)
  rwa [List.setIfInBounds_toArray, ← List.map_set] at this
def closEnd (w0 : World) (T P2 P3 O : Nat) (a b d : Value) (c : Cfg) (out : List Int) (r : Nat) (al : List Int) (e : Ending) (w' : World) : Prop :=
  ∃ out' bb, e = .returned (.bool bb) ∧ ShS w0 T P2 P3 O a b d c out' w' ∧ (bb = true → left9 out' < left9 out) ∧ (bb = false → out' = out ∧ ∀ m, out[r]? = some m → m ≤ len9 out al)
set_option maxRecDepth 100000 in
set_option maxHeartbeats 4000000 in
theorem clos_calls (w0 : World) (T P2 P3 O : Nat) (a b : Value) (A3 : Option Addr) (c3 : Nat) (c : Cfg) (out : List Int) (r : Nat) (al : List (List Int)) (s : List Int) (u : Value) (w : World) (h : ShS w0 T P2 P3 O a b (.slice A3 c.alts.length c3) c out w) (hal : c.alts[r]? = some al) (hs : s ∈ al) (hu : Sl Ty.int w u s) (hsl : s.length ≤ 1000) (hin : ∀ k ∈ s, k < 0 → -1 - k < c.alts.length) (hcl : c.alts.length ≤ 1000) :
    Calls Try.prog 31 #[.int .i64 r, u, .pointer (some ⟨P2, 0, none⟩), .pointer (some ⟨P3, 0, none⟩)] w (closEnd w0 T P2 P3 O a b (.slice A3 c.alts.length c3) c out r s) := by
  obtain ⟨AU, cU, rfl, ku1, ku2, ku3, ku4⟩ := id hu
  unfold LB at ku3
  have HH := Lib.hid (And.intro h (And.intro hal (And.intro hs hin)))
  have hlen := h.inv.1
  have hr : r < out.length := by rw [hlen]; exact (List.getElem?_eq_some_iff.1 hal).1
  clear h hal hs hin hu
  go_enter Try.func31, Try.ntmps31
  go_wp2
  go_loopw [15, 7] (fun i o wr => (∃ (n : Nat) (q : Int), n ≤ s.length ∧ i = .int .i64 n ∧ o = .int .i64 q ∧ 0 ≤ q ∧ q ≤ 2147483647 ∧ Hid (q = len9 out (s.take n))) ∧ Drawn w wr) (fun i _ _ => s.length - (intOf i).toNat)
  case atStart => exact ⟨⟨0, 0, Nat.zero_le _, rfl, rfl, by omega, by omega, by simp [Hid, len9]⟩, Drawn.refl _⟩
  case round =>
    obtain ⟨⟨n, q, hn, rfl, rfl, hq0, hq1, hq⟩, hD⟩ := hrel
    have HS := Lib.hid (HH.out.1.below hD.below)
    have ku4r := ku4.below hD.below
    have hp2 := HS.out.p2.cell 0 (v := .pointer (some ⟨T, 0, none⟩)) rfl
    have hp3 := HS.out.p3.cell 0 (v := .slice (some ⟨O, 0, none⟩) c.alts.length c.alts.length) rfl
    have HQ : Hid _ := hq
    clear hq
    by_cases hlt : n < s.length
    · obtain ⟨k, hk⟩ := at_lt s hlt
      obtain ⟨ad, rfl, hk64, hcell⟩ := ku4r.int hk
      have hstep : Hid (len9 out (s.take (n + 1)) = min (len9 out (s.take n) + mor9 out k) farI) := by
        rw [take_next hk, len9_snoc]; rfl
      have hkin := HH.out.2.2.2 k (List.mem_of_getElem? hk)
      clear hk
      have hrule := rule_calls T a b (.slice none 0 0) (.slice none 0 0) (.slice none 0 0) A3 c.alts.length c3 k wr HS.out.tb hk64 (by omega)
      by_cases hk0 : k < 0
      · have hr2 := hkin hk0
        have hd : decide (k < 0 ∧ -1 - k < c.alts.length) = true := decide_eq_true ⟨hk0, hr2⟩
        rw [hd] at hrule
        obtain ⟨rn, hrn⟩ : ∃ rn : Nat, -1 - k = rn := ⟨(-1 - k).toNat, by omega⟩
        have hrl : rn < out.length := by omega
        obtain ⟨m, hm⟩ := at_lt out hrl
        have hmr := HH.out.1.inv.2 rn m hm
        have hmor : Hid (mor9 out k = m) := by unfold mor9; rw [if_pos hk0, show (-1 - k).toNat = rn by omega, hm]; rfl
        have hmc := HS.out.cell hm
        have hm0 := hmr.1
        have hm1 : m ≤ 2147483647 := hmr.2.1
        have HRN := Lib.hid hrn
        have HRULE := Lib.hid hrule
        clear hrn hrule hm hmr hkin hr2
        go_wp2_with (go_at_call 32; refine HRULE.out.mono ?_; rintro e w1 ⟨⟨q1, rfl, hq1'⟩, hD1⟩; obtain rfl : q1 = (rn : Int) := (hq1' hk0).trans HRN.out; clear hq1'; have hmc1 := cell_far hmc hD1.below.block; have hp31 := cell_far hp3 hD1.below.block)
        refine ⟨⟨⟨n + 1, min (q + m) 2147483647, by omega, by simp, rfl, by omega, by omega, ?_⟩, hD.trans hD1⟩, by simp [intOf]; omega⟩
        have h1 : len9 out _ = _ := hstep
        have h2 : mor9 out k = m := hmor
        show _ = _
        rw [h1, h2, ← (show q = _ from HQ)]; rfl
      · have hd : decide (k < 0 ∧ -1 - k < c.alts.length) = false := decide_eq_false (fun h => hk0 h.1)
        rw [hd] at hrule
        have hmor : Hid (mor9 out k = 1) := by unfold mor9; rw [if_neg hk0]; rfl
        have HRULE := Lib.hid hrule
        clear hrule hkin
        go_wp2_with (go_at_call 32; refine HRULE.out.mono ?_; rintro e w1 ⟨⟨q1, rfl, hq1'⟩, hD1⟩)
        refine ⟨⟨⟨n + 1, min (q + 1) 2147483647, by omega, by simp, rfl, by omega, by omega, ?_⟩, hD.trans hD1⟩, by simp [intOf]; omega⟩
        have h1 : len9 out _ = _ := hstep
        have h2 : mor9 out k = 1 := hmor
        show _ = _
        rw [h1, h2, ← (show q = _ from HQ)]; rfl
    · have hne : n = s.length := by omega
      have hqf : Hid (q = len9 out s) := by
        have h : q = _ := HQ
        show _ = _
        rw [h, hne, List.take_length]
      have HNE := Lib.hid hne; clear hne
      obtain ⟨m, hm⟩ := at_lt out hr
      have hmc := HS.out.cell hm
      have hmf := HS.out.ob.frozen r
      have HM := Lib.hid hm; clear hm
      by_cases hge : m ≤ q
      · go_wp2
        go_ret
        refine ⟨out, false, rfl, HS.out, fun h => (by cases h), fun _ => ⟨rfl, fun m' hm' => ?_⟩⟩
        rw [HM.out] at hm'; injection hm' with hm'; rw [← hm', ← (show q = _ from hqf)]; exact hge
      · go_wp2
        go_ret
        have hset := HS.out.inv.set HH.out.2.1 HH.out.2.2.1 HH.out.2.2.2
        have h : q = _ := hqf
        rw [← h] at hset
        exact ⟨_, true, rfl, HS.out.set hset, fun _ => left9_set out r m q HM.out hq0 (by omega), fun h => (by cases h)⟩
end Go.Proofs.Ytgjobbapnileiaa
set_option linter.unusedVariables false
set_option linter.unusedSimpArgs false
namespace Go.Proofs.Ytgjobbapnileiaa
open Go.RowKit Gk

def FixTo (c : Cfg) (out : List Int) (s : Nat) : Prop := ∀ r, r < s → ∀ m al a, out[r]? = some m → c.alts[r]? = some al → a ∈ al → m ≤ len9 out a
def Each0 (w0 : World) (T P2 P3 O : Nat) (a b d : Value) (c : Cfg) (gk : Nat) (flag : Value) (wr : World) : Prop :=
  ∃ out bb, flag = .bool bb ∧ ShS w0 T P2 P3 O a b d c out wr ∧ (bb = true → left9 out + 2 ≤ gk) ∧ Hid (bb = false → ShC c out)
def Each2 (w0 : World) (T P2 P3 O : Nat) (a b d : Value) (c : Cfg) (out1 : List Int) (i flag : Value) (wr : World) : Prop :=
  ∃ (s : Nat) (out : List Int) (bb : Bool), s ≤ c.alts.length ∧ i = .int .i64 s ∧ flag = .bool bb ∧ ShS w0 T P2 P3 O a b d c out wr ∧ Hid (bb = true → left9 out < left9 out1) ∧ Hid (bb = false → out = out1 ∧ FixTo c out1 s)
def Each4 (w0 : World) (T P2 P3 O : Nat) (a b d : Value) (c : Cfg) (out1 : List Int) (s : Nat) (al : List (List Int)) (i flag : Value) (wr : World) : Prop :=
  ∃ (j : Nat) (out : List Int) (bb : Bool), j ≤ al.length ∧ i = .int .i64 j ∧ flag = .bool bb ∧ ShS w0 T P2 P3 O a b d c out wr ∧ Hid (bb = true → left9 out < left9 out1) ∧ Hid (bb = false → out = out1 ∧ FixTo c out1 s ∧ ∀ m x, out1[s]? = some m → x ∈ al.take j → m ≤ len9 out1 x)
theorem mem_take_next {α : Type} {l : List α} {j : Nat} {a x : α} (ha : l[j]? = some a) (hx : x ∈ l.take (j + 1)) : x ∈ l.take j ∨ x = a := by
  rw [take_next ha] at hx
  simpa using hx
set_option maxRecDepth 100000 in
set_option maxHeartbeats 4000000 in
theorem each_calls (w0 : World) (T P2 P3 O : Nat) (a b : Value) (A3 : Option Addr) (c3 : Nat) (c : Cfg) (out0 : List Int) (w : World) (h : ShS w0 T P2 P3 O a b (.slice A3 c.alts.length c3) c out0 w) (hrow : Row rowsT w0 A3 c.alts) (hok : CfgOk c) (hsm : Small 60 c) :
    Calls Try.prog 30 #[.pointer (some ⟨T, 0, none⟩), .func (.func 31) #[] #[.pointer (some ⟨P2, 0, none⟩), .pointer (some ⟨P3, 0, none⟩)]] w fun e w' => e = .returned (.tuple #[]) ∧ ∃ out, ShS w0 T P2 P3 O a b (.slice A3 c.alts.length c3) c out w' ∧ ShC c out := by
  have hal : c.alts.length ≤ 60 := by have := hok.1; have := hsm.1; omega
  have HH := Lib.hid (And.intro h (And.intro hok hsm))
  clear h hok hsm
  go_enter Try.func30, Try.ntmps30
  go_wp2
  go_loopg [4] (left9 out0 + 2) (fun gk flag wr => Each0 w0 T P2 P3 O a b (.slice A3 c.alts.length c3) c gk flag wr)
  case atStart => exact ⟨out0, true, rfl, HH.out.1, fun _ => Nat.le_refl _, fun h => (by cases h)⟩
  case round =>
    obtain ⟨out1, bb, rfl, hS, hgk, hfx⟩ := hrel
    have H0 := Lib.hid (And.intro hS (And.intro hgk hfx))
    clear hS hgk hfx
    cases bb with
    | false =>
      go_wp2
      exact ⟨rfl, .tuple #[], by simp [results, Try.results30, go_sem], rfl, out1, H0.out.1, H0.out.2.2 (by first | rfl | trivial)⟩
    | true =>
      have htc := H0.out.1.tb.cell 2 (v := .slice A3 c.alts.length c3) rfl
      obtain ⟨wa, rfl⟩ : ∃ wa : World, wa = wr := ⟨_, rfl⟩
      go_wp2
      go_loopw [16, 4] (fun i flag wr => Each2 w0 T P2 P3 O a b (.slice A3 c.alts.length c3) c out1 i flag wr) (fun i _ _ => c.alts.length - (intOf i).toNat)
      case atStart => exact ⟨0, out1, false, Nat.zero_le _, rfl, rfl, H0.out.1, fun h => (by cases h), fun _ => ⟨rfl, fun r hr => absurd hr (Nat.not_lt_zero _)⟩⟩
      case round =>
        obtain ⟨s, out2, b2, hs, rfl, rfl, hS2, ht2, hf2⟩ := hrel
        have H2 := Lib.hid (And.intro hS2 (And.intro ht2 hf2))
        clear hS2 ht2 hf2
        by_cases hlt : s < c.alts.length
        · obtain ⟨al, hal1⟩ := at_lt c.alts hlt
          obtain ⟨ad3, B3, c4, rfl, hcellB, g1, g2, g3, g4⟩ := (hrow.below H2.out.1.bl).slice hal1
          have hrowB : Hid (∀ w' : World, Below w0.heap.size w0 w' → Row (Ty.slice Ty.int) w' B3 al) := by
            intro w' hb
            obtain ⟨ad0, B0, c0, e0, hcell0, _, _, _, g40⟩ := hrow.slice hal1
            injection e0 with e0
            subst e0
            have q1 := cell_far hcell0 H2.out.1.bl.block
            rw [hcellB] at q1; injection q1 with q1; injection q1 with q1 _ _
            rw [q1]; exact g40.below hb
          have HAL := Lib.hid hal1; clear hal1 g4
          obtain ⟨w3, rfl⟩ : ∃ w3 : World, w3 = wr := ⟨_, rfl⟩
          go_wp2
          go_loopw [23, 4] (fun i flag wr => Each4 w0 T P2 P3 O a b (.slice (some ad3) c.alts.length c3) c out1 s al i flag wr) (fun i _ _ => al.length - (intOf i).toNat)
          case atStart => exact ⟨0, out2, b2, Nat.zero_le _, rfl, rfl, H2.out.1, H2.out.2.1, fun h => ⟨(H2.out.2.2 h).1, (H2.out.2.2 h).2, fun m x _ hx => by simp at hx⟩⟩
          case round =>
            obtain ⟨j, out3, b3, hj, rfl, rfl, hS3, ht3, hf3⟩ := hrel
            have H3 := Lib.hid (And.intro hS3 (And.intro ht3 hf3))
            clear hS3 ht3 hf3
            by_cases hlt4 : j < al.length
            · obtain ⟨x, hx⟩ := at_lt al hlt4
              have hro : Row (Ty.slice Ty.int) wr B3 al := hrowB.out wr H3.out.1.bl
              obtain ⟨adA, BA, cA, rfl, hcellA, a1, a2, a3, a4⟩ := hro.slice hx
              have hua : Hid (Sl Ty.int wr (.slice BA x.length cA) x) := ⟨BA, cA, rfl, a1, a2, a3, a4⟩
              have hxm := List.mem_of_getElem? hx
              have hsmA := (HH.out.2.2.2 al (List.mem_of_getElem? HAL.out)).2 x hxm
              have hinA := HH.out.2.1.2 al (List.mem_of_getElem? HAL.out) x hxm
              have hnm := HH.out.2.1.1
              have hcl := clos_calls w0 T P2 P3 O a b _ c3 c out3 s al x _ wr H3.out.1 HAL.out hxm hua.out (by omega) (fun k hk hk0 => by rcases hinA k hk with h | h <;> omega) (by omega)
              have HCL := Lib.hid hcl
              have HX := Lib.hid hx
              clear hcl hx hro a4 hsmA hinA hnm hxm
              go_wp2_with (go_at_call 31; refine HCL.out.mono ?_; rintro e w5 ⟨out4, b4, rfl, hS5, ht5, hf5⟩; have H5 := Lib.hid (And.intro hS5 (And.intro ht5 hf5)); clear hS5 ht5 hf5; cases b4)
              · refine ⟨⟨j + 1, out4, b3, by omega, by simp, rfl, H5.out.1, fun h => ?_, fun h => ?_⟩, by simp [intOf]; omega⟩
                · rw [(H5.out.2.2 (by first | rfl | trivial)).1]; exact H3.out.2.1 h
                · obtain ⟨e, h1, h2⟩ := H3.out.2.2 h
                  obtain ⟨e5, h5⟩ := H5.out.2.2 (by first | rfl | trivial)
                  refine ⟨e5.trans e, h1, fun m y hm hy => ?_⟩
                  rcases mem_take_next HX.out hy with hy | rfl
                  · exact h2 m y hm hy
                  · rw [← e]; exact h5 m (by rw [e]; exact hm)
              · refine ⟨⟨j + 1, out4, true, by omega, by simp, rfl, H5.out.1, fun _ => ?_, fun h => by cases h⟩, by simp [intOf]; omega⟩
                have h1 := H5.out.2.1 (by first | rfl | trivial)
                cases b3 with
                | false => obtain ⟨e, _, _⟩ := H3.out.2.2 rfl; rw [← e]; exact h1
                | true => have := H3.out.2.1 rfl; omega
            · have hje : j = al.length := by omega
              have HJE := Lib.hid hje; clear hje
              go_wp2
              refine ⟨⟨s + 1, out3, b3, by omega, by simp, rfl, H3.out.1, H3.out.2.1, fun h => ?_⟩, by simp [intOf]; omega⟩
              obtain ⟨e, h1, h2⟩ := H3.out.2.2 h
              refine ⟨e, fun r hr m al' x hm hal' hx => ?_⟩
              by_cases hrs : r = s
              · subst hrs
                rw [HAL.out] at hal'; injection hal' with hal'; subst hal'
                exact h2 m x hm (by rw [HJE.out, List.take_length]; exact hx)
              · exact h1 r (by omega) m al' x hm hal' hx
        · have hse : s = c.alts.length := by omega
          have HSE := Lib.hid hse; clear hse
          have hgk := H0.out.2.1 (by first | rfl | trivial)
          go_wp2
          go_roundg (if b2 = true then left9 out2 + 2 else 0)
          case measure =>
            cases b2 with
            | false => simp; omega
            | true => have := H2.out.2.1 rfl; simp; omega
          case rel =>
            refine ⟨out2, b2, rfl, H2.out.1, fun hb => by rw [if_pos hb]; exact Nat.le_refl _, fun hb => ?_⟩
            obtain ⟨e, h1⟩ := H2.out.2.2 hb
            subst e
            exact fun r m al' x hm hal' hx => h1 r (by rw [HSE.out]; exact (List.getElem?_eq_some_iff.1 hal').1) m al' x hm hal' hx
theorem ilOfBox {w : World} {O n : Nat} {out : List Int} (h : Box w O (out.map (Value.int .i64)).toArray 3) (hn : out.length = n) (hl : n ≤ 100000) (hi : ∀ x ∈ out, Ty.i64 x) : IL w (.slice (some ⟨O, 0, none⟩) n n) out := by
  subst hn
  refine ⟨out.map fun x => [.int .i64 x], ⟨?_, .inr ⟨O, out.length, _, rfl, Nat.zero_le _, h, Nat.le_refl _, by simp only [maxLen]; omega, by simp; exact (Nat.mul_one _).symm, ?_⟩⟩, by simp, by unfold LB; omega, fun _ _ => trivial, fun i x hx => ⟨[.int .i64 x], by simp [hx], fun _ _ _ => ⟨rfl, hi x (List.mem_of_getElem? hx)⟩⟩⟩
  · have : ∀ l : List Int, (l.map fun x => [Value.int .i64 x]).flatten.length = l.length := by
      intro l
      induction l with
      | nil => rfl
      | cons a l ih => simp [ih]
    rw [this]; exact (Nat.mul_one _).symm
  · have : ∀ l : List Int, (l.map fun x => [Value.int .i64 x]).flatten = l.map (Value.int .i64) := by
      intro l
      induction l with
      | nil => rfl
      | cons a l ih => simp [ih]
    rw [this]
    show List.take (out.length * 1) _ = _
    rw [Nat.mul_one]
    exact List.take_of_length_le (by simp)
theorem short_prep (w : World) (a b d : Value) :
    Box ((((w.alloc (.cells #[a, b, d] 25)).alloc (.cells #[a, b, d, .slice none 0 0, .slice none 0 0, .slice none 0 0] 78)).alloc (.cells #[.pointer (some ⟨w.heap.size + 1, 0, none⟩)] 75)).alloc (.cells #[.int .i64 2147483647] 3)) (w.heap.size + 1) #[a, b, d, .slice none 0 0, .slice none 0 0, .slice none 0 0] 78 ∧
    Box ((((w.alloc (.cells #[a, b, d] 25)).alloc (.cells #[a, b, d, .slice none 0 0, .slice none 0 0, .slice none 0 0] 78)).alloc (.cells #[.pointer (some ⟨w.heap.size + 1, 0, none⟩)] 75)).alloc (.cells #[.int .i64 2147483647] 3)) (w.heap.size + 2) #[.pointer (some ⟨w.heap.size + 1, 0, none⟩)] 75 ∧
    Box ((((w.alloc (.cells #[a, b, d] 25)).alloc (.cells #[a, b, d, .slice none 0 0, .slice none 0 0, .slice none 0 0] 78)).alloc (.cells #[.pointer (some ⟨w.heap.size + 1, 0, none⟩)] 75)).alloc (.cells #[.int .i64 2147483647] 3)) (w.heap.size + 3) #[.int .i64 2147483647] 3 ∧
    Below w.heap.size w ((((w.alloc (.cells #[a, b, d] 25)).alloc (.cells #[a, b, d, .slice none 0 0, .slice none 0 0, .slice none 0 0] 78)).alloc (.cells #[.pointer (some ⟨w.heap.size + 1, 0, none⟩)] 75)).alloc (.cells #[.int .i64 2147483647] 3)) ∧
    ((((w.alloc (.cells #[a, b, d] 25)).alloc (.cells #[a, b, d, .slice none 0 0, .slice none 0 0, .slice none 0 0] 78)).alloc (.cells #[.pointer (some ⟨w.heap.size + 1, 0, none⟩)] 75)).alloc (.cells #[.int .i64 2147483647] 3)).heap.size = w.heap.size + 4 := by
  have s1 : (w.alloc (.cells #[a, b, d] 25)).heap.size = w.heap.size + 1 := by simp
  have b1 : Below w.heap.size w (w.alloc (.cells #[a, b, d] 25)) := (Below.refl _ _).alloc (Nat.le_refl _) _
  generalize w.alloc (.cells #[a, b, d] 25) = w1 at *
  have t2 := Box.new w1 #[a, b, d, .slice none 0 0, .slice none 0 0, .slice none 0 0] 78
  have s2 : (w1.alloc (.cells #[a, b, d, .slice none 0 0, .slice none 0 0, .slice none 0 0] 78)).heap.size = w.heap.size + 2 := by simp; omega
  have b2 : Below w.heap.size w (w1.alloc (.cells #[a, b, d, .slice none 0 0, .slice none 0 0, .slice none 0 0] 78)) := b1.alloc (by omega) _
  generalize w1.alloc (.cells #[a, b, d, .slice none 0 0, .slice none 0 0, .slice none 0 0] 78) = w2 at *
  have t3 := Box.new w2 #[.pointer (some ⟨w.heap.size + 1, 0, none⟩)] 75
  have t2' := t2.alloc (.cells #[.pointer (some ⟨w.heap.size + 1, 0, none⟩)] 75)
  have s3 : (w2.alloc (.cells #[.pointer (some ⟨w.heap.size + 1, 0, none⟩)] 75)).heap.size = w.heap.size + 3 := by simp; omega
  have b3 : Below w.heap.size w (w2.alloc (.cells #[.pointer (some ⟨w.heap.size + 1, 0, none⟩)] 75)) := b2.alloc (by omega) _
  generalize w2.alloc (.cells #[.pointer (some ⟨w.heap.size + 1, 0, none⟩)] 75) = w3 at *
  have t4 := Box.new w3 #[.int .i64 2147483647] 3
  rw [s1] at t2'
  rw [s2] at t3
  rw [s3] at t4
  exact ⟨t2'.alloc _, t3.alloc _, t4, b3.alloc (by omega) _, by simp; omega⟩
set_option maxRecDepth 100000 in
set_option maxHeartbeats 4000000 in
theorem short_calls (c : Cfg) (v : Value) (w : World) (h : CfgV w v c) (hok : CfgOk c) (hsm : Small 60 c) (h0 : 0 < c.alts.length) : Calls Try.prog 18 #[v] w (shortEnd c w) := by
  have hal : c.alts.length ≤ 60 := by have := hok.1; have := hsm.1; omega
  obtain ⟨a0, b0, d0, rfl, h1, h2, h3⟩ := id h
  obtain ⟨A1, c1, rfl, hc1, hm1, _, hr1⟩ := id h1
  obtain ⟨A2, c2, rfl, hc2, hm2, _, hr2⟩ := id h2
  obtain ⟨A3, c3, rfl, hc3, hm3, hl3, hr3⟩ := id h3
  have HH := Lib.hid (And.intro hok (And.intro hsm hr3))
  unfold LB at hl3
  clear h hok hsm h1 h2 h3 hr1 hr2 hr3
  go_enter Try.func18, Try.ntmps18
  obtain ⟨q1, q2, q3, q4, q5⟩ := short_prep w (.slice A1 c.toks.length c1) (.slice A2 c.names.length c2) (.slice A3 c.alts.length c3)
  have hrep := repeat_calls (w.heap.size + 3) c.alts.length 2147483647 _ q3 h0 (by omega)
  have HP := Lib.hid (And.intro q1 (And.intro q2 q4))
  clear q1 q2 q3 q4
  have HREP := Lib.hid hrep
  clear hrep
  go_wp2_with (first | (go_at_call 29; refine HREP.out.mono ?_; rintro e w5 ⟨O, rfl, hO, hOs, hb5⟩; have hOlt := hO.lt; have hb5s := hb5.size; have hT5 := (HP.out.1.below hb5).alloc (.cells #[.slice (some ⟨O, 0, none⟩) c.alts.length c.alts.length] 34); have hP5 := (HP.out.2.1.below hb5).alloc (.cells #[.slice (some ⟨O, 0, none⟩) c.alts.length c.alts.length] 34); have hp2c := hP5.cell 0 (v := .pointer (some ⟨w.heap.size + 1, 0, none⟩)) rfl; have hO5 := hO.alloc (.cells #[.slice (some ⟨O, 0, none⟩) c.alts.length c.alts.length] 34); have hSS : Hid (ShS w (w.heap.size + 1) (w.heap.size + 2) w5.heap.size O (.slice A1 c.toks.length c1) (.slice A2 c.names.length c2) (.slice A3 c.alts.length c3) c (List.replicate c.alts.length farI) (w5.alloc (.cells #[.slice (some ⟨O, 0, none⟩) c.alts.length c.alts.length] 34))) := ⟨hT5, hP5, Box.new _ _ _, by rw [List.map_replicate]; simpa [farI] using hO5, ⟨by omega, by omega, by omega⟩, (below2 HP.out.2.2 hb5).alloc (by omega) _, by omega, ShI.start c⟩; clear hO hT5 hP5 hO5) | (go_at_call 30; refine (each_calls w (w.heap.size + 1) (w.heap.size + 2) w5.heap.size O _ _ A3 c3 c _ _ hSS.out HH.out.2.2 HH.out.1 HH.out.2.1).mono ?_; rintro e w6 ⟨rfl, out, hS6, hC6⟩; have hp3c := hS6.p3.cell 0 (v := .slice (some ⟨O, 0, none⟩) c.alts.length c.alts.length) rfl))
  go_ret
  have hso := short_ok hS6.inv hC6
  refine ⟨_, out, rfl, hso, ilOfBox hS6.ob hso.1 (by omega) (fun x hx => ?_), hS6.bl⟩
  obtain ⟨i, hi⟩ := List.mem_iff_getElem?.1 hx
  have h1 := (hso.2 i x hi).nn
  have h2 := (hso.2 i x hi).le
  unfold farI at h2
  unfold Ty.i64; omega
end Go.Proofs.Ytgjobbapnileiaa
