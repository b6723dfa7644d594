/- The chart: its state, and how it lies. -/
import Derived.Test.YtgjobbapnileiaaNum
import Derived.Test.YtgjobbapnileiaaTab
set_option linter.unusedVariables false
set_option linter.unusedSimpArgs false
namespace Gk
open Go Go.RowKit
variable {P : Program} {α : Type} {T : Ty α} {e : TypeId} {B : Nat} {D : Nat → Prop} {W : World} {v : Value} {xs : List α}
theorem run_app (t bytes : Nat) (ty : TypeId) (E : ElemOk P T t e bytes) (y : α) (cs : Array Value)
    (HO : Own T e B D W v xs) (hD : ∀ b, W.heap.size ≤ b → D b) (HY : Far (fun b => D b ∧ some b ≠ v.ownBlock) (fun w => T.R w y cs.toList) W) (hbase : B ≤ W.heap.size) (hl : (xs.length + 1) * bytes ≤ 140737488355328) :
    ∃ v1 w1, (Builtin.append_ #[t, t] ty #[v, .slice (some ⟨W.heap.size, 0, none⟩) 1 1]).run P (W.alloc (.cells cs e)) = .ok v1 w1 ∧ Own T e B D w1 v1 (xs ++ [y]) ∧ W.grownBy w1 v.ownBlock ∧ (v1.ownBlock = v.ownBlock ∨ ∃ b, v1.ownBlock = some b ∧ W.heap.size ≤ b) := by
  obtain ⟨i0, z, hi, hz0, hz1, hz2, hzs⟩ := E.info
  have HO' := HO
  obtain ⟨css, h1, h2, h3, h5, h4⟩ := HO'
  have hb0 := E.b0
  have hlen : xs.length + 1 ≤ 140737488355328 := Nat.le_trans (Nat.le_mul_of_pos_right _ hb0) hl
  have hcl : cs.toList.length = T.sz := T.len HY.now
  obtain ⟨v1, w1, hrun, hown, hg, _, hat⟩ := run_append_own_at (P := P) (W.alloc (.cells cs e)) B t ty e i0 z T.sz bytes E.ut hi hz0 hz1 hz2 hzs T.pos v xs.length css.flatten (h1.alloc _) ⟨W.heap.size, 0, none⟩ 1 1 cs.toList (by rw [hcl]; omega)
    (World.news_of_block (cs := cs) (t := e) (fr := (0, 0)) (heap_alloc_new W _)) (T.one HY.now) (by simp only [maxLen]; omega) hl (by simp; omega)
  have hg2 : W.grownBy w1 v.ownBlock := World.grownBy.trans (World.grownBy_alloc W _ _) hg
  have hat2 : v1.ownBlock = v.ownBlock ∨ ∃ b, v1.ownBlock = some b ∧ W.heap.size ≤ b := by
    rcases hat with hat | hat
    · exact .inl hat
    · exact .inr ⟨_, hat, by simp⟩
  exact ⟨v1, w1, hrun, Own.push (by simpa [LB] using hlen) hD h5 h2 h4 hown hg2 hat2 HY, hg2, hat2⟩
end Gk
namespace Go.Proofs.Ytgjobbapnileiaa
open Go.RowKit Gk Go.WideMaps Go.WideShapes Go.WideElems
abbrev plT : Ty Pl := Ty.pair Ty.int Ty.int
theorem infoPl : (Try.prog.info? 65).map (fun i => (i.zero, i.size, i.bytes)) = some (some (.agg #[.int .i64 0, .int .i64 0]), 2, 16) := by kernel_rfl
theorem elemPl : ElemOk Try.prog plT 59 65 16 := ElemOk.of Try.underlying59 infoPl rfl (by omega)
theorem laidOut : laidOutB Try.prog = true := by kernel_rfl
theorem keyLawAt : KeyLaw Try.prog 65 := deep_law_laid laidOut (m := 2) (by omega) (of_decide_eq_true (by kernel_rfl)) (by kernel_rfl) (by rw [Try.underlying65])
theorem cellsPl : Try.prog.cellsOf 65 = 2 := by kernel_rfl
theorem cellsInt : Try.prog.cellsOf 3 = 1 := by kernel_rfl
theorem keyTypePl : Try.prog.keyType 65 = true := by kernel_rfl
theorem sizeTypes : ∃ d, Try.prog.types.size + 1 = d + 2 := ⟨Try.prog.types.size - 1, by
  have : 1 ≤ Try.prog.types.size := of_decide_eq_true (by kernel_rfl)
  omega⟩
theorem litsPl (d : Nat) (a b : Int) (ha : Ty.i64 a) (hb : Ty.i64 b) : Try.prog.keyLits (d + 2) 65 [.int .i64 a, .int .i64 b] = some [.int .i64 a, .int .i64 b] := by
  have h1 := wfOf ha
  have h2 := wfOf hb
  simp [Program.keyLits, Try.underlying65, Try.underlying3, cellsPl, cellsInt, h1, h2]
noncomputable def plLit (p : Pl) : Lit := .string (keyBytes [.int .i64 p.1, .int .i64 p.2])
theorem pl_of (p : Pl) (h : p.ok) : keyOf Try.prog 65 p.val = some (plLit p) := by
  obtain ⟨d, hd⟩ := sizeTypes
  have h1 : p.val.formed Try.prog 65 = true := by simp [Pl.val, Value.formed, Try.underlying65, cellsPl]
  have h2 : p.val.cells.toList = [.int .i64 p.1, .int .i64 p.2] := rfl
  unfold keyOf
  rw [Try.underlying65]
  simp only [keyTypePl, h1, h2, hd, litsPl d _ _ h.1 h.2, Bool.and_self, if_true, Option.map_some]
  rfl
theorem plKey : PlKey Try.prog 65 plLit := ⟨Go.Maps.Keyed.of_law keyLawAt, pl_of⟩

/-- what is known: the places that were asked for, in order, and the ends at each -/
structure St where
  W : List Pl
  S : Pl → List Int
def St.want (σ : St) (p : Pl) : St := if p ∈ σ.W then σ else ⟨σ.W ++ [p], fun q => if q = p then [] else σ.S q⟩
abbrev ISet (w : World) (b : Nat) (K : List Int) : Prop := SetAt Try.prog 3 4 w b K
structure ChartAt (w : World) (X : Nat) (a b d tv : Value) (σ : St) (B : Nat) (In : Nat → Prop) (m : Nat) (vW : Value) (E : Pl → Nat) : Prop where
  box : Box w X #[a, b, d, tv, .map (some m), vW] 61
  own : Own plT 65 B In w vW σ.W
  tab : TabAt Try.prog 65 plLit w m σ.W E
  sets : ∀ p ∈ σ.W, ISet w (E p) (σ.S p)
  inX : In X
  inm : In m
  inE : ∀ p ∈ σ.W, In (E p)
  dX : some X ≠ vW.ownBlock
  dm : some m ≠ vW.ownBlock
  dE : ∀ p ∈ σ.W, some (E p) ≠ vW.ownBlock
  mX : m ≠ X
  mE : ∀ p ∈ σ.W, E p ≠ m
  EX : ∀ p ∈ σ.W, E p ≠ X
  EE : ∀ p ∈ σ.W, ∀ q ∈ σ.W, E p = E q → p = q
  lb : ∀ c, In c → B ≤ c
  ub : ∀ c, In c → c < w.heap.size
def Chart (w : World) (X : Nat) (a b d tv : Value) (σ : St) (B : Nat) (In : Nat → Prop) : Prop := ∃ m vW E, ChartAt w X a b d tv σ B In m vW E
/-- what a call on the chart does to the heap: it turns the chart's own blocks alone, and adds new ones -/
structure Eff (w w' : World) (In In' : Nat → Prop) : Prop where
  os : w'.os = w.os
  tape : w'.tape = w.tape
  output : w'.output = w.output
  size : w.heap.size ≤ w'.heap.size
  block : ∀ c, c < w.heap.size → ¬ In c → w'.heap[c]? = w.heap[c]?
  new : ∀ c, In' c → In c ∨ (w.heap.size ≤ c ∧ c < w'.heap.size)
  old : ∀ c, In c → In' c
theorem Eff.refl (w : World) (In : Nat → Prop) : Eff w w In In := ⟨rfl, rfl, rfl, Nat.le_refl _, fun _ _ _ => rfl, fun _ h => .inl h, fun _ h => h⟩
theorem ChartAt.keep {w w' : World} {X : Nat} {a b d tv : Value} {σ : St} {B : Nat} {In : Nat → Prop} {m : Nat} {vW : Value} {E : Pl → Nat} (h : ChartAt w X a b d tv σ B In m vW E) (hs : w.heap.size ≤ w'.heap.size) (hb : ∀ c, c < w.heap.size → In c → w'.heap[c]? = w.heap[c]?) :
    ChartAt w' X a b d tv σ B In m vW E :=
  { h with
    box := h.box.keep (hb _ h.box.lt h.inX)
    own := h.own.keep hs hb
    tab := h.tab.keep (hb _ h.tab.lt h.inm)
    ub := fun c hc => Nat.lt_of_lt_of_le (h.ub c hc) hs
    sets := fun p hp => (h.sets p hp).keep (hb _ (h.sets p hp).lt (h.inE p hp)) }
theorem Chart.keep {w w' : World} {X : Nat} {a b d tv : Value} {σ : St} {B : Nat} {In : Nat → Prop} (h : Chart w X a b d tv σ B In) (hs : w.heap.size ≤ w'.heap.size) (hb : ∀ c, c < w.heap.size → In c → w'.heap[c]? = w.heap[c]?) : Chart w' X a b d tv σ B In := by
  obtain ⟨m, vW, E, h⟩ := h; exact ⟨m, vW, E, h.keep hs hb⟩
theorem zeroMap (w : World) : (zeroValue 62).run Try.prog w = .ok (.map none) w := by kernel_rfl
theorem zeroBool (w : World) : (zeroValue 4).run Try.prog w = .ok (.bool false) w := by kernel_rfl
end Go.Proofs.Ytgjobbapnileiaa
