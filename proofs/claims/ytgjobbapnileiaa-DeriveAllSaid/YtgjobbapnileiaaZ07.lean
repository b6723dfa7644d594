/- The chart: its state, and how it lies; A region whose operations but the last only read; of: the ends at a place. -/
import Derived.Test.YtgjobbapnileiaaZ05
import Derived.Test.YtgjobbapnileiaaZ06
import Derived.Test.YtgjobbapnileiaaZ04
set_option linter.unusedVariables false
set_option linter.unusedSimpArgs false
namespace Gk
open Go Go.RowKit
variable {P : Program} {α : Type} {T : Ty α} {e : TypeId} {B : Nat} {D : Nat → Prop} {W : World} {v : Value} {xs : List α}
theorem run_app (t bytes : Nat) (ty : TypeId) (E : ElemOk P T t e bytes) (y : α) (cs : Array Value)
    (HO : Own T e B D W v xs) (hD : ∀ b, W.heap.size ≤ b → D b) (HY : Far (fun b => D b ∧ some b ≠ v.ownBlock) (fun w => T.R w y cs.toList) W) (hbase : B ≤ W.heap.size) (hl : (xs.length + 1) * bytes ≤ 140737488355328) :
    ∃ v1 w1, (Builtin.append_ #[t, t] ty #[v, .slice (some ⟨W.heap.size, 0, none⟩) 1 1]).run P (W.alloc (.cells cs e)) = .ok v1 w1 ∧ Own T e B D w1 v1 (xs ++ [y]) ∧ W.grownBy w1 v.ownBlock ∧ (v1.ownBlock = v.ownBlock ∨ ∃ b, v1.ownBlock = some b ∧ W.heap.size ≤ b) := by
  obtain ⟨i0, z, hi, hz0, hz1, hz2, hzs⟩ := E.info
  have HO' := HO
  obtain ⟨css, h1, h2, h3, h5, h4⟩ := HO'
  have hb0 := E.b0
  have hlen : xs.length + 1 ≤ 140737488355328 := Nat.le_trans (Nat.le_mul_of_pos_right _ hb0) hl
  have hcl : cs.toList.length = T.sz := T.len HY.now
  obtain ⟨v1, w1, hrun, hown, hg, _, hat⟩ := run_append_own_at (P := P) (W.alloc (.cells cs e)) B t ty e i0 z T.sz bytes E.ut hi hz0 hz1 hz2 hzs T.pos v xs.length css.flatten (h1.alloc _) ⟨W.heap.size, 0, none⟩ 1 1 cs.toList (by rw [hcl]; omega)
    (World.news_of_block (cs := cs) (t := e) (fr := (0, 0)) (heap_alloc_new W _)) (T.one HY.now) (by simp only [maxLen]; omega) hl (by simp; omega)
  have hg2 : W.grownBy w1 v.ownBlock := World.grownBy.trans (World.grownBy_alloc W _ _) hg
  have hat2 : v1.ownBlock = v.ownBlock ∨ ∃ b, v1.ownBlock = some b ∧ W.heap.size ≤ b := by
    rcases hat with hat | hat
    · exact .inl hat
    · exact .inr ⟨_, hat, by simp⟩
  exact ⟨v1, w1, hrun, Own.push (by simpa [LB] using hlen) hD h5 h2 h4 hown hg2 hat2 HY, hg2, hat2⟩
end Gk
namespace Go.Proofs.Ytgjobbapnileiaa
open Go.RowKit Gk Go.WideMaps Go.WideShapes Go.WideElems
abbrev plT : Ty Pl := Ty.pair Ty.int Ty.int
theorem infoPl : (Try.prog.info? 65).map (fun i => (i.zero, i.size, i.bytes)) = some (some (.agg #[.int .i64 0, .int .i64 0]), 2, 16) := by kernel_rfl
theorem elemPl : ElemOk Try.prog plT 59 65 16 := ElemOk.of Try.underlying59 infoPl rfl (by omega)
theorem laidOut : laidOutB Try.prog = true := by kernel_rfl
theorem keyLawAt : KeyLaw Try.prog 65 := deep_law_laid laidOut (m := 2) (by omega) (of_decide_eq_true (by kernel_rfl)) (by kernel_rfl) (by rw [Try.underlying65])
theorem cellsPl : Try.prog.cellsOf 65 = 2 := by kernel_rfl
theorem cellsInt : Try.prog.cellsOf 3 = 1 := by kernel_rfl
theorem keyTypePl : Try.prog.keyType 65 = true := by kernel_rfl
theorem sizeTypes : ∃ d, Try.prog.types.size + 1 = d + 2 := ⟨Try.prog.types.size - 1, by
  have : 1 ≤ Try.prog.types.size := of_decide_eq_true (by kernel_rfl)
  omega⟩
theorem litsPl (d : Nat) (a b : Int) (ha : Ty.i64 a) (hb : Ty.i64 b) : Try.prog.keyLits (d + 2) 65 [.int .i64 a, .int .i64 b] = some [.int .i64 a, .int .i64 b] := by
  have h1 := wfOf ha
  have h2 := wfOf hb
  simp [Program.keyLits, Try.underlying65, Try.underlying3, cellsPl, cellsInt, h1, h2]
noncomputable def plLit (p : Pl) : Lit := .string (keyBytes [.int .i64 p.1, .int .i64 p.2])
theorem pl_of (p : Pl) (h : p.ok) : keyOf Try.prog 65 p.val = some (plLit p) := by
  obtain ⟨d, hd⟩ := sizeTypes
  have h1 : p.val.formed Try.prog 65 = true := by simp [Pl.val, Value.formed, Try.underlying65, cellsPl]
  have h2 : p.val.cells.toList = [.int .i64 p.1, .int .i64 p.2] := rfl
  unfold keyOf
  rw [Try.underlying65]
  simp only [keyTypePl, h1, h2, hd, litsPl d _ _ h.1 h.2, Bool.and_self, if_true, Option.map_some]
  rfl
theorem plKey : PlKey Try.prog 65 plLit := ⟨Go.Maps.Keyed.of_law keyLawAt, pl_of⟩

/-- what is known: the places that were asked for, in order, and the ends at each -/
structure St where
  W : List Pl
  S : Pl → List Int
def St.want (σ : St) (p : Pl) : St := if p ∈ σ.W then σ else ⟨σ.W ++ [p], fun q => if q = p then [] else σ.S q⟩
abbrev ISet (w : World) (b : Nat) (K : List Int) : Prop := SetAt Try.prog 3 4 w b K
structure ChartAt (w : World) (X : Nat) (a b d tv : Value) (σ : St) (B : Nat) (In : Nat → Prop) (m : Nat) (vW : Value) (E : Pl → Nat) : Prop where
  box : Box w X #[a, b, d, tv, .map (some m), vW] 61
  own : Own plT 65 B In w vW σ.W
  tab : TabAt Try.prog 65 plLit w m σ.W E
  sets : ∀ p ∈ σ.W, ISet w (E p) (σ.S p)
  inX : In X
  inm : In m
  inE : ∀ p ∈ σ.W, In (E p)
  dX : some X ≠ vW.ownBlock
  dm : some m ≠ vW.ownBlock
  dE : ∀ p ∈ σ.W, some (E p) ≠ vW.ownBlock
  mX : m ≠ X
  mE : ∀ p ∈ σ.W, E p ≠ m
  EX : ∀ p ∈ σ.W, E p ≠ X
  EE : ∀ p ∈ σ.W, ∀ q ∈ σ.W, E p = E q → p = q
  lb : ∀ c, In c → B ≤ c
  ub : ∀ c, In c → c < w.heap.size
def Chart (w : World) (X : Nat) (a b d tv : Value) (σ : St) (B : Nat) (In : Nat → Prop) : Prop := ∃ m vW E, ChartAt w X a b d tv σ B In m vW E
/-- what a call on the chart does to the heap: it turns the chart's own blocks alone, and adds new ones -/
structure Eff (w w' : World) (In In' : Nat → Prop) : Prop where
  os : w'.os = w.os
  tape : w'.tape = w.tape
  output : w'.output = w.output
  size : w.heap.size ≤ w'.heap.size
  block : ∀ c, c < w.heap.size → ¬ In c → w'.heap[c]? = w.heap[c]?
  new : ∀ c, In' c → In c ∨ (w.heap.size ≤ c ∧ c < w'.heap.size)
  old : ∀ c, In c → In' c
theorem Eff.refl (w : World) (In : Nat → Prop) : Eff w w In In := ⟨rfl, rfl, rfl, Nat.le_refl _, fun _ _ _ => rfl, fun _ h => .inl h, fun _ h => h⟩
theorem ChartAt.keep {w w' : World} {X : Nat} {a b d tv : Value} {σ : St} {B : Nat} {In : Nat → Prop} {m : Nat} {vW : Value} {E : Pl → Nat} (h : ChartAt w X a b d tv σ B In m vW E) (hs : w.heap.size ≤ w'.heap.size) (hb : ∀ c, c < w.heap.size → In c → w'.heap[c]? = w.heap[c]?) :
    ChartAt w' X a b d tv σ B In m vW E :=
  { h with
    box := h.box.keep (hb _ h.box.lt h.inX)
    own := h.own.keep hs hb
    tab := h.tab.keep (hb _ h.tab.lt h.inm)
    ub := fun c hc => Nat.lt_of_lt_of_le (h.ub c hc) hs
    sets := fun p hp => (h.sets p hp).keep (hb _ (h.sets p hp).lt (h.inE p hp)) }
theorem Chart.keep {w w' : World} {X : Nat} {a b d tv : Value} {σ : St} {B : Nat} {In : Nat → Prop} (h : Chart w X a b d tv σ B In) (hs : w.heap.size ≤ w'.heap.size) (hb : ∀ c, c < w.heap.size → In c → w'.heap[c]? = w.heap[c]?) : Chart w' X a b d tv σ B In := by
  obtain ⟨m, vW, E, h⟩ := h; exact ⟨m, vW, E, h.keep hs hb⟩
theorem zeroMap (w : World) : (zeroValue 62).run Try.prog w = .ok (.map none) w := by kernel_rfl
theorem zeroBool (w : World) : (zeroValue 4).run Try.prog w = .ok (.bool false) w := by kernel_rfl
end Go.Proofs.Ytgjobbapnileiaa
set_option linter.unusedVariables false
set_option linter.unusedSimpArgs false
namespace Gk
open Go Go.RowKit
section
variable {P : Program} {ops : Array Oper} {Q : Exit → Act → World → Prop}
theorem opv_congr {n : Nat} (h : regOk ops n = true) {a0 : Act} {L : Nat → Bool} {val vals : Nat → Value} {i : Nat} {o : Oper} (hi : ops[i]? = some o) (hd : ∀ e ∈ o.after, Region.binds .any e = true → L e.on = true) (hv : ∀ j, L j = true → val j = vals j) :
    execOp (opv ops a0 val) o = execOp (opv ops a0 vals) o := by
  obtain ⟨h1, h2, h3, h4, h5, h6⟩ := regOk_at h hi
  refine execOp_congr o h5 fun x hx => ?_
  cases x with
  | tmp t =>
    unfold opv
    show (match dstIdx ops t with | some j => val j | none => a0.tmps.getD t undef) = (match dstIdx ops t with | some j => vals j | none => a0.tmps.getD t undef)
    split
    · rename_i j hj
      obtain ⟨e, he, hej, hb⟩ := h4 t j hx hj
      exact hv j (by rw [← hej]; exact hd e he hb)
    · rfl
  | const v => rfl
  | global g => rfl
  | func f => rfl
theorem fillAll_congr {val vals : Nat → Value} (a0 : Act) (h : ∀ j, j < ops.size → val j = vals j) : fillAll ops val a0 = fillAll ops vals a0 := by
  unfold fillAll
  have : ∀ (l : List Nat) (a : Act), (∀ j ∈ l, j < ops.size) → l.foldl (fun a j => a.put (dstOf ops j) (val j)) a = l.foldl (fun a j => a.put (dstOf ops j) (vals j)) a := by
    intro l
    induction l with
    | nil => intro a _; rfl
    | cons x l ih =>
      intro a hl
      simp only [List.foldl_cons]
      rw [h x (hl x (by simp))]
      exact ih _ fun j hj => hl j (by simp [hj])
  exact this _ _ fun j hj => List.mem_range.1 hj
def noGuards (l : List Oper) : Bool := l.all fun o => o.guard.isNone
def lastAll (l : List Oper) (n : Nat) : Bool := match l[n]? with | some o => (List.range n).all fun i => o.after.toList.any fun e => e.on == i && Region.binds .any e | none => false
structure LastI (n : Nat) (vals : Nat → Value) (w1 : World) (K : Value → World → Prop) (L : Nat → Bool) (val : Nat → Value) (w : World) : Prop where
  v : ∀ i, i < n → L i = true → val i = vals i
  pre : L n = false → w = w1
  post : L n = true → K (val n) w
  c : L n = true → ∀ i, i < n → L i = true
theorem guard_none {l : List Oper} (h : noGuards l = true) {i : Nat} {o : Oper} (hi : l[i]? = some o) : o.guard = none := by
  have := List.all_eq_true.1 h o (List.mem_of_getElem? hi)
  simpa using this
theorem wp_region_last {id : Nat} {l : List Oper} (n : Nat) {a0 : Act} {w : World} (hn : l.length = n + 1) (hm : P.follows .mixedOrders = true) (h : regOk l.toArray a0.tmps.size = true) (hng : noGuards l = true) (hlast : lastAll l n = true) (vals : Nat → Value)
    (hp : ∀ i, i < n → ∀ oi, l[i]? = some oi → (execOp (opv l.toArray a0 vals) oi).run P (w.drewN 1) = .ok (.value (vals i)) (w.drewN 1))
    (hl : ∀ oi, l[n]? = some oi → does P ((execOp (opv l.toArray a0 vals) oi).run P (w.drewN 1)) (fun v w' => Q .normal (fillAll l.toArray (upd vals n v) a0) w')) :
    (Code.region id l.toArray true).wp P Q a0 w := by
  refine wp_region_inv hm h (LastI n vals (w.drewN 1) (fun v w' => Q .normal (fillAll l.toArray (upd vals n v) a0) w')) (fun _ => undef) ⟨by simp, fun _ => rfl, by simp, by simp⟩ ?_ ?_
  · intro i hi o ho L val w2 hI hL hd
    have hol : l[i]? = some o := by simpa using ho
    rw [guard_none hng hol]
    rw [if_pos (by rfl)]
    by_cases hin : i < n
    · have hLn : L n = false := by
        rcases hx : L n with _ | _
        · rfl
        · have := hI.c hx i hin; rw [hL] at this; cases this
      have hw := hI.pre hLn
      subst hw
      have hv : ∀ j, L j = true → val j = vals j ∨ n < j := fun j hj => by
        by_cases hjn : j < n
        · exact .inl (hI.v j hjn hj)
        · rcases Nat.lt_or_eq_of_le (Nat.le_of_not_lt hjn) with h | h
          · exact .inr h
          · subst h; rw [hLn] at hj; cases hj
      have hcg : execOp (opv l.toArray a0 val) o = execOp (opv l.toArray a0 vals) o := by
        have : execOp (opv l.toArray a0 val) o = execOp (opv l.toArray a0 vals) o := by
          refine opv_congr (L := fun j => L j && decide (j < n)) h ho (fun e he hb => ?_) (fun j hj => ?_)
          · have hlt := (regOk_at h ho).2.1 e he
            simp [hd e he hb, show e.on < n by omega]
          · simp only [Bool.and_eq_true, decide_eq_true_eq] at hj
            exact hI.v j hj.2 hj.1
        exact this
      rw [hcg]
      refine does_value (hp i hin o hol) ⟨fun j hj hLj => ?_, fun _ => rfl, fun hx => ?_, fun hx => ?_⟩
      · by_cases e : j = i
        · subst e; simp [upd]
        · simp only [up, e, if_false] at hLj; simp [upd, e, hI.v j hj hLj]
      · simp only [up, show n ≠ i by omega, if_false] at hx; rw [hLn] at hx; cases hx
      · simp only [up, show n ≠ i by omega, if_false] at hx; rw [hLn] at hx; cases hx
    · have hil : i < l.length := hi
      have hin : i = n := by omega
      subst hin
      have hall : ∀ j, j < i → L j = true := fun j hj => by
        unfold lastAll at hlast
        rw [hol] at hlast
        have := List.all_eq_true.1 hlast j (List.mem_range.2 hj)
        obtain ⟨e, he, h2⟩ := List.any_eq_true.1 this
        simp at h2
        have := hd e (Array.mem_toList_iff.1 he) h2.2
        rw [h2.1] at this; exact this
      have hw := hI.pre hL
      subst hw
      have hcg : execOp (opv l.toArray a0 val) o = execOp (opv l.toArray a0 vals) o := by
        refine opv_congr (L := fun j => decide (j < i)) h ho (fun e he hb => ?_) (fun j hj => ?_)
        · have hlt := (regOk_at h ho).2.1 e he
          simpa using hlt
        · have hj : j < i := by simpa using hj
          exact hI.v j hj (hall j hj)
      rw [hcg]
      have hK := hl o hol
      generalize hr : (execOp (opv l.toArray a0 vals) o).run P (w.drewN 1) = r at hK
      have hfin : ∀ v w', Q .normal (fillAll l.toArray (upd vals i v) a0) w' → LastI i vals (w.drewN 1) (fun v w' => Q .normal (fillAll l.toArray (upd vals i v) a0) w') (up L i) (upd val i v) w' := fun v w' hq =>
        ⟨fun j hj _ => by simp [upd, show j ≠ i by omega, hI.v j hj (hall j hj)], fun hx => by simp [up] at hx, fun _ => by simpa [upd] using hq, fun _ j hj => by simp [up, hall j hj]⟩
      cases r with
      | ok nx w' =>
        cases nx <;> simp only [does] at hK ⊢
        case value v => exact hfin _ _ hK
        case skip => exact hfin _ _ hK
        case enter f args => exact hK.mono fun e w'' ⟨v, he, hq⟩ => ⟨v, he, hfin _ _ hq⟩
      | halt x w' => cases x <;> simp only [does] at hK
  · intro val w2 hI
    have hnl : n < l.length := by omega
    have := hI.post (by simp [hnl])
    have e : fillAll l.toArray (upd vals n (val n)) a0 = fillAll l.toArray val a0 := fillAll_congr a0 fun j hj => by
      have hj : j < l.length := by simpa using hj
      by_cases e : j = n
      · subst e; simp [upd]
      · simp [upd, e, hI.v j (by omega) (by simp [hj])]
    rw [e] at this; exact this
theorem exec_mapUpdate {ρ : Operand → Value} {o : Oper} {t : TypeId} {x y z : Operand} {vx vy vz : Value} {w w' : World} (ho : o.op = .mapUpdate t x y z) (hx : ρ x = vx) (hy : ρ y = vy) (hz : ρ z = vz) (hr : (Instr.mapUpdate t vx vy vz).run P w = .ok () w') : (execOp ρ o).run P w = .ok .skip w' := by
  unfold execOp
  simp only [ho, hx, hy, hz, Sem.run_bind, Sem.run_pure, Result.andThen_ok, hr]
theorem exec_buildSlice {ρ : Operand → Value} {o : Oper} {t : TypeId} {n : Nat} {ps : Array (Nat × Operand)} {A : Array (Nat × Value)} {v : Value} {w w' : World} (ho : o.op = .buildSlice t n ps) (hA : (ps.map fun (i, x) => (i, ρ x)) = A) (hr : (Instr.buildSlice t n A).run P w = .ok v w') : (execOp ρ o).run P w = .ok (.value v) w' := by
  unfold execOp
  simp only [ho, hA, Sem.run_bind, Sem.run_pure, Result.andThen_ok, hr]
theorem exec_lookup {ρ : Operand → Value} {o : Oper} {t : TypeId} {x y : Operand} {c : Bool} {vx vy v : Value} {w w' : World} (ho : o.op = .lookup t x y c) (hx : ρ x = vx) (hy : ρ y = vy) (hr : (Instr.lookup t vx vy c).run P w = .ok v w') : (execOp ρ o).run P w = .ok (.value v) w' := by
  unfold execOp
  simp only [ho, hx, hy, Sem.run_bind, Sem.run_pure, Result.andThen_ok, hr]
theorem exec_nilCheck {ρ : Operand → Value} {o : Oper} {x : Operand} {a : Addr} {w : World} (ho : o.op = .nilCheck x) (hx : ρ x = .pointer (some a)) : (execOp ρ o).run P w = .ok (.value (.pointer (some a))) w := by
  unfold execOp
  simp only [ho, hx, Sem.run_pure]
theorem exec_fieldAddr {ρ : Operand → Value} {o : Oper} {s : TypeId} {x : Operand} {f : Nat} {vx v : Value} {w w' : World} (ho : o.op = .fieldAddr s x f) (hx : ρ x = vx) (hr : (Instr.fieldAt s vx f).run P w = .ok v w') : (execOp ρ o).run P w = .ok (.value v) w' := by
  unfold execOp
  simp only [ho, hx, Sem.run_bind, Sem.run_pure, Result.andThen_ok, hr]
end
end Gk
set_option linter.unusedVariables false
set_option linter.unusedSimpArgs false
namespace Go.Proofs.Ytgjobbapnileiaa
open Go.RowKit Gk

theorem pl_any {w w' : World} {x : Pl} {cs : List Value} (h : plT.R w x cs) : plT.R w' x cs := by
  obtain ⟨c1, c2, e, h1, h2⟩ := h
  exact ⟨c1, c2, e, h1, h2⟩
theorem own_pl {e : TypeId} {B : Nat} {D D' : Nat → Prop} {w : World} {v : Value} {xs : List Pl} (h : Own plT e B D w v xs) (hD : ∀ k, v.ownBlock = some k → D' k) : Own plT e B D' w v xs := by
  obtain ⟨css, h1, h2, h3, h5, h4⟩ := h
  exact ⟨css, h1, h2, h3, hD, fun i x hx => by
    obtain ⟨cs, hc, hf⟩ := h4 i x hx
    exact ⟨cs, hc, fun w2 _ _ => pl_any hf.now⟩⟩
theorem pl_far (D : Nat → Prop) (w : World) (p : Pl) (hp : p.ok) : Far D (fun w => plT.R w p [.int .i64 p.1, .int .i64 p.2]) w := fun _ _ _ => ⟨_, _, rfl, ⟨rfl, hp.1⟩, ⟨rfl, hp.2⟩⟩
def OfApp (p : Pl) (W : List Pl) (B : Nat) (w4 : World) (vW v : Value) (w : World) : Prop :=
  Own plT 65 B (fun c => some c = vW.ownBlock ∨ w4.heap.size ≤ c) w v (W ++ [p]) ∧ w4.grownBy w vW.ownBlock ∧ (v.ownBlock = vW.ownBlock ∨ ∃ b, v.ownBlock = some b ∧ w4.heap.size ≤ b)
structure OfI (X : Nat) (vW : Value) (p : Pl) (W : List Pl) (B : Nat) (w4 : World) (L : Nat → Bool) (val : Nat → Value) (w : World) : Prop where
  v0 : L 0 = true → val 0 = .pointer (some ⟨X, 0, none⟩)
  v1 : L 1 = true → val 1 = .pointer (some ⟨X, 0, none⟩)
  v2 : L 2 = true → val 2 = .pointer (some ⟨X, 0, none⟩)
  v3 : L 3 = true → val 3 = .pointer (some ⟨X, 5, none⟩)
  v4 : L 4 = true → val 4 = vW
  v5 : L 5 = true → val 5 = .agg #[.int .i64 p.1, .int .i64 p.2]
  v6 : L 6 = true → val 6 = .slice (some ⟨w4.heap.size, 0, none⟩) 1 1
  v8 : L 8 = true → val 8 = .pointer (some ⟨X, 0, none⟩)
  v9 : L 9 = true → val 9 = .pointer (some ⟨X, 5, none⟩)
  c6 : L 6 = true → L 5 = true
  c7 : L 7 = true → L 6 = true ∧ L 4 = true
  c8 : L 8 = true → ∀ j, j < 8 → L j = true
  c9 : L 9 = true → ∀ j, j < 9 → L j = true
  c10 : L 10 = true → ∀ j, j < 10 → L j = true
  pre : L 6 = false → w = w4
  mid : L 6 = true → L 7 = false → w = w4.alloc (.cells #[.int .i64 p.1, .int .i64 p.2] 65)
  post : L 7 = true → L 10 = false → OfApp p W B w4 vW (val 7) w
  fin : L 10 = true → ∃ wq v, OfApp p W B w4 vW v wq ∧ w = wq.setCell ⟨X, 5, none⟩ v
/-- a step that only reads -/
theorem OfI.read {X : Nat} {vW : Value} {p : Pl} {W : List Pl} {B : Nat} {w4 : World} {L : Nat → Bool} {val : Nat → Value} {w : World} (h : OfI X vW p W B w4 L val w) {i : Nat} {v : Value} (hi : i < 6) (hL : L i = false)
    (hv : v = match i with | 0 => .pointer (some ⟨X, 0, none⟩) | 1 => .pointer (some ⟨X, 0, none⟩) | 2 => .pointer (some ⟨X, 0, none⟩) | 3 => .pointer (some ⟨X, 5, none⟩) | 4 => vW | _ => .agg #[.int .i64 p.1, .int .i64 p.2]) :
    OfI X vW p W B w4 (up L i) (upd val i v) w := by
  have h8 : L 8 = false := by
    rcases hx : L 8 with _ | _
    · rfl
    · have := h.c8 hx i (by omega); rw [hL] at this; cases this
  have h9 : L 9 = false := by
    rcases hx : L 9 with _ | _
    · rfl
    · have := h.c9 hx i (by omega); rw [hL] at this; cases this
  have h10 : L 10 = false := by
    rcases hx : L 10 with _ | _
    · rfl
    · have := h.c10 hx i (by omega); rw [hL] at this; cases this
  have hup : ∀ j, 6 ≤ j → up L i j = L j := fun j hj => by simp [up, show j ≠ i by omega]
  have huv : ∀ j, 6 ≤ j → upd val i v j = val j := fun j hj => by simp [upd, show j ≠ i by omega]
  have hmono : ∀ j, L j = true → up L i j = true := fun j hj => by unfold up; split <;> simp [hj]
  have hval : ∀ j (u : Value), j < 6 → (L j = true → val j = u) → (j = i → v = u) → up L i j = true → upd val i v j = u := fun j u hj h1 h2 h3 => by
    by_cases e : j = i
    · subst e; simp [upd]; exact h2 rfl
    · simp only [up, e, if_false] at h3; simp only [upd, e, if_false]; exact h1 h3
  refine ⟨hval 0 _ (by omega) h.v0 ?_, hval 1 _ (by omega) h.v1 ?_, hval 2 _ (by omega) h.v2 ?_, hval 3 _ (by omega) h.v3 ?_, hval 4 _ (by omega) h.v4 ?_, hval 5 _ (by omega) h.v5 ?_, ?_, ?_, ?_, ?_, ?_, ?_, ?_, ?_, ?_, ?_, ?_, ?_⟩
  iterate 6 (intro e; subst e; exact hv)
  · intro hx; rw [hup 6 (by omega)] at hx; rw [huv 6 (by omega)]; exact h.v6 hx
  · intro hx; rw [hup 8 (by omega), h8] at hx; cases hx
  · intro hx; rw [hup 9 (by omega), h9] at hx; cases hx
  · intro hx; rw [hup 6 (by omega)] at hx; exact hmono _ (h.c6 hx)
  · intro hx; rw [hup 7 (by omega)] at hx; exact ⟨hmono _ (h.c7 hx).1, hmono _ (h.c7 hx).2⟩
  · intro hx; rw [hup 8 (by omega), h8] at hx; cases hx
  · intro hx; rw [hup 9 (by omega), h9] at hx; cases hx
  · intro hx; rw [hup 10 (by omega), h10] at hx; cases hx
  · intro hx; rw [hup 6 (by omega)] at hx; exact h.pre hx
  · intro hx hy; rw [hup 6 (by omega)] at hx; rw [hup 7 (by omega)] at hy; exact h.mid hx hy
  · intro hx hy; rw [hup 7 (by omega)] at hx; rw [huv 7 (by omega)]; exact h.post hx h10
  · intro hx; rw [hup 10 (by omega), h10] at hx; cases hx
theorem OfI.off {X : Nat} {vW : Value} {p : Pl} {W : List Pl} {B : Nat} {w4 : World} {L : Nat → Bool} {val : Nat → Value} {w : World} (h : OfI X vW p W B w4 L val w) {i : Nat} (hi : i < 8) (hL : L i = false) : L 8 = false ∧ L 9 = false ∧ L 10 = false := by
  refine ⟨?_, ?_, ?_⟩
  · rcases hx : L 8 with _ | _
    · rfl
    · have := h.c8 hx i (by omega); rw [hL] at this; cases this
  · rcases hx : L 9 with _ | _
    · rfl
    · have := h.c9 hx i (by omega); rw [hL] at this; cases this
  · rcases hx : L 10 with _ | _
    · rfl
    · have := h.c10 hx i (by omega); rw [hL] at this; cases this
theorem OfI.s6 {X : Nat} {vW : Value} {p : Pl} {W : List Pl} {B : Nat} {w4 : World} {L : Nat → Bool} {val : Nat → Value} (h : OfI X vW p W B w4 L val w4) (hL : L 6 = false) (h5 : L 5 = true) :
    OfI X vW p W B w4 (up L 6) (upd val 6 (.slice (some ⟨w4.heap.size, 0, none⟩) 1 1)) (w4.alloc (.cells #[.int .i64 p.1, .int .i64 p.2] 65)) := by
  obtain ⟨h8, h9, h10⟩ := h.off (by omega) hL
  have h7 : L 7 = false := by
    rcases hx : L 7 with _ | _
    · rfl
    · have := (h.c7 hx).1; rw [hL] at this; cases this
  refine ⟨h.v0, h.v1, h.v2, h.v3, h.v4, h.v5, fun _ => rfl, fun hx => ?_, fun hx => ?_, fun _ => h5, fun hx => ?_, fun hx => ?_, fun hx => ?_, fun hx => ?_, fun hx => (by cases hx), fun _ _ => rfl, fun hx => ?_, fun hx => ?_⟩
  · rw [show up L 6 8 = L 8 from rfl, h8] at hx; cases hx
  · rw [show up L 6 9 = L 9 from rfl, h9] at hx; cases hx
  · rw [show up L 6 7 = L 7 from rfl, h7] at hx; cases hx
  · rw [show up L 6 8 = L 8 from rfl, h8] at hx; cases hx
  · rw [show up L 6 9 = L 9 from rfl, h9] at hx; cases hx
  · rw [show up L 6 10 = L 10 from rfl, h10] at hx; cases hx
  · rw [show up L 6 7 = L 7 from rfl, h7] at hx; cases hx
  · rw [show up L 6 10 = L 10 from rfl, h10] at hx; cases hx
theorem OfI.s7 {X : Nat} {vW : Value} {p : Pl} {W : List Pl} {B : Nat} {w4 : World} {L : Nat → Bool} {val : Nat → Value} {w w' : World} {v : Value} (h : OfI X vW p W B w4 L val w) (hL : L 7 = false) (h6 : L 6 = true) (h4 : L 4 = true) (ha : OfApp p W B w4 vW v w') :
    OfI X vW p W B w4 (up L 7) (upd val 7 v) w' := by
  obtain ⟨h8, h9, h10⟩ := h.off (by omega) hL
  refine ⟨h.v0, h.v1, h.v2, h.v3, h.v4, h.v5, h.v6, fun hx => ?_, fun hx => ?_, h.c6, fun _ => ⟨h6, h4⟩, fun hx => ?_, fun hx => ?_, fun hx => ?_, fun hx => ?_, fun _ hx => (by cases hx), fun _ _ => ha, fun hx => ?_⟩
  · rw [show up L 7 8 = L 8 from rfl, h8] at hx; cases hx
  · rw [show up L 7 9 = L 9 from rfl, h9] at hx; cases hx
  · rw [show up L 7 8 = L 8 from rfl, h8] at hx; cases hx
  · rw [show up L 7 9 = L 9 from rfl, h9] at hx; cases hx
  · rw [show up L 7 10 = L 10 from rfl, h10] at hx; cases hx
  · rw [show up L 7 6 = L 6 from rfl, h6] at hx; cases hx
  · rw [show up L 7 10 = L 10 from rfl, h10] at hx; cases hx
theorem OfI.s8 {X : Nat} {vW : Value} {p : Pl} {W : List Pl} {B : Nat} {w4 : World} {L : Nat → Bool} {val : Nat → Value} {w : World} (h : OfI X vW p W B w4 L val w) (hL : L 8 = false) (hd : ∀ j, j < 8 → L j = true) :
    OfI X vW p W B w4 (up L 8) (upd val 8 (.pointer (some ⟨X, 0, none⟩))) w := by
  have h9 : L 9 = false := by
    rcases hx : L 9 with _ | _
    · rfl
    · have := h.c9 hx 8 (by omega); rw [hL] at this; cases this
  have h10 : L 10 = false := by
    rcases hx : L 10 with _ | _
    · rfl
    · have := h.c10 hx 8 (by omega); rw [hL] at this; cases this
  refine ⟨h.v0, h.v1, h.v2, h.v3, h.v4, h.v5, h.v6, fun _ => rfl, fun hx => ?_, h.c6, h.c7, fun _ j hj => by simp [up, hd j hj], fun hx => ?_, fun hx => ?_, h.pre, h.mid, h.post, h.fin⟩
  · rw [show up L 8 9 = L 9 from rfl, h9] at hx; cases hx
  · rw [show up L 8 9 = L 9 from rfl, h9] at hx; cases hx
  · rw [show up L 8 10 = L 10 from rfl, h10] at hx; cases hx
theorem OfI.s9 {X : Nat} {vW : Value} {p : Pl} {W : List Pl} {B : Nat} {w4 : World} {L : Nat → Bool} {val : Nat → Value} {w : World} (h : OfI X vW p W B w4 L val w) (hL : L 9 = false) (hd : ∀ j, j < 9 → L j = true) :
    OfI X vW p W B w4 (up L 9) (upd val 9 (.pointer (some ⟨X, 5, none⟩))) w := by
  have h10 : L 10 = false := by
    rcases hx : L 10 with _ | _
    · rfl
    · have := h.c10 hx 9 (by omega); rw [hL] at this; cases this
  refine ⟨h.v0, h.v1, h.v2, h.v3, h.v4, h.v5, h.v6, h.v8, fun _ => rfl, h.c6, h.c7, fun _ j hj => by simp [up, hd j (by omega)], fun _ j hj => by simp [up, hd j hj], fun hx => ?_, h.pre, h.mid, h.post, h.fin⟩
  · rw [show up L 9 10 = L 10 from rfl, h10] at hx; cases hx
theorem OfI.s10 {X : Nat} {vW : Value} {p : Pl} {W : List Pl} {B : Nat} {w4 : World} {L : Nat → Bool} {val : Nat → Value} {w : World} (h : OfI X vW p W B w4 L val w) (hd : ∀ j, j < 10 → L j = true) (ha : OfApp p W B w4 vW (val 7) w) (u : Value) :
    OfI X vW p W B w4 (up L 10) (upd val 10 u) (w.setCell ⟨X, 5, none⟩ (val 7)) := by
  refine ⟨h.v0, h.v1, h.v2, h.v3, h.v4, h.v5, h.v6, h.v8, h.v9, h.c6, h.c7, fun _ j hj => by simp [up, hd j (by omega)], fun _ j hj => by simp [up, hd j (by omega)], fun _ j hj => by simp [up, hd j hj], fun hx => ?_, fun _ hx => ?_, fun _ hx => (by cases hx), fun _ => ⟨w, _, ha, rfl⟩⟩
  · rw [show up L 10 6 = L 6 from rfl, hd 6 (by omega)] at hx; cases hx
  · rw [show up L 10 7 = L 7 from rfl, hd 7 (by omega)] at hx; cases hx
def ofEnd (X : Nat) (a b d tv : Value) (σ : St) (B : Nat) (In : Nat → Prop) (p : Pl) (w : World) (e : Ending) (w' : World) : Prop :=
  ∃ bl In', e = .returned (.map (some bl)) ∧ Chart w' X a b d tv (σ.want p) B In' ∧ Eff w w' In In' ∧ In' bl ∧ ISet w' bl ((σ.want p).S p)
set_option maxRecDepth 100000 in
set_option maxHeartbeats 4000000 in
theorem of_calls (w : World) (X : Nat) (a b d tv : Value) (σ : St) (B : Nat) (In : Nat → Prop) (p : Pl) (hp : p.ok) (h : Chart w X a b d tv σ B In) (hB : B ≤ w.heap.size) (hl : (σ.W.length + 1) * 16 ≤ 140737488355328) :
    Calls Try.prog 40 #[.pointer (some ⟨X, 0, none⟩), .agg #[.int .i64 p.1, .int .i64 p.2]] w (ofEnd X a b d tv σ B In p w) := by
  obtain ⟨m, vW, E, h⟩ := h
  go_enter Try.func40, Try.ntmps40
  go_wp2
  have hb := h.box.alloc (.cells #[.int .i64 p.1, .int .i64 p.2] 65)
  have hb3 := Box.new w #[.int .i64 p.1, .int .i64 p.2] 65
  have ht1 := h.tab.keep (heap_alloc_old w (.cells #[.int .i64 p.1, .int .i64 p.2] 65) h.tab.lt)
  have hw1 : Eff w (w.alloc (.cells #[.int .i64 p.1, .int .i64 p.2] 65)) In In := ⟨rfl, rfl, rfl, by simp, fun c hc _ => heap_alloc_old w _ hc, fun c hc => .inl hc, fun c hc => hc⟩
  have hs1 : (w.alloc (.cells #[.int .i64 p.1, .int .i64 p.2] 65)).heap.size = w.heap.size + 1 := by simp
  have hold : ∀ c, c < w.heap.size → (w.alloc (.cells #[.int .i64 p.1, .int .i64 p.2] 65)).heap[c]? = w.heap[c]? := fun c hc => heap_alloc_old w _ hc
  generalize w.alloc (.cells #[.int .i64 p.1, .int .i64 p.2] 65) = w1 at *
  have h1 : ChartAt w1 X a b d tv σ B In m vW E := h.keep hw1.size fun c hc _ => hold c hc
  have hc4 := hb.cell 4 (v := .map (some m)) rfl
  have hc30 := hb3.cell 0 (v := .int .i64 p.1) rfl
  have hc31 := hb3.cell 1 (v := .int .i64 p.2) rfl
  by_cases hm : p ∈ σ.W
  · have hlook : ∀ n, (Instr.lookup 58 (.map (some m)) (.agg #[.int .i64 p.1, .int .i64 p.2]) true).run Try.prog (w1.drewN n) = .ok (.tuple #[.map (some (E p)), .bool true]) (w1.drewN n) := fun n => by
      obtain ⟨v, r1, r2, r3⟩ := TabAt.look_ok (t := 58) (e := 62) (w := w1.drewN n) (ht1.keep rfl) plKey Try.underlying58 (zeroMap _) hp
      rw [r2 hm, decide_eq_true hm] at r1; exact r1
    go_quiet (fail)
    go_wp2
    go_ret
    have e : σ.want p = σ := by unfold St.want; rw [if_pos hm]
    refine ⟨E p, In, rfl, ?_, ⟨hw1.os, hw1.tape, hw1.output, hw1.size, hw1.block, hw1.new, hw1.old⟩, h.inE p hm, ?_⟩
    · rw [e]; exact ⟨m, vW, E, h1.keep (Nat.le_refl _) fun _ _ _ => rfl⟩
    · rw [e]; exact (h1.sets p hm).keep rfl
  · have hlook : ∀ n, (Instr.lookup 58 (.map (some m)) (.agg #[.int .i64 p.1, .int .i64 p.2]) true).run Try.prog (w1.drewN n) = .ok (.tuple #[.map none, .bool false]) (w1.drewN n) := fun n => by
      obtain ⟨v, r1, r2, r3⟩ := TabAt.look_ok (t := 58) (e := 62) (w := w1.drewN n) (ht1.keep rfl) plKey Try.underlying58 (zeroMap _) hp
      rw [r3 hm, decide_eq_false hm] at r1; exact r1
    have hmk := fun (w : World) => run_makeMap (P := Try.prog) 62 w
    go_quiet (fail)
    go_wp2
    have hnew : ISet ((w1.drewN nq).alloc (.map #[] 0)) (w.heap.size + 1) [] := by rw [← hs1]; exact SetAt.new _
    have h2 : ChartAt ((w1.drewN nq).alloc (.map #[] 0)) X a b d tv σ B In m vW E := h1.keep (by simp) fun c hc _ => heap_alloc_old (w1.drewN nq) _ hc
    have hb32 : Box ((w1.drewN nq).alloc (.map #[] 0)) w.heap.size #[.int .i64 p.1, .int .i64 p.2] 65 := (show Box (w1.drewN nq) _ _ _ from hb3).alloc _
    have hs2 : ((w1.drewN nq).alloc (.map #[] 0)).heap.size = w1.heap.size + 1 := by simp
    have hold2 : ∀ c, c < w1.heap.size → ((w1.drewN nq).alloc (.map #[] 0)).heap[c]? = w1.heap[c]? := fun c hc => heap_alloc_old (w1.drewN nq) _ hc
    have hos2 : ((w1.drewN nq).alloc (.map #[] 0)).os = w1.os ∧ ((w1.drewN nq).alloc (.map #[] 0)).tape = w1.tape ∧ ((w1.drewN nq).alloc (.map #[] 0)).output = w1.output := ⟨rfl, rfl, rfl⟩
    generalize (w1.drewN nq).alloc (.map #[] 0) = w2 at *
    rename_i K hK
    refine wp_region_last 6 (by kernel_rfl) (by kernel_rfl) (by kernel_rfl) (by kernel_rfl) (by kernel_rfl) (fun j => match j with | 0 => .pointer (some ⟨X, 0, none⟩) | 1 => .pointer (some ⟨X, 0, none⟩) | 2 => .pointer (some ⟨X, 4, none⟩) | 3 => .map (some m) | 4 => .agg #[.int .i64 p.1, .int .i64 p.2] | 5 => .map (some (w.heap.size + 1)) | _ => undef) ?_ ?_
    · intro i hi oi ho
      have : i = 0 ∨ i = 1 ∨ i = 2 ∨ i = 3 ∨ i = 4 ∨ i = 5 := by omega
      have hc42 := h2.box.cell 4 (v := .map (some m)) rfl
      have q0 := hb32.cell 0 (v := .int .i64 p.1) rfl
      have q1 := hb32.cell 1 (v := .int .i64 p.2) rfl
      rcases this with rfl | rfl | rfl | rfl | rfl | rfl <;> cases ho
      · rfl
      · rfl
      · rfl
      · exact exec_load rfl rfl (by go_simp)
      · exact exec_load rfl rfl (by go_simp)
      · rfl
    · intro oi ho
      cases ho
      obtain ⟨w3, hrun, ht3, hg3⟩ := TabAt.put (t := 58) (e := 62) (w := w2.drewN 1) (h2.tab.keep rfl) plKey Try.underlying58 hp hm (by simp only [maxLen]; omega) (w.heap.size + 1)
      refine does_skip (w := w3) (exec_mapUpdate rfl rfl rfl rfl hrun) ?_
      have hb3x : Box w3 X #[a, b, d, tv, .map (some m), vW] 61 := (show Box (w2.drewN 1) _ _ _ from h2.box).grown hg3 (by intro e; injection e with e; exact h.mX e.symm)
      have hown3 : Own plT 65 B (fun c => some c = vW.ownBlock) w3 vW σ.W := (own_pl (D' := fun c => some c = vW.ownBlock) h2.own (fun k e => e.symm)).keep (w := w2) hg3.size fun c _ hc => hg3.block c (by assumption) (by intro e; injection e with e; exact h.dm (by rw [← e]; exact hc))
      have hsets3 : ∀ q ∈ σ.W, ISet w3 (E q) (σ.S q) := fun q hq => (h2.sets q hq).keep (hg3.block _ (h2.sets q hq).lt (by intro e; injection e with e; exact h.mE q hq e))
      have hnew3 : ISet w3 (w.heap.size + 1) [] := hnew.keep (hg3.block _ hnew.lt (by intro e; injection e with e; have := h.tab.lt; omega))
      have hb33 : Box w3 w.heap.size #[.int .i64 p.1, .int .i64 p.2] 65 := (show Box (w2.drewN 1) _ _ _ from hb32).grown hg3 (by intro e; injection e with e; have := h.tab.lt; omega)
      refine hK _ _ ?_
      simp [fillAll, List.range, List.range.loop, dstOf, Act.put, upd]
      go_wp2
      have hc5 := hb3x.cell 5 (v := vW) rfl
      have q30 := hb33.cell 0 (v := .int .i64 p.1) rfl
      have q31 := hb33.cell 1 (v := .int .i64 p.2) rfl
      have hX3 := hb3x.lt
      have hN3 := hb33.lt
      obtain ⟨AW, cW, rfl, _⟩ := h.own.sl
      have hBs : B ≤ (w3.drewN 1).heap.size := by have := hg3.size; simp at this ⊢; omega
      refine wp_region_inv (by kernel_rfl) (by kernel_rfl) (OfI X (.slice AW σ.W.length cW) p σ.W B (w3.drewN 1)) (fun _ => undef) ?_ ?_ ?_
      · exact ⟨by simp, by simp, by simp, by simp, by simp, by simp, by simp, by simp, by simp, by simp, by simp, by simp, by simp, by simp, fun _ => rfl, by simp, by simp, by simp⟩
      · intro i hi
        have hi7 : i < 11 := hi
        have : i = 0 ∨ i = 1 ∨ i = 2 ∨ i = 3 ∨ i = 4 ∨ i = 5 ∨ i = 6 ∨ i = 7 ∨ i = 8 ∨ i = 9 ∨ i = 10 := by omega
        rcases this with rfl | rfl | rfl | rfl | rfl | rfl | rfl | rfl | rfl | rfl | rfl
        · refine StepOb.of rfl rfl fun L val w5 hI hL hd => ?_
          exact does_value (v := .pointer (some ⟨X, 0, none⟩)) rfl (hI.read (by omega) hL rfl)
        · refine StepOb.of rfl rfl fun L val w5 hI hL hd => ?_
          exact does_value (v := .pointer (some ⟨X, 0, none⟩)) rfl (hI.read (by omega) hL rfl)
        · refine StepOb.of rfl rfl fun L val w5 hI hL hd => ?_
          exact does_value (exec_nilCheck rfl (hI.v1 (hd ⟨1, .data⟩ (by simp) rfl))) (hI.read (by omega) hL rfl)
        · refine StepOb.of rfl rfl fun L val w5 hI hL hd => ?_
          exact does_value (v := .pointer (some ⟨X, 5, none⟩)) (exec_fieldAddr rfl (hI.v2 (hd ⟨2, .data⟩ (by simp) rfl)) rfl) (hI.read (by omega) hL rfl)
        · refine StepOb.of rfl rfl fun L val w5 hI hL hd => ?_
          have hL7 : L 7 = false := by
            rcases hx : L 7 with _ | _
            · rfl
            · have := (hI.c7 hx).2; rw [hL] at this; cases this
          have hcell : w5.cell? ⟨X, 5, none⟩ = some (.slice AW σ.W.length cW) := by
            rcases hx : L 6 with _ | _
            · rw [hI.pre hx]; exact hc5
            · rw [hI.mid hx hL7]; exact ((show Box (w3.drewN 1) _ _ _ from hb3x).alloc _).cell 5 rfl
          exact does_value (exec_load rfl (hI.v3 (hd ⟨3, .data⟩ (by simp) rfl)) (by go_simp)) (hI.read (by omega) hL rfl)
        · refine StepOb.of rfl rfl fun L val w5 hI hL hd => ?_
          have hL6 : L 6 = false := by
            rcases hx : L 6 with _ | _
            · rfl
            · have := hI.c6 hx; rw [hL] at this; cases this
          have hw := hI.pre hL6
          subst hw
          exact does_value (v := .agg #[.int .i64 p.1, .int .i64 p.2]) (w := w3.drewN 1) (exec_load rfl rfl (by go_simp)) (hI.read (by omega) hL rfl)
        · refine StepOb.of rfl rfl fun L val w5 hI hL hd => ?_
          have hw := hI.pre hL
          subst hw
          have h5 := hd ⟨5, .data⟩ (by simp) rfl
          refine does_value (exec_buildSlice (A := #[(0, .agg #[.int .i64 p.1, .int .i64 p.2])]) rfl (by simp; exact hI.v5 h5) ?_) (hI.s6 hL h5)
          go_simp
        · refine StepOb.of rfl rfl fun L val w5 hI hL hd => ?_
          have h4 := hd ⟨4, .data⟩ (by simp) rfl
          have h6 := hd ⟨6, .data⟩ (by simp) rfl
          have hw := hI.mid h6 hL
          subst hw
          obtain ⟨v1, wa, hrun, hown, hgr, hat⟩ := run_app (P := Try.prog) (W := w3.drewN 1) 59 16 59 elemPl p #[.int .i64 p.1, .int .i64 p.2] (D := fun c => some c = (Value.slice AW σ.W.length cW).ownBlock ∨ (w3.drewN 1).heap.size ≤ c) ((own_pl hown3 (fun k e => .inl e.symm)).drewN 1) (fun b hb => .inr hb) (pl_far _ _ p hp) hBs hl
          exact does_value (exec_append rfl (hI.v4 h4) (hI.v6 h6) hrun) (hI.s7 hL h6 h4 ⟨hown, hgr, hat⟩)
        · refine StepOb.of rfl rfl fun L val w5 hI hL hd => ?_
          refine does_value (exec_nilCheck rfl (hI.v0 (hd ⟨0, .data⟩ (by simp) rfl))) (hI.s8 hL fun j hj => ?_)
          have : j = 0 ∨ j = 1 ∨ j = 2 ∨ j = 3 ∨ j = 4 ∨ j = 5 ∨ j = 6 ∨ j = 7 := by omega
          rcases this with rfl | rfl | rfl | rfl | rfl | rfl | rfl | rfl <;> exact hd ⟨_, .phase⟩ (by simp) rfl
        · refine StepOb.of rfl rfl fun L val w5 hI hL hd => ?_
          have h8 := hd ⟨8, .data⟩ (by simp) rfl
          refine does_value (v := .pointer (some ⟨X, 5, none⟩)) (exec_fieldAddr rfl (hI.v8 h8) rfl) (hI.s9 hL fun j hj => ?_)
          by_cases e : j = 8
          · subst e; exact h8
          · exact hI.c8 h8 j (by omega)
        · refine StepOb.of rfl rfl fun L val w5 hI hL hd => ?_
          have h9 := hd ⟨9, .data⟩ (by simp) rfl
          have h7 := hd ⟨7, .data⟩ (by simp) rfl
          have ha := hI.post h7 hL
          have hbX : Box w5 X #[a, b, d, tv, .map (some m), .slice AW σ.W.length cW] 61 := (show Box (w3.drewN 1) _ _ _ from hb3x).grown ha.2.1 h.dX
          have x5 := hbX.cell 5 (v := .slice AW σ.W.length cW) rfl
          have xf := hbX.frozen 5
          obtain ⟨Av, cv, e7, _⟩ := ha.1.sl
          refine does_skip (exec_store rfl (hI.v9 h9) rfl ?_) (hI.s10 (fun j hj => ?_) ha undef)
          · show (storeVar _ _ (val 7)).run _ _ = _
            rw [e7]; go_simp
          · by_cases e : j = 9
            · subst e; exact h9
            · exact hI.c9 h9 j (by omega)
      · intro val w5 hI
        obtain ⟨wq, v, ha, rfl⟩ := hI.fin rfl
        simp [fillAll, List.range, List.range.loop, dstOf, Act.put]
        go_wp2
        go_ret
        have hin : ∀ k, (Value.slice AW σ.W.length cW).ownBlock = some k → In k := h.own.inD
        have hsq : w3.heap.size ≤ wq.heap.size := ha.2.1.size
        have hs3 : w2.heap.size ≤ w3.heap.size := hg3.size
        have hXlt := h.box.lt
        have hmlt := h.tab.lt
        have hfs : (wq.setCell ⟨X, 5, none⟩ v).heap.size = wq.heap.size := by simp [World.setCell]
        have hkF : ∀ c, c < w3.heap.size → c ≠ X → some c ≠ (Value.slice AW σ.W.length cW).ownBlock → (wq.setCell ⟨X, 5, none⟩ v).heap[c]? = w3.heap[c]? := fun c h1 h2 h3 => by
          rw [Below.heap_setCell _ _ _ _ (by simpa using h2)]; exact ha.2.1.block c h1 h3
        have hvb : ∀ k, v.ownBlock = some k → In k ∨ (w.heap.size + 1 ≤ k ∧ k < wq.heap.size) := fun k hk => by
          have hlt := (ha.1.lt k hk).2
          rcases ha.2.2 with e | ⟨b', e, hb'⟩
          · exact .inl (hin k (by rw [← e]; exact hk))
          · rw [e] at hk; injection hk with hk; subst hk
            refine .inr ⟨?_, hlt⟩
            have : w3.heap.size ≤ b' := hb'
            omega
        have hvne : ∀ c, c < w3.heap.size → some c ≠ (Value.slice AW σ.W.length cW).ownBlock → some c ≠ v.ownBlock := fun c h1 h2 e => by
          rcases ha.2.2 with e2 | ⟨b', e2, hb'⟩
          · exact h2 (by rw [← e2]; exact e)
          · rw [e2] at e; injection e with e; have : w3.heap.size ≤ b' := hb'; omega
        have hEw : ∀ q ∈ σ.W, E q < w.heap.size := fun q hq => (h.sets q hq).lt
        have hWp : ∀ q ∈ σ.W, q ≠ p := fun q hq e => hm (e ▸ hq)
        have hN0 : some (w.heap.size + 1) ≠ (Value.slice AW σ.W.length cW).ownBlock := fun e => by have := (h.own.lt _ e.symm).2; omega
        have ew : σ.want p = ⟨σ.W ++ [p], fun q => if q = p then [] else σ.S q⟩ := by unfold St.want; rw [if_neg hm]
        have hsN : ISet (wq.setCell ⟨X, 5, none⟩ v) (w.heap.size + 1) [] := hnew3.keep (hkF _ (by omega) (by omega) hN0)
        refine ⟨w.heap.size + 1, fun c => In c ∨ (w.heap.size + 1 ≤ c ∧ c < wq.heap.size), rfl, ?_, ?_, .inr ⟨Nat.le_refl _, by omega⟩, ?_⟩
        · rw [ew]
          refine ⟨m, v, setE E p (w.heap.size + 1), ?_⟩
          have hset : ∀ q ∈ σ.W, setE E p (w.heap.size + 1) q = E q := fun q hq => by unfold setE; rw [if_neg (hWp q hq)]
          have hsetp : setE E p (w.heap.size + 1) p = w.heap.size + 1 := by unfold setE; rw [if_pos rfl]
          have hmem : ∀ q, q ∈ σ.W ++ [p] → q ∈ σ.W ∨ q = p := fun q hq => by simpa using hq
          refine ⟨((show Box (w3.drewN 1) _ _ _ from hb3x).grown ha.2.1 h.dX).set 5 v, ?_, ht3.keep (hkF _ (by omega) h.mX h.dm), ?_, .inl h.inX, .inl h.inm, ?_, hvne _ (by omega) h.dX, hvne _ (by omega) h.dm, ?_, h.mX, ?_, ?_, ?_, ?_, ?_⟩
          · refine own_pl (ha.1.setCell (p := ⟨X, 5, none⟩) ?_ v) (fun k hk => hvb k hk)
            intro hx
            rcases hx with hx | hx
            · exact h.dX hx
            · have : w3.heap.size ≤ X := hx; omega
          · intro q hq
            rcases hmem q hq with hq | rfl
            · rw [hset q hq]; simp only [hWp q hq, if_false]
              exact (hsets3 q hq).keep (hkF _ (by have := hEw q hq; omega) (h.EX q hq) (h.dE q hq))
            · rw [hsetp]; simpa using hsN
          · intro q hq
            rcases hmem q hq with hq | rfl
            · rw [hset q hq]; exact .inl (h.inE q hq)
            · rw [hsetp]; exact .inr ⟨Nat.le_refl _, by omega⟩
          · intro q hq
            rcases hmem q hq with hq | rfl
            · rw [hset q hq]; exact hvne _ (by have := hEw q hq; omega) (h.dE q hq)
            · rw [hsetp]; exact hvne _ (by omega) hN0
          · intro q hq
            rcases hmem q hq with hq | rfl
            · rw [hset q hq]; exact h.mE q hq
            · rw [hsetp]; omega
          · intro q hq
            rcases hmem q hq with hq | rfl
            · rw [hset q hq]; exact h.EX q hq
            · rw [hsetp]; omega
          · intro q hq r hr
            rcases hmem q hq with q1 | q1 <;> rcases hmem r hr with r1 | r1
            · rw [hset q q1, hset r r1]; exact h.EE q q1 r r1
            · rw [hset q q1, r1, hsetp]; intro e; have := hEw q q1; omega
            · rw [hset r r1, q1, hsetp]; intro e; have := hEw r r1; omega
            · intro _; rw [q1, r1]
          · intro c hc
            rcases hc with hc | hc
            · exact h.lb c hc
            · omega
          · intro c hc
            rw [hfs]
            rcases hc with hc | hc
            · have := h.ub c hc; omega
            · exact hc.2
        · refine ⟨?_, ?_, ?_, by rw [hfs]; omega, ?_, fun c hc => ?_, fun c hc => .inl hc⟩
          · show wq.os = w.os
            rw [ha.2.1.os]; show w3.os = _; rw [hg3.os]; show w2.os = _; rw [hos2.1, hw1.os]
          · show wq.tape = w.tape
            rw [ha.2.1.tape]; show w3.tape = _; rw [hg3.tape]; show w2.tape = _; rw [hos2.2.1, hw1.tape]
          · show wq.output = w.output
            rw [ha.2.1.output]; show w3.output = _; rw [hg3.output]; show w2.output = _; rw [hos2.2.2, hw1.output]
          · intro c hc hnc
            rw [hkF c (by omega) (fun e => hnc (e ▸ h.inX)) (fun e => hnc (hin c e.symm))]
            rw [hg3.block c (by show c < w2.heap.size; omega) (by intro e; injection e with e; exact hnc (e ▸ h.inm))]
            show w2.heap[c]? = _
            rw [hold2 c (by omega), hold c hc]
          · rcases hc with hc | hc
            · exact .inl hc
            · refine .inr ⟨by omega, by rw [hfs]; exact hc.2⟩
        · rw [ew]; simpa using hsN
end Go.Proofs.Ytgjobbapnileiaa
