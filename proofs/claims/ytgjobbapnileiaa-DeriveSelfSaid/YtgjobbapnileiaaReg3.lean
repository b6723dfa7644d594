/- A region whose operations only read what is old and lay what is new. -/
import Derived.Test.YtgjobbapnileiaaReg2
set_option linter.unusedVariables false
set_option linter.unusedSimpArgs false
namespace Gk
open Go Go.RowKit
section
variable {P : Program} {Q : Exit → Act → World → Prop}
theorem does_mono {r : Result Next} {K K' : Value → World → Prop} (h : does P r K) (hk : ∀ v w, K v w → K' v w) : does P r K' := by
  cases r with
  | ok nx w' =>
    cases nx <;> simp only [does] at h ⊢
    case value v => exact hk _ _ h
    case skip => exact hk _ _ h
    case enter f args => exact h.mono fun e w'' ⟨v, he, hq⟩ => ⟨v, he, hk _ _ hq⟩
  | halt x w' => cases x <;> simp only [does] at h
theorem wp_region_grow {id : Nat} {l : List Oper} {a0 : Act} {w : World} (hm : P.follows .mixedOrders = true) (h : regOk l.toArray a0.tmps.size = true) (hng : noGuards l = true) (V : Nat → Value → World → Prop)
    (hV : ∀ i v w w', V i v w → Below w.heap.size w w' → V i v w')
    (hstep : ∀ i o, l[i]? = some o → ∀ (val : Nat → Value) (w2 : World), Below w.heap.size w w2 → (∀ j, (∃ e ∈ o.after.toList, e.on = j ∧ Region.binds .any e = true) → V j (val j) w2) → does P ((execOp (opv l.toArray a0 val) o).run P w2) (fun v w' => Below w2.heap.size w2 w' ∧ V i v w'))
    (hend : ∀ (val : Nat → Value) (w2 : World), Below w.heap.size w w2 → (∀ i, i < l.length → V i (val i) w2) → Q .normal (fillAll l.toArray val a0) w2) :
    (Code.region id l.toArray true).wp P Q a0 w := by
  refine wp_region_inv hm h (fun L val w2 => Below w.heap.size w w2 ∧ ∀ i, i < l.length → L i = true → V i (val i) w2) (fun _ => undef) ⟨below_drewN (Below.refl _ _) 1, fun i _ hL => by simp at hL⟩ ?_ ?_
  · intro i hi o ho L val w2 hI hL hd
    have hol : l[i]? = some o := by simpa using ho
    have hil : i < l.length := hi
    rw [guard_none hng hol, if_pos (by rfl)]
    refine does_mono (hstep i o hol val w2 hI.1 fun j hj => ?_) fun v w' hv => ?_
    · obtain ⟨e, he, rfl, hb⟩ := hj
      have hlt := (regOk_at h ho).2.1 e (Array.mem_toList_iff.1 he)
      exact hI.2 _ (by omega) (hd e (Array.mem_toList_iff.1 he) hb)
    · refine ⟨below2 hI.1 hv.1, fun j hj hLj => ?_⟩
      by_cases e : j = i
      · subst e; simpa [upd] using hv.2
      · simp only [up, e, if_false] at hLj
        have := hI.2 j hj hLj
        simpa [upd, e] using hV _ _ _ _ this hv.1
  · intro val w2 hI
    exact hend val w2 hI.1 fun i hi => hI.2 i hi (by simp [hi])
/-- the same, with guards -/
theorem wp_region_growG {id : Nat} {l : List Oper} {a0 : Act} {w : World} (hm : P.follows .mixedOrders = true) (h : regOk l.toArray a0.tmps.size = true) (V : Nat → Value → World → Prop)
    (hV : ∀ i v w w', V i v w → Below w.heap.size w w' → V i v w')
    (hstep : ∀ i o, l[i]? = some o → ∀ (val : Nat → Value) (w2 : World), Below w.heap.size w w2 → (∀ j, (∃ e ∈ o.after.toList, e.on = j ∧ Region.binds .any e = true) → V j (val j) w2) → if guardv val l.toArray o.guard = true then does P ((execOp (opv l.toArray a0 val) o).run P w2) (fun v w' => Below w2.heap.size w2 w' ∧ V i v w') else V i undef w2)
    (hend : ∀ (val : Nat → Value) (w2 : World), Below w.heap.size w w2 → (∀ i, i < l.length → V i (val i) w2) → Q .normal (fillAll l.toArray val a0) w2) :
    (Code.region id l.toArray true).wp P Q a0 w := by
  refine wp_region_inv hm h (fun L val w2 => Below w.heap.size w w2 ∧ ∀ i, i < l.length → L i = true → V i (val i) w2) (fun _ => undef) ⟨below_drewN (Below.refl _ _) 1, fun i _ hL => by simp at hL⟩ ?_ ?_
  · intro i hi o ho L val w2 hI hL hd
    have hol : l[i]? = some o := by simpa using ho
    have hil : i < l.length := hi
    have hs := hstep i o hol val w2 hI.1 fun j hj => by
      obtain ⟨e, he, rfl, hb⟩ := hj
      have hlt := (regOk_at h ho).2.1 e (Array.mem_toList_iff.1 he)
      exact hI.2 _ (by omega) (hd e (Array.mem_toList_iff.1 he) hb)
    split at hs
    · rename_i hg
      rw [if_pos hg]
      refine does_mono hs fun v w' hv => ⟨below2 hI.1 hv.1, fun j hj hLj => ?_⟩
      by_cases e : j = i
      · subst e; simpa [upd] using hv.2
      · simp only [up, e, if_false] at hLj
        have := hI.2 j hj hLj
        simpa [upd, e] using hV _ _ _ _ this hv.1
    · rename_i hg
      rw [if_neg hg]
      refine ⟨hI.1, fun j hj hLj => ?_⟩
      by_cases e : j = i
      · subst e; simpa [upd] using hs
      · simp only [up, e, if_false] at hLj
        have := hI.2 j hj hLj
        simpa [upd, e] using this
  · intro val w2 hI
    exact hend val w2 hI.1 fun i hi => hI.2 i hi (by simp [hi])
theorem exec_box {ρ : Operand → Value} {o : Oper} {t : TypeId} {x : Operand} {v u : Value} {w w' : World} (ho : o.op = .box t x) (hx : ρ x = v) (hr : (Instr.box t v).run P w = .ok u w') : (execOp ρ o).run P w = .ok (.value u) w' := by
  unfold execOp
  simp only [ho, hx, Sem.run_bind, Sem.run_pure, Result.andThen_ok, hr]
theorem exec_makeSlice {ρ : Operand → Value} {o : Oper} {t : TypeId} {x y : Operand} {vx vy u : Value} {w w' : World} (ho : o.op = .makeSlice t x y) (hx : ρ x = vx) (hy : ρ y = vy) (hr : (Instr.makeSlice t vx vy).run P w = .ok u w') : (execOp ρ o).run P w = .ok (.value u) w' := by
  unfold execOp
  simp only [ho, hx, hy, Sem.run_bind, Sem.run_pure, Result.andThen_ok, hr]
theorem exec_len {ρ : Operand → Value} {o : Oper} {x : Operand} {t : TypeId} {v u : Value} {w w' : World} (ho : o.op = .call { callee := .builtin .len, args := #[x], argTypes := #[t] }) (hx : ρ x = v) (hr : (Builtin.len_ #[t] o.type #[v]).run P w = .ok u w') : (execOp ρ o).run P w = .ok (.value u) w' := by
  unfold execOp
  simp only [ho, resolve, invoke, builtin, Sem.run_bind, Sem.run_pure, Result.andThen_ok, List.map_toArray, List.map_cons, List.map_nil, hx, hr]
end
end Gk
