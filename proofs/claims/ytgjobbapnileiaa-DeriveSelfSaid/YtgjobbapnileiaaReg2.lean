/- A region whose operations but the last only read. -/
import Derived.Test.YtgjobbapnileiaaReg
set_option linter.unusedVariables false
set_option linter.unusedSimpArgs false
namespace Gk
open Go Go.RowKit
section
variable {P : Program} {ops : Array Oper} {Q : Exit → Act → World → Prop}
theorem opv_congr {n : Nat} (h : regOk ops n = true) {a0 : Act} {L : Nat → Bool} {val vals : Nat → Value} {i : Nat} {o : Oper} (hi : ops[i]? = some o) (hd : ∀ e ∈ o.after, Region.binds .any e = true → L e.on = true) (hv : ∀ j, L j = true → val j = vals j) :
    execOp (opv ops a0 val) o = execOp (opv ops a0 vals) o := by
  obtain ⟨h1, h2, h3, h4, h5, h6⟩ := regOk_at h hi
  refine execOp_congr o h5 fun x hx => ?_
  cases x with
  | tmp t =>
    unfold opv
    show (match dstIdx ops t with | some j => val j | none => a0.tmps.getD t undef) = (match dstIdx ops t with | some j => vals j | none => a0.tmps.getD t undef)
    split
    · rename_i j hj
      obtain ⟨e, he, hej, hb⟩ := h4 t j hx hj
      exact hv j (by rw [← hej]; exact hd e he hb)
    · rfl
  | const v => rfl
  | global g => rfl
  | func f => rfl
theorem fillAll_congr {val vals : Nat → Value} (a0 : Act) (h : ∀ j, j < ops.size → val j = vals j) : fillAll ops val a0 = fillAll ops vals a0 := by
  unfold fillAll
  have : ∀ (l : List Nat) (a : Act), (∀ j ∈ l, j < ops.size) → l.foldl (fun a j => a.put (dstOf ops j) (val j)) a = l.foldl (fun a j => a.put (dstOf ops j) (vals j)) a := by
    intro l
    induction l with
    | nil => intro a _; rfl
    | cons x l ih =>
      intro a hl
      simp only [List.foldl_cons]
      rw [h x (hl x (by simp))]
      exact ih _ fun j hj => hl j (by simp [hj])
  exact this _ _ fun j hj => List.mem_range.1 hj
def noGuards (l : List Oper) : Bool := l.all fun o => o.guard.isNone
def lastAll (l : List Oper) (n : Nat) : Bool := match l[n]? with | some o => (List.range n).all fun i => o.after.toList.any fun e => e.on == i && Region.binds .any e | none => false
structure LastI (n : Nat) (vals : Nat → Value) (w1 : World) (K : Value → World → Prop) (L : Nat → Bool) (val : Nat → Value) (w : World) : Prop where
  v : ∀ i, i < n → L i = true → val i = vals i
  pre : L n = false → w = w1
  post : L n = true → K (val n) w
  c : L n = true → ∀ i, i < n → L i = true
theorem guard_none {l : List Oper} (h : noGuards l = true) {i : Nat} {o : Oper} (hi : l[i]? = some o) : o.guard = none := by
  have := List.all_eq_true.1 h o (List.mem_of_getElem? hi)
  simpa using this
theorem wp_region_last {id : Nat} {l : List Oper} (n : Nat) {a0 : Act} {w : World} (hn : l.length = n + 1) (hm : P.follows .mixedOrders = true) (h : regOk l.toArray a0.tmps.size = true) (hng : noGuards l = true) (hlast : lastAll l n = true) (vals : Nat → Value)
    (hp : ∀ i, i < n → ∀ oi, l[i]? = some oi → (execOp (opv l.toArray a0 vals) oi).run P (w.drewN 1) = .ok (.value (vals i)) (w.drewN 1))
    (hl : ∀ oi, l[n]? = some oi → does P ((execOp (opv l.toArray a0 vals) oi).run P (w.drewN 1)) (fun v w' => Q .normal (fillAll l.toArray (upd vals n v) a0) w')) :
    (Code.region id l.toArray true).wp P Q a0 w := by
  refine wp_region_inv hm h (LastI n vals (w.drewN 1) (fun v w' => Q .normal (fillAll l.toArray (upd vals n v) a0) w')) (fun _ => undef) ⟨by simp, fun _ => rfl, by simp, by simp⟩ ?_ ?_
  · intro i hi o ho L val w2 hI hL hd
    have hol : l[i]? = some o := by simpa using ho
    rw [guard_none hng hol]
    rw [if_pos (by rfl)]
    by_cases hin : i < n
    · have hLn : L n = false := by
        rcases hx : L n with _ | _
        · rfl
        · have := hI.c hx i hin; rw [hL] at this; cases this
      have hw := hI.pre hLn
      subst hw
      have hv : ∀ j, L j = true → val j = vals j ∨ n < j := fun j hj => by
        by_cases hjn : j < n
        · exact .inl (hI.v j hjn hj)
        · rcases Nat.lt_or_eq_of_le (Nat.le_of_not_lt hjn) with h | h
          · exact .inr h
          · subst h; rw [hLn] at hj; cases hj
      have hcg : execOp (opv l.toArray a0 val) o = execOp (opv l.toArray a0 vals) o := by
        have : execOp (opv l.toArray a0 val) o = execOp (opv l.toArray a0 vals) o := by
          refine opv_congr (L := fun j => L j && decide (j < n)) h ho (fun e he hb => ?_) (fun j hj => ?_)
          · have hlt := (regOk_at h ho).2.1 e he
            simp [hd e he hb, show e.on < n by omega]
          · simp only [Bool.and_eq_true, decide_eq_true_eq] at hj
            exact hI.v j hj.2 hj.1
        exact this
      rw [hcg]
      refine does_value (hp i hin o hol) ⟨fun j hj hLj => ?_, fun _ => rfl, fun hx => ?_, fun hx => ?_⟩
      · by_cases e : j = i
        · subst e; simp [upd]
        · simp only [up, e, if_false] at hLj; simp [upd, e, hI.v j hj hLj]
      · simp only [up, show n ≠ i by omega, if_false] at hx; rw [hLn] at hx; cases hx
      · simp only [up, show n ≠ i by omega, if_false] at hx; rw [hLn] at hx; cases hx
    · have hil : i < l.length := hi
      have hin : i = n := by omega
      subst hin
      have hall : ∀ j, j < i → L j = true := fun j hj => by
        unfold lastAll at hlast
        rw [hol] at hlast
        have := List.all_eq_true.1 hlast j (List.mem_range.2 hj)
        obtain ⟨e, he, h2⟩ := List.any_eq_true.1 this
        simp at h2
        have := hd e (Array.mem_toList_iff.1 he) h2.2
        rw [h2.1] at this; exact this
      have hw := hI.pre hL
      subst hw
      have hcg : execOp (opv l.toArray a0 val) o = execOp (opv l.toArray a0 vals) o := by
        refine opv_congr (L := fun j => decide (j < i)) h ho (fun e he hb => ?_) (fun j hj => ?_)
        · have hlt := (regOk_at h ho).2.1 e he
          simpa using hlt
        · have hj : j < i := by simpa using hj
          exact hI.v j hj (hall j hj)
      rw [hcg]
      have hK := hl o hol
      generalize hr : (execOp (opv l.toArray a0 vals) o).run P (w.drewN 1) = r at hK
      have hfin : ∀ v w', Q .normal (fillAll l.toArray (upd vals i v) a0) w' → LastI i vals (w.drewN 1) (fun v w' => Q .normal (fillAll l.toArray (upd vals i v) a0) w') (up L i) (upd val i v) w' := fun v w' hq =>
        ⟨fun j hj _ => by simp [upd, show j ≠ i by omega, hI.v j hj (hall j hj)], fun hx => by simp [up] at hx, fun _ => by simpa [upd] using hq, fun _ j hj => by simp [up, hall j hj]⟩
      cases r with
      | ok nx w' =>
        cases nx <;> simp only [does] at hK ⊢
        case value v => exact hfin _ _ hK
        case skip => exact hfin _ _ hK
        case enter f args => exact hK.mono fun e w'' ⟨v, he, hq⟩ => ⟨v, he, hfin _ _ hq⟩
      | halt x w' => cases x <;> simp only [does] at hK
  · intro val w2 hI
    have hnl : n < l.length := by omega
    have := hI.post (by simp [hnl])
    have e : fillAll l.toArray (upd vals n (val n)) a0 = fillAll l.toArray val a0 := fillAll_congr a0 fun j hj => by
      have hj : j < l.length := by simpa using hj
      by_cases e : j = n
      · subst e; simp [upd]
      · simp [upd, e, hI.v j (by omega) (by simp [hj])]
    rw [e] at this; exact this
theorem exec_mapUpdate {ρ : Operand → Value} {o : Oper} {t : TypeId} {x y z : Operand} {vx vy vz : Value} {w w' : World} (ho : o.op = .mapUpdate t x y z) (hx : ρ x = vx) (hy : ρ y = vy) (hz : ρ z = vz) (hr : (Instr.mapUpdate t vx vy vz).run P w = .ok () w') : (execOp ρ o).run P w = .ok .skip w' := by
  unfold execOp
  simp only [ho, hx, hy, hz, Sem.run_bind, Sem.run_pure, Result.andThen_ok, hr]
theorem exec_buildSlice {ρ : Operand → Value} {o : Oper} {t : TypeId} {n : Nat} {ps : Array (Nat × Operand)} {A : Array (Nat × Value)} {v : Value} {w w' : World} (ho : o.op = .buildSlice t n ps) (hA : (ps.map fun (i, x) => (i, ρ x)) = A) (hr : (Instr.buildSlice t n A).run P w = .ok v w') : (execOp ρ o).run P w = .ok (.value v) w' := by
  unfold execOp
  simp only [ho, hA, Sem.run_bind, Sem.run_pure, Result.andThen_ok, hr]
theorem exec_lookup {ρ : Operand → Value} {o : Oper} {t : TypeId} {x y : Operand} {c : Bool} {vx vy v : Value} {w w' : World} (ho : o.op = .lookup t x y c) (hx : ρ x = vx) (hy : ρ y = vy) (hr : (Instr.lookup t vx vy c).run P w = .ok v w') : (execOp ρ o).run P w = .ok (.value v) w' := by
  unfold execOp
  simp only [ho, hx, hy, Sem.run_bind, Sem.run_pure, Result.andThen_ok, hr]
theorem exec_nilCheck {ρ : Operand → Value} {o : Oper} {x : Operand} {a : Addr} {w : World} (ho : o.op = .nilCheck x) (hx : ρ x = .pointer (some a)) : (execOp ρ o).run P w = .ok (.value (.pointer (some a))) w := by
  unfold execOp
  simp only [ho, hx, Sem.run_pure]
theorem exec_fieldAddr {ρ : Operand → Value} {o : Oper} {s : TypeId} {x : Operand} {f : Nat} {vx v : Value} {w w' : World} (ho : o.op = .fieldAddr s x f) (hx : ρ x = vx) (hr : (Instr.fieldAt s vx f).run P w = .ok v w') : (execOp ρ o).run P w = .ok (.value v) w' := by
  unfold execOp
  simp only [ho, hx, Sem.run_bind, Sem.run_pure, Result.andThen_ok, hr]
end
end Gk
