/- A region of open order in which a slot may be read before its writer, and edges that bind nothing may look ahead. -/
import Derived.Test.YtigbfankkmmnbaaZ08
set_option linter.unusedVariables false
set_option linter.unusedSimpArgs false
namespace Gk
open Go Go.RowKit
section
variable {P : Program} {ops : Array Oper} {Q : Exit → Act → World → Prop}
/-- each slot is filled by one operation, guards and edges look back, no select -/
def regOk7 (ops : Array Oper) (n : Nat) : Bool :=
  (List.range ops.size).all fun j => match ops[j]? with
    | none => false
    | some o => (match o.dst with | some t => dstIdx ops t == some j && decide (t < n) | none => true) && o.after.toList.all (fun e => !Region.binds .any e || decide (e.on < j)) &&
      (match o.guard with | some (g, _) => o.after.toList.any (fun e => e.on == g && Region.binds .any e) | none => true) &&
      o.op.operands.toList.all (fun x => match x with | .tmp t => (match dstIdx ops t with | some k => o.after.toList.any (fun e => e.on == k && Region.binds .any e) || late ops j k | none => true) | _ => true) &&
      (match o.op with | .select .. => false | .defer .. => false | _ => true)
def StepOb7 (P : Program) (ops : Array Oper) (a0 : Act) (I : (Nat → Bool) → (Nat → Value) → World → Prop) (i : Nat) : Prop :=
  ∀ o, ops[i]? = some o → ∀ L val w, I L val w → L i = false → (∀ e ∈ o.after, Region.binds .any e = true → L e.on = true) →
    if guardv val ops o.guard = true then does P ((execOp (opv4 ops a0 val i) o).run P w) (fun v w' => I (up L i) (upd val i v) w') else I (up L i) (upd val i undef) w
theorem regOk7_at {n : Nat} (h : regOk7 ops n = true) {j : Nat} {o : Oper} (hj : ops[j]? = some o) :
    (∀ t : Nat, o.dst = some t → dstIdx ops t = some j ∧ t < n) ∧ (∀ e ∈ o.after, Region.binds .any e = true → e.on < j) ∧ (∀ g b, o.guard = some (g, b) → ∃ e ∈ o.after, e.on = g ∧ Region.binds .any e = true) ∧
    (∀ t k, .tmp t ∈ o.op.operands → dstIdx ops t = some k → (∃ e ∈ o.after, e.on = k ∧ Region.binds .any e = true) ∨ late ops j k = true) ∧ (∀ cs b, o.op ≠ .select cs b) ∧ (∀ c, o.op ≠ .defer c) := by
  have hlt : j < ops.size := (Array.getElem?_eq_some_iff.1 hj).1
  have h1 := List.all_eq_true.1 h j (List.mem_range.2 hlt)
  rw [hj] at h1
  simp only [Bool.and_eq_true] at h1
  obtain ⟨⟨⟨⟨h1, h2⟩, h3⟩, h4⟩, h5⟩ := h1
  refine ⟨fun t ht => ?_, fun e he hb9 => ?_, fun g b hg => ?_, fun t k ht hk => ?_, fun cs b hs => ?_, fun c hc => ?_⟩
  · rw [ht] at h1; simp at h1; exact h1
  · have := List.all_eq_true.1 h2 e (Array.mem_toList_iff.2 he); rw [hb9] at this; simpa using this
  · rw [hg] at h3
    obtain ⟨e, he, h3⟩ := List.any_eq_true.1 h3
    simp at h3; exact ⟨e, Array.mem_toList_iff.1 he, h3.1, h3.2⟩
  · have h4 := List.all_eq_true.1 h4 _ (Array.mem_toList_iff.2 ht)
    simp only [hk] at h4
    rcases Bool.or_eq_true_iff.1 h4 with h4 | h4
    · obtain ⟨e, he, h4⟩ := List.any_eq_true.1 h4
      simp at h4; exact .inl ⟨e, Array.mem_toList_iff.1 he, h4.1, h4.2⟩
    · exact .inr h4
  · rw [hs] at h5; simp at h5
  · rw [hc] at h5; simp at h5

theorem Fr.put7 {n : Nat} (h : regOk7 ops n = true) {a0 a : Act} {L : Nat → Bool} {val : Nat → Value} (hn : n ≤ a0.tmps.size) (hf : Fr ops a0 L val a) {i : Nat} {o : Oper} (hi : ops[i]? = some o) (v : Value) : Fr ops a0 (up L i) (upd val i v) (a.put o.dst v) := by
  obtain ⟨h1, h2, h3, h4, h5⟩ := regOk7_at h hi
  have hother : ∀ t, o.dst ≠ some t → slotv ops a0 (up L i) (upd val i v) t = slotv ops a0 L val t := by
    intro t ht
    unfold slotv
    split
    · rename_i j hj
      have hji : j ≠ i := by
        rintro rfl
        have := List.find?_some hj
        simp [dstOf, hi] at this
        exact ht this
      simp [up, upd, hji]
    · rfl
  cases hd : o.dst with
  | none => exact ⟨hf.defers, hf.size, fun t => by rw [hother t (by simp [hd])]; exact hf.slot t⟩
  | some d =>
    obtain ⟨e1, e2⟩ := h1 d hd
    refine ⟨hf.defers, by simp [Act.put, hf.size], fun t => ?_⟩
    by_cases htd : t = d
    · subst htd
      have hsz : t < a.tmps.size := by rw [hf.size]; exact Nat.lt_of_lt_of_le e2 hn
      simp [Act.put, slotv, e1, up, upd, Array.getD_eq_getD_getElem?, hsz]
    · rw [hother t (by rw [hd]; intro e; injection e with e; exact htd e.symm), ← hf.slot t]
      simp only [Act.put, Array.getD_eq_getD_getElem?]
      rw [Array.getElem?_setIfInBounds_ne (by intro e; exact htd e.symm)]

theorem Fr.exec7 {n : Nat} (h : regOk7 ops n = true) {a0 a : Act} {L : Nat → Bool} {val : Nat → Value} (hf : Fr ops a0 L val a) {i : Nat} {o : Oper} (hi : ops[i]? = some o) (hL : ∀ e ∈ o.after, Region.binds .any e = true → L e.on = true) (hLi : L i = false) (hcl : ∀ k o, ops[k]? = some o → L k = true → ∀ e ∈ o.after, Region.binds .any e = true → L e.on = true) :
    execOp a.eval o = execOp (opv4 ops a0 val i) o := by
  obtain ⟨h1, h2, h3, h4, h5, h6⟩ := regOk7_at h hi
  refine execOp_congr o h5 fun x hx => ?_
  cases x with
  | tmp t =>
    show a.tmps.getD t undef = _
    rw [hf.slot t]
    show _ = (match dstIdx ops t with | some j => if late ops i j then a0.tmps.getD t undef else val j | none => a0.tmps.getD t undef)
    unfold slotv
    split
    · rename_i j hj
      show _ = (match dstIdx ops t with | some j => if late ops i j then a0.tmps.getD t undef else val j | none => a0.tmps.getD t undef)
      rw [hj]
      show _ = (if late ops i j then a0.tmps.getD t undef else val j)
      by_cases hlt : late ops i j = true
      · rw [if_pos hlt]
        have hLj : L j = false := by
          rcases hLj : L j with _ | _
          · rfl
          · exfalso
            unfold late at hlt
            cases hoj : ops[j]? with
            | none => rw [hoj] at hlt; cases hlt
            | some oj =>
              rw [hoj] at hlt
              obtain ⟨e, he, h7⟩ := List.any_eq_true.1 hlt
              simp at h7
              have := hcl j oj hoj hLj e (Array.mem_toList_iff.1 he) h7.2
              rw [h7.1, hLi] at this; cases this
        rw [if_neg (by rw [hLj]; decide)]
      · rcases h4 t j hx hj with ⟨e, he, hej, hb⟩ | h7
        · rw [if_neg hlt, if_pos (by rw [← hej]; exact hL e he hb)]
        · exact absurd h7 hlt
    · rename_i hj
      rw [hj]
  | const v => rfl
  | global g => rfl
  | func f => rfl
theorem Fr.wanted7 {n : Nat} (h : regOk7 ops n = true) {a0 a : Act} {L : Nat → Bool} {val : Nat → Value} (hn : n ≤ a0.tmps.size) (hf : Fr ops a0 L val a) {i : Nat} {o : Oper} (hi : ops[i]? = some o) (hL : ∀ e ∈ o.after, Region.binds .any e = true → L e.on = true) :
    Region.wanted o (yielded ops a.tmps) = guardv val ops o.guard := by
  obtain ⟨h1, h2, h3, h4, h5, h6⟩ := regOk7_at h hi
  unfold Region.wanted guardv
  cases hg : o.guard with
  | none => rfl
  | some gb =>
    obtain ⟨g, b⟩ := gb
    obtain ⟨e, he, heg, hb⟩ := h3 g b hg
    have hLg : L g = true := by rw [← heg]; exact hL e he hb
    simp only [yielded, dstOf]
    cases hog : ops[g]? with
    | none => rfl
    | some og =>
      simp only [Option.bind_some]
      cases hdg : og.dst with
      | none => rfl
      | some d =>
        obtain ⟨e1, e2⟩ := (regOk7_at h hog).1 d hdg
        have hs := hf.slot d
        unfold slotv at hs
        rw [e1] at hs
        simp only [hLg, if_true] at hs
        have hsz : d < a.tmps.size := by rw [hf.size]; exact Nat.lt_of_lt_of_le e2 hn
        have hv : a.tmps[d]? = some (val g) := by
          rw [← hs]; simp [Array.getD_eq_getD_getElem?, hsz]
        simp only [Option.bind_some, hv]
        cases val g <;> first | rfl | simp

theorem wpAny_inv7 {n : Nat} (h : regOk7 ops n = true) {a0 : Act} (hn : n ≤ a0.tmps.size) (I : (Nat → Bool) → (Nat → Value) → World → Prop) (hs : ∀ i, i < ops.size → StepOb7 P ops a0 I i)
    (hend : ∀ val w a, I (fun j => decide (j < ops.size)) val w → Fr ops a0 (fun j => decide (j < ops.size)) val a → Q .normal a w) :
    ∀ (fuel : Nat) (L : Nat → Bool) (val : Nat → Value) (l : Array Bool) (a : Act) (w : World), todo L ops.size ≤ fuel → l.size = ops.size → (∀ j, j < ops.size → l.getD j true = L j) → (∀ j, ops.size ≤ j → L j = false) → I L val w → Fr ops a0 L val a → (∀ k o, ops[k]? = some o → L k = true → ∀ e ∈ o.after, Region.binds .any e = true → L e.on = true) →
      wpAny P .any ops Q fuel l a w := by
  intro fuel
  -- where nothing may come up all is done
  have hall : ∀ (L : Nat → Bool) (l : Array Bool), l.size = ops.size → (∀ j, j < ops.size → l.getD j true = L j) → Region.ready .any ops l = [] → ∀ j, j < ops.size → L j = true := by
    intro L l hl hL hr j
    induction j using Nat.strongRecOn with
    | _ j ih =>
      intro hj
      rcases hLj : L j with _ | _
      · exfalso
        have hoj : ops[j]? = some ops[j] := Array.getElem?_eq_getElem hj
        have hmem : j ∈ Region.ready .any ops l := by
          unfold Region.ready
          rw [List.mem_filter]
          refine ⟨List.mem_range.2 hj, ?_⟩
          rw [hL j hj, hLj, hoj]
          simp only [Bool.not_false, Bool.true_and, Option.map_some, Option.getD_some]
          rw [Array.all_eq_true_iff_forall_mem]
          intro e he
          cases hb9 : Region.binds .any e with
          | false => rfl
          | true =>
          have hlt := (regOk7_at h hoj).2.1 e he hb9
          have := ih e.on hlt (by omega)
          have h2 := hL e.on (by omega)
          rw [this] at h2
          have h3 : l.getD e.on false = true := by
            rw [Array.getD_eq_getD_getElem?] at h2 ⊢
            rw [Array.getElem?_eq_getElem (by omega)] at h2 ⊢
            simpa using h2
          simp [h3]
        rw [hr] at hmem; simp at hmem
      · rfl
  have hdone : ∀ (L : Nat → Bool) (val : Nat → Value) (l : Array Bool) (a : Act) (w : World), l.size = ops.size → (∀ j, j < ops.size → l.getD j true = L j) → (∀ j, ops.size ≤ j → L j = false) → I L val w → Fr ops a0 L val a → Region.ready .any ops l = [] → Q .normal a w := by
    intro L val l a w hl hL hL2 hI hF hr
    have : L = fun j => decide (j < ops.size) := by
      funext j
      by_cases hj : j < ops.size
      · rw [hall L l hl hL hr j hj]; simp [hj]
      · rw [hL2 j (by omega)]; simp [hj]
    subst this
    exact hend val w a hI hF
  induction fuel with
  | zero =>
    intro L val l a w ht hl hL hL2 hI hF hcl
    have hr : Region.ready .any ops l = [] := by
      unfold Region.ready
      rw [List.filter_eq_nil_iff]
      intro j hj
      have hj := List.mem_range.1 hj
      have : L j = true := by
        rcases hLj : L j with _ | _
        · exfalso
          have : j ∈ (List.range ops.size).filter fun j => !L j := List.mem_filter.2 ⟨List.mem_range.2 hj, by simp [hLj]⟩
          have := List.length_pos_of_mem this
          unfold todo at ht; omega
        · rfl
      rw [hL j hj, this]; simp
    exact ⟨hr, hdone L val l a w hl hL hL2 hI hF hr⟩
  | succ fuel ih =>
    intro L val l a w ht hl hL hL2 hI hF hcl
    refine ⟨hdone L val l a w hl hL hL2 hI hF, fun i hi => ?_⟩
    unfold Region.ready at hi
    rw [List.mem_filter] at hi
    obtain ⟨hi1, hi2⟩ := hi
    have hi1 := List.mem_range.1 hi1
    have hoi : ops[i]? = some ops[i] := Array.getElem?_eq_getElem hi1
    rw [hL i hi1, hoi] at hi2
    simp only [Bool.and_eq_true, Bool.not_eq_true', Option.map_some, Option.getD_some] at hi2
    obtain ⟨hLi, hdep⟩ := hi2
    have hdep' : ∀ e ∈ ops[i].after, Region.binds .any e = true → L e.on = true := by
      intro e he hb
      have h1 := Array.all_eq_true_iff_forall_mem.1 hdep e he
      have hlt := (regOk7_at h hoi).2.1 e he hb
      simp only [hb, Bool.not_true, Bool.false_or] at h1
      rw [← hL e.on (by omega)]
      rw [Array.getD_eq_getD_getElem?] at h1 ⊢
      rw [Array.getElem?_eq_getElem (by omega)] at h1 ⊢
      simpa using h1
    have hob := hs i hi1 ops[i] hoi L val w hI hLi hdep'
    have hnext : ∀ v w', I (up L i) (upd val i v) w' → wpAny P .any ops Q fuel (l.setIfInBounds i true) (a.put ops[i].dst v) w' := by
      intro v w' hI'
      refine ih (up L i) (upd val i v) _ _ w' (by have := todo_up hi1 hLi; omega) (by simpa using hl) ?_ ?_ hI' (hF.put7 h hn hoi v) ?_
      · intro j hj
        by_cases hji : j = i
        · subst hji
          simp [Array.getD_eq_getD_getElem?, up, hl, hj]
        · rw [Array.getD_eq_getD_getElem?, Array.getElem?_setIfInBounds_ne (by intro e; exact hji e.symm), ← Array.getD_eq_getD_getElem?, hL j hj]
          simp [up, hji]
      · intro j hj
        simp [up, show j ≠ i by omega, hL2 j hj]
      · intro k o hk hLk e he hb
        unfold up at hLk ⊢
        by_cases hei : e.on = i
        · rw [if_pos hei]
        · rw [if_neg hei]
          by_cases hki : k = i
          · subst hki
            rw [hoi] at hk; cases hk
            exact hdep' e he hb
          · rw [if_neg hki] at hLk
            exact hcl k o hk hLk e he hb
    unfold wpOp
    rw [hoi]
    simp only []
    rw [hF.wanted7 h hn hoi hdep']
    by_cases hw : guardv val ops ops[i].guard = true
    · rw [if_pos hw] at hob ⊢
      left
      rw [← hF.exec7 h hoi hdep' hLi hcl] at hob
      exact wp_of_does hob hnext
    · rw [if_neg hw] at hob ⊢
      exact hnext undef w hob

theorem Fr.fillTo7 {n : Nat} (h : regOk7 ops n = true) {a0 : Act} (hn : n ≤ a0.tmps.size) (val : Nat → Value) : ∀ m, m ≤ ops.size → Fr ops a0 (fun j => decide (j < m)) val ((List.range m).foldl (fun a j => a.put (dstOf ops j) (val j)) a0) := by
  intro m
  induction m with
  | zero => intro _; simpa using Fr.start (ops := ops) a0 val
  | succ m ih =>
    intro hm
    have h1 := (ih (by omega)).put7 h hn (i := m) (o := ops[m]) (Array.getElem?_eq_getElem (by omega)) (val m)
    rw [List.range_succ, List.foldl_append]
    simp only [List.foldl_cons, List.foldl_nil]
    have e1 : dstOf ops m = ops[m].dst := by simp [dstOf, Array.getElem?_eq_getElem (show m < ops.size by omega)]
    rw [e1]
    refine ⟨h1.defers, h1.size, fun t => ?_⟩
    rw [h1.slot t]
    unfold slotv
    split
    · rename_i j hj
      by_cases hjm : j = m
      · subst hjm; simp [up, upd]
      · have : (decide (j < m + 1)) = decide (j < m) := by
          by_cases h2 : j < m
          · simp [h2, show j < m + 1 by omega]
          · simp [h2, show ¬ j < m + 1 by omega]
        simp [up, upd, hjm, this]
    · rfl
/-- THE RULE: the region's operations, whatever their order. -/
theorem wp_region_inv7 {id : Nat} {l : List Oper} {a0 : Act} {w : World} (hm : P.follows .mixedOrders = true) (h : regOk7 l.toArray a0.tmps.size = true) (I : (Nat → Bool) → (Nat → Value) → World → Prop) (val0 : Nat → Value)
    (h0 : I (fun _ => false) val0 (w.drewN 1)) (hs : ∀ i, i < l.length → StepOb7 P l.toArray a0 I i)
    (hend : ∀ val w, I (fun j => decide (j < l.length)) val w → Q .normal (fillAll l.toArray val a0) w) : (Code.region id l.toArray true).wp P Q a0 w := by
  refine wp_region_any hm ?_
  refine wpAny_inv7 h (Nat.le_refl _) I (by simpa using hs) (fun val w' a hI hF => ?_) _ (fun _ => false) val0 _ a0 _ ?_ (by simp) ?_ (by simp) h0 (Fr.start a0 val0) (fun k o _ h => by cases h)
  · have := hF.eq (Fr.fillTo7 h (Nat.le_refl _) val l.toArray.size (Nat.le_refl _))
    rw [this]
    exact hend val w' (by simpa using hI)
  · unfold todo; exact Nat.le_trans (List.length_filter_le _ _) (by simp)
  · intro j hj
    simp [Array.getD_eq_getD_getElem?, Array.getElem?_replicate, show j < l.length by simpa using hj]
/-- the same, with guards -/
theorem wp_region_growG7 {id : Nat} {l : List Oper} {a0 : Act} {w : World} (hm : P.follows .mixedOrders = true) (h : regOk7 l.toArray a0.tmps.size = true) (V : Nat → Value → World → Prop)
    (hV : ∀ i v w w', V i v w → Below w.heap.size w w' → V i v w')
    (hstep : ∀ i o, l[i]? = some o → ∀ (val : Nat → Value) (w2 : World), Below w.heap.size w w2 → (∀ j, (∃ e ∈ o.after.toList, e.on = j ∧ Region.binds .any e = true) → V j (val j) w2) → if guardv val l.toArray o.guard = true then does P ((execOp (opv4 l.toArray a0 val i) o).run P w2) (fun v w' => Below w2.heap.size w2 w' ∧ V i v w') else V i undef w2)
    (hend : ∀ (val : Nat → Value) (w2 : World), Below w.heap.size w w2 → (∀ i, i < l.length → V i (val i) w2) → Q .normal (fillAll l.toArray val a0) w2) :
    (Code.region id l.toArray true).wp P Q a0 w := by
  refine wp_region_inv7 hm h (fun L val w2 => Below w.heap.size w w2 ∧ ∀ i, i < l.length → L i = true → V i (val i) w2) (fun _ => undef) ⟨below_drewN (Below.refl _ _) 1, fun i _ hL => by simp at hL⟩ ?_ ?_
  · intro i hi o ho L val w2 hI hL hd
    have hol : l[i]? = some o := by simpa using ho
    have hil : i < l.length := hi
    have hs := hstep i o hol val w2 hI.1 fun j hj => by
      obtain ⟨e, he, rfl, hb⟩ := hj
      have hlt := (regOk7_at h ho).2.1 e (Array.mem_toList_iff.1 he) hb
      exact hI.2 _ (by omega) (hd e (Array.mem_toList_iff.1 he) hb)
    split at hs
    · rename_i hg
      rw [if_pos hg]
      refine does_mono hs fun v w' hv => ⟨below2 hI.1 hv.1, fun j hj hLj => ?_⟩
      by_cases e : j = i
      · subst e; simpa [upd] using hv.2
      · simp only [up, e, if_false] at hLj
        have := hI.2 j hj hLj
        simpa [upd, e] using hV _ _ _ _ this hv.1
    · rename_i hg
      rw [if_neg hg]
      refine ⟨hI.1, fun j hj hLj => ?_⟩
      by_cases e : j = i
      · subst e; simpa [upd] using hs
      · simp only [up, e, if_false] at hLj
        have := hI.2 j hj hLj
        simpa [upd, e] using this
  · intro val w2 hI
    exact hend val w2 hI.1 fun i hi => hI.2 i hi (by simp [hi])
end
theorem StepOb7.of {P : Program} {ops : Array Oper} {a0 : Act} {I : (Nat → Bool) → (Nat → Value) → World → Prop} {i : Nat} {o : Oper} (ho : ops[i]? = some o) (hg : o.guard = none)
    (h : ∀ L val w, I L val w → L i = false → (∀ e ∈ o.after.toList, Region.binds .any e = true → L e.on = true) → does P ((execOp (opv4 ops a0 val i) o).run P w) (fun v w' => I (up L i) (upd val i v) w')) : StepOb7 P ops a0 I i := by
  intro o' ho' L val w hI hL hd
  rw [ho] at ho'; cases ho'
  rw [hg, if_pos (by rfl)]
  exact h L val w hI hL fun e he hb => hd e (Array.mem_toList_iff.1 he) hb
end Gk
