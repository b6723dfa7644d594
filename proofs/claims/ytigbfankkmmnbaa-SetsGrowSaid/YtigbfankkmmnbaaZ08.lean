/- A region whose operations but the last only read what is old and lay what is new; the last one may do anything; A region of open order in which a slot may be read before its writer; The order of sentences, and lists in that order: without a program; Lists of lists of numbers that are a call's own: bags. -/
import Derived.Test.YtigbfankkmmnbaaZ07
import Derived.Test.YtigbfankkmmnbaaZ06
set_option linter.unusedVariables false
set_option linter.unusedSimpArgs false
namespace Gk
open Go Go.RowKit
section
variable {P : Program} {Q : Exit → Act → World → Prop}
structure GrowI (V : Nat → Value → World → Prop) (n : Nat) (w0 : World) (K : (Nat → Value) → World → Prop) (L : Nat → Bool) (val : Nat → Value) (w : World) : Prop where
  pre : L n = false → Below w0.heap.size w0 w ∧ ∀ i, i < n → L i = true → V i (val i) w
  post : L n = true → K val w
  c : L n = true → ∀ i, i < n → L i = true
theorem wp_region_growLast {id : Nat} {l : List Oper} (n : Nat) {a0 : Act} {w : World} (hn : l.length = n + 1) (hm : P.follows .mixedOrders = true) (h : regOk l.toArray a0.tmps.size = true) (hng : noGuards l = true) (hlast : lastAll l n = true) (V : Nat → Value → World → Prop)
    (hV : ∀ i v w w', V i v w → Below w.heap.size w w' → V i v w')
    (hstep : ∀ i, i < n → ∀ o, l[i]? = some o → ∀ (val : Nat → Value) (w2 : World), Below w.heap.size w w2 → (∀ j, (∃ e ∈ o.after.toList, e.on = j ∧ Region.binds .any e = true) → V j (val j) w2) → does P ((execOp (opv l.toArray a0 val) o).run P w2) (fun v w' => Below w2.heap.size w2 w' ∧ V i v w'))
    (hl : ∀ o, l[n]? = some o → ∀ (val : Nat → Value) (w2 : World), Below w.heap.size w w2 → (∀ i, i < n → V i (val i) w2) → does P ((execOp (opv l.toArray a0 val) o).run P w2) (fun v w' => Q .normal (fillAll l.toArray (upd val n v) a0) w')) :
    (Code.region id l.toArray true).wp P Q a0 w := by
  refine wp_region_inv hm h (GrowI V n w (fun val w' => Q .normal (fillAll l.toArray val a0) w')) (fun _ => undef) ⟨fun _ => ⟨below_drewN (Below.refl _ _) 1, fun i _ hL => by simp at hL⟩, by simp, by simp⟩ ?_ ?_
  · intro i hi o ho L val w2 hI hL hd
    have hol : l[i]? = some o := by simpa using ho
    have hil : i < l.length := hi
    rw [guard_none hng hol, if_pos (by rfl)]
    by_cases hin : i < n
    · have hLn : L n = false := by
        rcases hx : L n with _ | _
        · rfl
        · have := hI.c hx i hin; rw [hL] at this; cases this
      have hP := hI.pre hLn
      refine does_mono (hstep i hin o hol val w2 hP.1 fun j hj => ?_) fun v w' hv => ?_
      · obtain ⟨e, he, rfl, hb⟩ := hj
        have hlt := (regOk_at h ho).2.1 e (Array.mem_toList_iff.1 he)
        exact hP.2 _ (by omega) (hd e (Array.mem_toList_iff.1 he) hb)
      · refine ⟨fun hLn' => ⟨below2 hP.1 hv.1, fun j hj hLj => ?_⟩, fun h' => ?_, fun h' => ?_⟩
        · by_cases e : j = i
          · subst e; simpa [upd] using hv.2
          · simp only [up, e, if_false] at hLj
            have := hP.2 j hj hLj
            simpa [upd, e] using hV _ _ _ _ this hv.1
        · simp only [up, show n ≠ i by omega, if_false] at h'; rw [hLn] at h'; cases h'
        · simp only [up, show n ≠ i by omega, if_false] at h'; rw [hLn] at h'; cases h'
    · have hie : i = n := by omega
      subst hie
      have hall : ∀ j, j < i → L j = true := by
        intro j hj
        unfold lastAll at hlast
        rw [hol] at hlast
        have := List.all_eq_true.1 hlast j (List.mem_range.2 hj)
        obtain ⟨e, he, hb⟩ := List.any_eq_true.1 this
        simp at hb
        have := hd e (Array.mem_toList_iff.1 he) hb.2
        rwa [hb.1] at this
      have hP := hI.pre hL
      refine does_mono (hl o hol val w2 hP.1 fun j hj => hP.2 j hj (hall j hj)) fun v w' hv => ?_
      refine ⟨fun h' => ?_, fun _ => hv, fun _ j hj => ?_⟩
      · simp [up] at h'
      · simp [up, show j ≠ i by omega, hall j hj]
  · intro val w2 hI
    exact hI.post (by simp [hn])
end
end Gk
set_option linter.unusedVariables false
set_option linter.unusedSimpArgs false
namespace Gk
open Go Go.RowKit
section
variable {P : Program} {ops : Array Oper} {Q : Exit → Act → World → Prop}
/-- the k-th waits for the i-th -/
def late (ops : Array Oper) (i k : Nat) : Bool := match ops[k]? with | some o => o.after.toList.any (fun e => e.on == i && Region.binds .any e) | none => false
/-- each slot is filled by one operation, guards and edges look back, no select -/
def regOk4 (ops : Array Oper) (n : Nat) : Bool :=
  (List.range ops.size).all fun j => match ops[j]? with
    | none => false
    | some o => (match o.dst with | some t => dstIdx ops t == some j && decide (t < n) | none => true) && o.after.toList.all (fun e => decide (e.on < j)) &&
      (match o.guard with | some (g, _) => o.after.toList.any (fun e => e.on == g && Region.binds .any e) | none => true) &&
      o.op.operands.toList.all (fun x => match x with | .tmp t => (match dstIdx ops t with | some k => o.after.toList.any (fun e => e.on == k && Region.binds .any e) || late ops j k | none => true) | _ => true) &&
      (match o.op with | .select .. => false | .defer .. => false | _ => true)
/-- what an operand of the i-th is -/
def opv4 (ops : Array Oper) (a0 : Act) (val : Nat → Value) (i : Nat) : Operand → Value
  | .tmp t => match dstIdx ops t with
    | some j => if late ops i j then a0.tmps.getD t undef else val j
    | none => a0.tmps.getD t undef
  | .const v => v
  | .global g => .pointer (some ⟨g, 0, none⟩)
  | .func f => .func (.func f) #[] #[]
def StepOb4 (P : Program) (ops : Array Oper) (a0 : Act) (I : (Nat → Bool) → (Nat → Value) → World → Prop) (i : Nat) : Prop :=
  ∀ o, ops[i]? = some o → ∀ L val w, I L val w → L i = false → (∀ e ∈ o.after, Region.binds .any e = true → L e.on = true) →
    if guardv val ops o.guard = true then does P ((execOp (opv4 ops a0 val i) o).run P w) (fun v w' => I (up L i) (upd val i v) w') else I (up L i) (upd val i undef) w
theorem regOk4_at {n : Nat} (h : regOk4 ops n = true) {j : Nat} {o : Oper} (hj : ops[j]? = some o) :
    (∀ t : Nat, o.dst = some t → dstIdx ops t = some j ∧ t < n) ∧ (∀ e ∈ o.after, e.on < j) ∧ (∀ g b, o.guard = some (g, b) → ∃ e ∈ o.after, e.on = g ∧ Region.binds .any e = true) ∧
    (∀ t k, .tmp t ∈ o.op.operands → dstIdx ops t = some k → (∃ e ∈ o.after, e.on = k ∧ Region.binds .any e = true) ∨ late ops j k = true) ∧ (∀ cs b, o.op ≠ .select cs b) ∧ (∀ c, o.op ≠ .defer c) := by
  have hlt : j < ops.size := (Array.getElem?_eq_some_iff.1 hj).1
  have h1 := List.all_eq_true.1 h j (List.mem_range.2 hlt)
  rw [hj] at h1
  simp only [Bool.and_eq_true] at h1
  obtain ⟨⟨⟨⟨h1, h2⟩, h3⟩, h4⟩, h5⟩ := h1
  refine ⟨fun t ht => ?_, fun e he => ?_, fun g b hg => ?_, fun t k ht hk => ?_, fun cs b hs => ?_, fun c hc => ?_⟩
  · rw [ht] at h1; simp at h1; exact h1
  · have := List.all_eq_true.1 h2 e (Array.mem_toList_iff.2 he); simpa using this
  · rw [hg] at h3
    obtain ⟨e, he, h3⟩ := List.any_eq_true.1 h3
    simp at h3; exact ⟨e, Array.mem_toList_iff.1 he, h3.1, h3.2⟩
  · have h4 := List.all_eq_true.1 h4 _ (Array.mem_toList_iff.2 ht)
    simp only [hk] at h4
    rcases Bool.or_eq_true_iff.1 h4 with h4 | h4
    · obtain ⟨e, he, h4⟩ := List.any_eq_true.1 h4
      simp at h4; exact .inl ⟨e, Array.mem_toList_iff.1 he, h4.1, h4.2⟩
    · exact .inr h4
  · rw [hs] at h5; simp at h5
  · rw [hc] at h5; simp at h5

theorem Fr.put4 {n : Nat} (h : regOk4 ops n = true) {a0 a : Act} {L : Nat → Bool} {val : Nat → Value} (hn : n ≤ a0.tmps.size) (hf : Fr ops a0 L val a) {i : Nat} {o : Oper} (hi : ops[i]? = some o) (v : Value) : Fr ops a0 (up L i) (upd val i v) (a.put o.dst v) := by
  obtain ⟨h1, h2, h3, h4, h5⟩ := regOk4_at h hi
  have hother : ∀ t, o.dst ≠ some t → slotv ops a0 (up L i) (upd val i v) t = slotv ops a0 L val t := by
    intro t ht
    unfold slotv
    split
    · rename_i j hj
      have hji : j ≠ i := by
        rintro rfl
        have := List.find?_some hj
        simp [dstOf, hi] at this
        exact ht this
      simp [up, upd, hji]
    · rfl
  cases hd : o.dst with
  | none => exact ⟨hf.defers, hf.size, fun t => by rw [hother t (by simp [hd])]; exact hf.slot t⟩
  | some d =>
    obtain ⟨e1, e2⟩ := h1 d hd
    refine ⟨hf.defers, by simp [Act.put, hf.size], fun t => ?_⟩
    by_cases htd : t = d
    · subst htd
      have hsz : t < a.tmps.size := by rw [hf.size]; exact Nat.lt_of_lt_of_le e2 hn
      simp [Act.put, slotv, e1, up, upd, Array.getD_eq_getD_getElem?, hsz]
    · rw [hother t (by rw [hd]; intro e; injection e with e; exact htd e.symm), ← hf.slot t]
      simp only [Act.put, Array.getD_eq_getD_getElem?]
      rw [Array.getElem?_setIfInBounds_ne (by intro e; exact htd e.symm)]

theorem Fr.exec4 {n : Nat} (h : regOk4 ops n = true) {a0 a : Act} {L : Nat → Bool} {val : Nat → Value} (hf : Fr ops a0 L val a) {i : Nat} {o : Oper} (hi : ops[i]? = some o) (hL : ∀ e ∈ o.after, Region.binds .any e = true → L e.on = true) (hLi : L i = false) (hcl : ∀ k o, ops[k]? = some o → L k = true → ∀ e ∈ o.after, Region.binds .any e = true → L e.on = true) :
    execOp a.eval o = execOp (opv4 ops a0 val i) o := by
  obtain ⟨h1, h2, h3, h4, h5, h6⟩ := regOk4_at h hi
  refine execOp_congr o h5 fun x hx => ?_
  cases x with
  | tmp t =>
    show a.tmps.getD t undef = _
    rw [hf.slot t]
    show _ = (match dstIdx ops t with | some j => if late ops i j then a0.tmps.getD t undef else val j | none => a0.tmps.getD t undef)
    unfold slotv
    split
    · rename_i j hj
      show _ = (match dstIdx ops t with | some j => if late ops i j then a0.tmps.getD t undef else val j | none => a0.tmps.getD t undef)
      rw [hj]
      show _ = (if late ops i j then a0.tmps.getD t undef else val j)
      by_cases hlt : late ops i j = true
      · rw [if_pos hlt]
        have hLj : L j = false := by
          rcases hLj : L j with _ | _
          · rfl
          · exfalso
            unfold late at hlt
            cases hoj : ops[j]? with
            | none => rw [hoj] at hlt; cases hlt
            | some oj =>
              rw [hoj] at hlt
              obtain ⟨e, he, h7⟩ := List.any_eq_true.1 hlt
              simp at h7
              have := hcl j oj hoj hLj e (Array.mem_toList_iff.1 he) h7.2
              rw [h7.1, hLi] at this; cases this
        rw [if_neg (by rw [hLj]; decide)]
      · rcases h4 t j hx hj with ⟨e, he, hej, hb⟩ | h7
        · rw [if_neg hlt, if_pos (by rw [← hej]; exact hL e he hb)]
        · exact absurd h7 hlt
    · rename_i hj
      rw [hj]
  | const v => rfl
  | global g => rfl
  | func f => rfl
theorem Fr.wanted4 {n : Nat} (h : regOk4 ops n = true) {a0 a : Act} {L : Nat → Bool} {val : Nat → Value} (hn : n ≤ a0.tmps.size) (hf : Fr ops a0 L val a) {i : Nat} {o : Oper} (hi : ops[i]? = some o) (hL : ∀ e ∈ o.after, Region.binds .any e = true → L e.on = true) :
    Region.wanted o (yielded ops a.tmps) = guardv val ops o.guard := by
  obtain ⟨h1, h2, h3, h4, h5, h6⟩ := regOk4_at h hi
  unfold Region.wanted guardv
  cases hg : o.guard with
  | none => rfl
  | some gb =>
    obtain ⟨g, b⟩ := gb
    obtain ⟨e, he, heg, hb⟩ := h3 g b hg
    have hLg : L g = true := by rw [← heg]; exact hL e he hb
    simp only [yielded, dstOf]
    cases hog : ops[g]? with
    | none => rfl
    | some og =>
      simp only [Option.bind_some]
      cases hdg : og.dst with
      | none => rfl
      | some d =>
        obtain ⟨e1, e2⟩ := (regOk4_at h hog).1 d hdg
        have hs := hf.slot d
        unfold slotv at hs
        rw [e1] at hs
        simp only [hLg, if_true] at hs
        have hsz : d < a.tmps.size := by rw [hf.size]; exact Nat.lt_of_lt_of_le e2 hn
        have hv : a.tmps[d]? = some (val g) := by
          rw [← hs]; simp [Array.getD_eq_getD_getElem?, hsz]
        simp only [Option.bind_some, hv]
        cases val g <;> first | rfl | simp

theorem wpAny_inv4 {n : Nat} (h : regOk4 ops n = true) {a0 : Act} (hn : n ≤ a0.tmps.size) (I : (Nat → Bool) → (Nat → Value) → World → Prop) (hs : ∀ i, i < ops.size → StepOb4 P ops a0 I i)
    (hend : ∀ val w a, I (fun j => decide (j < ops.size)) val w → Fr ops a0 (fun j => decide (j < ops.size)) val a → Q .normal a w) :
    ∀ (fuel : Nat) (L : Nat → Bool) (val : Nat → Value) (l : Array Bool) (a : Act) (w : World), todo L ops.size ≤ fuel → l.size = ops.size → (∀ j, j < ops.size → l.getD j true = L j) → (∀ j, ops.size ≤ j → L j = false) → I L val w → Fr ops a0 L val a → (∀ k o, ops[k]? = some o → L k = true → ∀ e ∈ o.after, Region.binds .any e = true → L e.on = true) →
      wpAny P .any ops Q fuel l a w := by
  intro fuel
  -- where nothing may come up all is done
  have hall : ∀ (L : Nat → Bool) (l : Array Bool), l.size = ops.size → (∀ j, j < ops.size → l.getD j true = L j) → Region.ready .any ops l = [] → ∀ j, j < ops.size → L j = true := by
    intro L l hl hL hr j
    induction j using Nat.strongRecOn with
    | _ j ih =>
      intro hj
      rcases hLj : L j with _ | _
      · exfalso
        have hoj : ops[j]? = some ops[j] := Array.getElem?_eq_getElem hj
        have hmem : j ∈ Region.ready .any ops l := by
          unfold Region.ready
          rw [List.mem_filter]
          refine ⟨List.mem_range.2 hj, ?_⟩
          rw [hL j hj, hLj, hoj]
          simp only [Bool.not_false, Bool.true_and, Option.map_some, Option.getD_some]
          rw [Array.all_eq_true_iff_forall_mem]
          intro e he
          have hlt := (regOk4_at h hoj).2.1 e he
          have := ih e.on hlt (by omega)
          have h2 := hL e.on (by omega)
          rw [this] at h2
          have h3 : l.getD e.on false = true := by
            rw [Array.getD_eq_getD_getElem?] at h2 ⊢
            rw [Array.getElem?_eq_getElem (by omega)] at h2 ⊢
            simpa using h2
          simp [h3]
        rw [hr] at hmem; simp at hmem
      · rfl
  have hdone : ∀ (L : Nat → Bool) (val : Nat → Value) (l : Array Bool) (a : Act) (w : World), l.size = ops.size → (∀ j, j < ops.size → l.getD j true = L j) → (∀ j, ops.size ≤ j → L j = false) → I L val w → Fr ops a0 L val a → Region.ready .any ops l = [] → Q .normal a w := by
    intro L val l a w hl hL hL2 hI hF hr
    have : L = fun j => decide (j < ops.size) := by
      funext j
      by_cases hj : j < ops.size
      · rw [hall L l hl hL hr j hj]; simp [hj]
      · rw [hL2 j (by omega)]; simp [hj]
    subst this
    exact hend val w a hI hF
  induction fuel with
  | zero =>
    intro L val l a w ht hl hL hL2 hI hF hcl
    have hr : Region.ready .any ops l = [] := by
      unfold Region.ready
      rw [List.filter_eq_nil_iff]
      intro j hj
      have hj := List.mem_range.1 hj
      have : L j = true := by
        rcases hLj : L j with _ | _
        · exfalso
          have : j ∈ (List.range ops.size).filter fun j => !L j := List.mem_filter.2 ⟨List.mem_range.2 hj, by simp [hLj]⟩
          have := List.length_pos_of_mem this
          unfold todo at ht; omega
        · rfl
      rw [hL j hj, this]; simp
    exact ⟨hr, hdone L val l a w hl hL hL2 hI hF hr⟩
  | succ fuel ih =>
    intro L val l a w ht hl hL hL2 hI hF hcl
    refine ⟨hdone L val l a w hl hL hL2 hI hF, fun i hi => ?_⟩
    unfold Region.ready at hi
    rw [List.mem_filter] at hi
    obtain ⟨hi1, hi2⟩ := hi
    have hi1 := List.mem_range.1 hi1
    have hoi : ops[i]? = some ops[i] := Array.getElem?_eq_getElem hi1
    rw [hL i hi1, hoi] at hi2
    simp only [Bool.and_eq_true, Bool.not_eq_true', Option.map_some, Option.getD_some] at hi2
    obtain ⟨hLi, hdep⟩ := hi2
    have hdep' : ∀ e ∈ ops[i].after, Region.binds .any e = true → L e.on = true := by
      intro e he hb
      have h1 := Array.all_eq_true_iff_forall_mem.1 hdep e he
      have hlt := (regOk4_at h hoi).2.1 e he
      simp only [hb, Bool.not_true, Bool.false_or] at h1
      rw [← hL e.on (by omega)]
      rw [Array.getD_eq_getD_getElem?] at h1 ⊢
      rw [Array.getElem?_eq_getElem (by omega)] at h1 ⊢
      simpa using h1
    have hob := hs i hi1 ops[i] hoi L val w hI hLi hdep'
    have hnext : ∀ v w', I (up L i) (upd val i v) w' → wpAny P .any ops Q fuel (l.setIfInBounds i true) (a.put ops[i].dst v) w' := by
      intro v w' hI'
      refine ih (up L i) (upd val i v) _ _ w' (by have := todo_up hi1 hLi; omega) (by simpa using hl) ?_ ?_ hI' (hF.put4 h hn hoi v) ?_
      · intro j hj
        by_cases hji : j = i
        · subst hji
          simp [Array.getD_eq_getD_getElem?, up, hl, hj]
        · rw [Array.getD_eq_getD_getElem?, Array.getElem?_setIfInBounds_ne (by intro e; exact hji e.symm), ← Array.getD_eq_getD_getElem?, hL j hj]
          simp [up, hji]
      · intro j hj
        simp [up, show j ≠ i by omega, hL2 j hj]
      · intro k o hk hLk e he hb
        unfold up at hLk ⊢
        by_cases hei : e.on = i
        · rw [if_pos hei]
        · rw [if_neg hei]
          by_cases hki : k = i
          · subst hki
            rw [hoi] at hk; cases hk
            exact hdep' e he hb
          · rw [if_neg hki] at hLk
            exact hcl k o hk hLk e he hb
    unfold wpOp
    rw [hoi]
    simp only []
    rw [hF.wanted4 h hn hoi hdep']
    by_cases hw : guardv val ops ops[i].guard = true
    · rw [if_pos hw] at hob ⊢
      left
      rw [← hF.exec4 h hoi hdep' hLi hcl] at hob
      exact wp_of_does hob hnext
    · rw [if_neg hw] at hob ⊢
      exact hnext undef w hob

theorem Fr.fillTo4 {n : Nat} (h : regOk4 ops n = true) {a0 : Act} (hn : n ≤ a0.tmps.size) (val : Nat → Value) : ∀ m, m ≤ ops.size → Fr ops a0 (fun j => decide (j < m)) val ((List.range m).foldl (fun a j => a.put (dstOf ops j) (val j)) a0) := by
  intro m
  induction m with
  | zero => intro _; simpa using Fr.start (ops := ops) a0 val
  | succ m ih =>
    intro hm
    have h1 := (ih (by omega)).put4 h hn (i := m) (o := ops[m]) (Array.getElem?_eq_getElem (by omega)) (val m)
    rw [List.range_succ, List.foldl_append]
    simp only [List.foldl_cons, List.foldl_nil]
    have e1 : dstOf ops m = ops[m].dst := by simp [dstOf, Array.getElem?_eq_getElem (show m < ops.size by omega)]
    rw [e1]
    refine ⟨h1.defers, h1.size, fun t => ?_⟩
    rw [h1.slot t]
    unfold slotv
    split
    · rename_i j hj
      by_cases hjm : j = m
      · subst hjm; simp [up, upd]
      · have : (decide (j < m + 1)) = decide (j < m) := by
          by_cases h2 : j < m
          · simp [h2, show j < m + 1 by omega]
          · simp [h2, show ¬ j < m + 1 by omega]
        simp [up, upd, hjm, this]
    · rfl
/-- THE RULE: the region's operations, whatever their order. -/
theorem wp_region_inv4 {id : Nat} {l : List Oper} {a0 : Act} {w : World} (hm : P.follows .mixedOrders = true) (h : regOk4 l.toArray a0.tmps.size = true) (I : (Nat → Bool) → (Nat → Value) → World → Prop) (val0 : Nat → Value)
    (h0 : I (fun _ => false) val0 (w.drewN 1)) (hs : ∀ i, i < l.length → StepOb4 P l.toArray a0 I i)
    (hend : ∀ val w, I (fun j => decide (j < l.length)) val w → Q .normal (fillAll l.toArray val a0) w) : (Code.region id l.toArray true).wp P Q a0 w := by
  refine wp_region_any hm ?_
  refine wpAny_inv4 h (Nat.le_refl _) I (by simpa using hs) (fun val w' a hI hF => ?_) _ (fun _ => false) val0 _ a0 _ ?_ (by simp) ?_ (by simp) h0 (Fr.start a0 val0) (fun k o _ h => by cases h)
  · have := hF.eq (Fr.fillTo4 h (Nat.le_refl _) val l.toArray.size (Nat.le_refl _))
    rw [this]
    exact hend val w' (by simpa using hI)
  · unfold todo; exact Nat.le_trans (List.length_filter_le _ _) (by simp)
  · intro j hj
    simp [Array.getD_eq_getD_getElem?, Array.getElem?_replicate, show j < l.length by simpa using hj]
/-- the same, with guards -/
theorem wp_region_growG4 {id : Nat} {l : List Oper} {a0 : Act} {w : World} (hm : P.follows .mixedOrders = true) (h : regOk4 l.toArray a0.tmps.size = true) (V : Nat → Value → World → Prop)
    (hV : ∀ i v w w', V i v w → Below w.heap.size w w' → V i v w')
    (hstep : ∀ i o, l[i]? = some o → ∀ (val : Nat → Value) (w2 : World), Below w.heap.size w w2 → (∀ j, (∃ e ∈ o.after.toList, e.on = j ∧ Region.binds .any e = true) → V j (val j) w2) → if guardv val l.toArray o.guard = true then does P ((execOp (opv4 l.toArray a0 val i) o).run P w2) (fun v w' => Below w2.heap.size w2 w' ∧ V i v w') else V i undef w2)
    (hend : ∀ (val : Nat → Value) (w2 : World), Below w.heap.size w w2 → (∀ i, i < l.length → V i (val i) w2) → Q .normal (fillAll l.toArray val a0) w2) :
    (Code.region id l.toArray true).wp P Q a0 w := by
  refine wp_region_inv4 hm h (fun L val w2 => Below w.heap.size w w2 ∧ ∀ i, i < l.length → L i = true → V i (val i) w2) (fun _ => undef) ⟨below_drewN (Below.refl _ _) 1, fun i _ hL => by simp at hL⟩ ?_ ?_
  · intro i hi o ho L val w2 hI hL hd
    have hol : l[i]? = some o := by simpa using ho
    have hil : i < l.length := hi
    have hs := hstep i o hol val w2 hI.1 fun j hj => by
      obtain ⟨e, he, rfl, hb⟩ := hj
      have hlt := (regOk4_at h ho).2.1 e (Array.mem_toList_iff.1 he)
      exact hI.2 _ (by omega) (hd e (Array.mem_toList_iff.1 he) hb)
    split at hs
    · rename_i hg
      rw [if_pos hg]
      refine does_mono hs fun v w' hv => ⟨below2 hI.1 hv.1, fun j hj hLj => ?_⟩
      by_cases e : j = i
      · subst e; simpa [upd] using hv.2
      · simp only [up, e, if_false] at hLj
        have := hI.2 j hj hLj
        simpa [upd, e] using hV _ _ _ _ this hv.1
    · rename_i hg
      rw [if_neg hg]
      refine ⟨hI.1, fun j hj hLj => ?_⟩
      by_cases e : j = i
      · subst e; simpa [upd] using hs
      · simp only [up, e, if_false] at hLj
        have := hI.2 j hj hLj
        simpa [upd, e] using this
  · intro val w2 hI
    exact hend val w2 hI.1 fun i hi => hI.2 i hi (by simp [hi])
end
theorem exec_pick {P : Program} {ρ : Operand → Value} {o : Oper} {x y z : Operand} {b : Bool} {v : Value} {w : World} (ho : o.op = .pick x y z) (hx : ρ x = .bool b) (hv : (if b then ρ y else ρ z) = v) : (execOp ρ o).run P w = .ok (.value v) w := by
  unfold execOp
  simp only [ho, hx]
  cases b <;> simp [asBool] at hv ⊢ <;> exact hv
theorem exec_move {P : Program} {ρ : Operand → Value} {o : Oper} {x : Operand} {v : Value} {w : World} (ho : o.op = .move x ∨ o.op = .assign x) (hx : ρ x = v) : (execOp ρ o).run P w = .ok (.value v) w := by
  unfold execOp
  rcases ho with ho | ho <;> simp only [ho, hx, Sem.run_pure]
theorem exec_bin {P : Program} {ρ : Operand → Value} {o : Oper} {op : BinOp} {t t2 : TypeId} {x y : Operand} {u v r : Value} {w w' : World} (ho : o.op = .binOp op t x y t2) (hx : ρ x = u) (hy : ρ y = v) (hr : (do eqGuard op t x y u v; Go.binOp op t u v : Sem Value).run P w = .ok r w') : (execOp ρ o).run P w = .ok (.value r) w' := by
  unfold execOp
  simp only [ho, hx, hy, Sem.run_bind, Sem.run_pure, Result.andThen_ok] at hr ⊢
  rw [hr]; rfl
theorem exec_slice {P : Program} {ρ : Operand → Value} {o : Oper} {t : TypeId} {x : Operand} {lo hi : Option Operand} {v u : Value} {l h : Option Value} {w w' : World} (ho : o.op = .slice t x lo hi none) (hx : ρ x = v) (hl : lo.map ρ = l) (hh : hi.map ρ = h) (hr : (Instr.sliceAt t v l h none).run P w = .ok u w') : (execOp ρ o).run P w = .ok (.value u) w' := by
  unfold execOp
  simp only [ho, hx, hl, hh, Option.map_none, Sem.run_bind, Sem.run_pure, Result.andThen_ok, hr]
theorem args2 {a b a' b' : Value} (h1 : a = a') (h2 : b = b') : #[a, b] = #[a', b'] := by rw [h1, h2]
theorem args3 {a b c a' b' c' : Value} (h1 : a = a') (h2 : b = b') (h3 : c = c') : #[a, b, c] = #[a', b', c'] := by rw [h1, h2, h3]
theorem guardv_eq {val : Nat → Value} {ops : Array Oper} {g : Nat} {d : Tmp} {b want : Bool} (hd : dstOf ops g = some d) (hv : val g = .bool b) : guardv val ops (some (g, want)) = (b == want) := by
  unfold guardv; simp only [hd, hv]
theorem guardv_undef {val : Nat → Value} {ops : Array Oper} {g : Nat} {want : Bool} (hv : val g = undef) : guardv val ops (some (g, want)) = false := by
  simp only [guardv, hv]
  cases dstOf ops g <;> rfl
theorem ite_do {p q : Prop} {g : Bool} (hg : g = true) (h : p) : if g = true then p else q := by rw [if_pos hg]; exact h
theorem ite_no {p q : Prop} {g : Bool} (hg : g = false) (h : q) : if g = true then p else q := by rw [if_neg (by rw [hg]; decide)]; exact h
theorem StepOb.ofG {P : Program} {ops : Array Oper} {a0 : Act} {I : (Nat → Bool) → (Nat → Value) → World → Prop} {i g : Nat} {want : Bool} {o : Oper} (ho : ops[i]? = some o) (hg : o.guard = some (g, want))
    (h : ∀ L val w, I L val w → L i = false → (∀ e ∈ o.after.toList, Region.binds .any e = true → L e.on = true) → guardv val ops (some (g, want)) = true ∧ does P ((execOp (opv ops a0 val) o).run P w) (fun v w' => I (up L i) (upd val i v) w')) : StepOb P ops a0 I i := by
  intro o' ho' L val w hI hL hd
  rw [ho] at ho'; cases ho'
  obtain ⟨h1, h2⟩ := h L val w hI hL fun e he hb => hd e (Array.mem_toList_iff.1 he) hb
  rw [hg, if_pos h1]
  exact h2
theorem exec_indexAddr {P : Program} {ρ : Operand → Value} {o : Oper} {t : TypeId} {x y : Operand} {u v r : Value} {w w' : World} (ho : o.op = .indexAddr t x y) (hx : ρ x = u) (hy : ρ y = v) (hr : (Instr.indexAt t u v).run P w = .ok r w') : (execOp ρ o).run P w = .ok (.value r) w' := by
  unfold execOp
  simp only [ho, hx, hy, Sem.run_bind, Sem.run_pure, Result.andThen_ok, hr]
end Gk
set_option linter.unusedVariables false
set_option linter.unusedSimpArgs false
namespace Go.Proofs.Ytigbfankkmmnbaa
open Go.RowKit Gk

def cmpI (a b : Int) : Int := if a < b then -1 else if b < a then 1 else 0
def cmpL : List Int → List Int → Int
  | [], [] => 0
  | [], _ :: _ => -1
  | _ :: _, [] => 1
  | x :: xs, y :: ys => if x < y then -1 else if y < x then 1 else cmpL xs ys
def ordP (a b : List Int) : Int := if a.length < b.length then -1 else if b.length < a.length then 1 else cmpL a b
def lessP (a b : List Int) : Bool := decide (ordP a b < 0)
theorem cmpL_self : ∀ a : List Int, cmpL a a = 0
  | [] => rfl
  | x :: xs => by simp [cmpL, cmpL_self xs]
theorem cmpL_zero : ∀ {a b : List Int}, cmpL a b = 0 → a = b
  | [], [], _ => rfl
  | [], _ :: _, h => by simp [cmpL] at h
  | _ :: _, [], h => by simp [cmpL] at h
  | x :: xs, y :: ys, h => by
    unfold cmpL at h
    split at h
    · simp at h
    · split at h
      · simp at h
      · rw [cmpL_zero h, show x = y by omega]
theorem cmpL_anti : ∀ a b : List Int, cmpL b a = - cmpL a b
  | [], [] => rfl
  | [], _ :: _ => rfl
  | _ :: _, [] => rfl
  | x :: xs, y :: ys => by
    unfold cmpL
    by_cases h1 : x < y
    · rw [if_pos h1, if_neg (by omega), if_pos h1]; rfl
    · by_cases h2 : y < x
      · simp [h1, h2]
      · rw [if_neg h1, if_neg h2, if_neg h2, if_neg h1, cmpL_anti xs ys]
theorem cmpL_trans : ∀ {a b c : List Int}, cmpL a b < 0 → cmpL b c < 0 → cmpL a c < 0
  | [], [], c, h, _ => by simp [cmpL] at h
  | [], y :: ys, [], _, h => by simp [cmpL] at h
  | [], y :: ys, z :: zs, _, _ => by simp [cmpL]
  | x :: xs, [], c, h, _ => by simp [cmpL] at h
  | x :: xs, y :: ys, [], _, h => by simp [cmpL] at h
  | x :: xs, y :: ys, z :: zs, h, k => by
    unfold cmpL at h k ⊢
    by_cases h1 : x < y
    · by_cases h2 : z < y
      · rw [if_neg (by omega), if_pos h2] at k; omega
      · rw [if_pos (by omega)]; omega
    · by_cases h2 : y < x
      · rw [if_neg h1, if_pos h2] at h; omega
      · rw [if_neg h1, if_neg h2] at h
        obtain rfl : x = y := by omega
        by_cases h3 : x < z
        · rw [if_pos h3]; omega
        · by_cases h4 : z < x
          · rw [if_neg h3, if_pos h4] at k; omega
          · rw [if_neg h3, if_neg h4] at k ⊢
            exact cmpL_trans h k
theorem ordP_zero {a b : List Int} : ordP a b = 0 ↔ a = b := by
  unfold ordP
  constructor
  · intro h
    split at h
    · simp at h
    · split at h
      · simp at h
      · exact cmpL_zero h
  · rintro rfl; simp [cmpL_self]
theorem ordP_anti (a b : List Int) : ordP b a = - ordP a b := by
  unfold ordP
  by_cases h1 : a.length < b.length
  · rw [if_pos h1, if_neg (by omega), if_pos h1]; rfl
  · by_cases h2 : b.length < a.length
    · simp [h1, h2]
    · rw [if_neg h1, if_neg h2, if_neg h2, if_neg h1, cmpL_anti]
theorem ordP_trans {a b c : List Int} (h : ordP a b < 0) (k : ordP b c < 0) : ordP a c < 0 := by
  unfold ordP at h k ⊢
  by_cases h1 : a.length < b.length
  · by_cases h2 : c.length < b.length
    · rw [if_neg (by omega), if_pos h2] at k; omega
    · rw [if_pos (by omega)]; omega
  · by_cases h2 : b.length < a.length
    · rw [if_neg h1, if_pos h2] at h; omega
    · rw [if_neg h1, if_neg h2] at h
      by_cases h3 : b.length < c.length
      · rw [if_pos (by omega)]; omega
      · by_cases h4 : c.length < b.length
        · rw [if_neg h3, if_pos h4] at k; omega
        · rw [if_neg h3, if_neg h4] at k
          rw [if_neg (by omega), if_neg (by omega)]
          exact cmpL_trans h k
theorem lessP_irr (a : List Int) : lessP a a = false := by simp [lessP, ordP_zero.2 rfl]
theorem lessP_trans {a b c : List Int} (h : lessP a b = true) (k : lessP b c = true) : lessP a c = true := by
  simp only [lessP, decide_eq_true_eq] at h k ⊢; exact ordP_trans h k
theorem lessP_tri (a b : List Int) : lessP a b = true ∨ a = b ∨ lessP b a = true := by
  simp only [lessP, decide_eq_true_eq]
  have := ordP_anti a b
  by_cases h : ordP a b = 0
  · exact .inr (.inl (ordP_zero.1 h))
  · omega
theorem lessP_len {a b : List Int} (h : lessP a b = true) : a.length ≤ b.length := by
  simp only [lessP, decide_eq_true_eq] at h
  unfold ordP at h
  split at h
  · omega
  · split at h <;> omega
/-- in order, each once -/
abbrev Srt (l : List (List Int)) : Prop := l.Pairwise (fun a b => lessP a b = true)
theorem of_takeWhile {α : Type} {p : α → Bool} : ∀ {l : List α} {y : α}, y ∈ l.takeWhile p → p y = true
  | [], _, h => by simp at h
  | a :: l, y, h => by
    rw [List.takeWhile_cons] at h
    split at h
    · rcases List.mem_cons.1 h with rfl | h
      · assumption
      · exact of_takeWhile h
    · simp at h
/-- how many are ahead of one -/
def posP (l : List (List Int)) (x : List Int) : Nat := (l.takeWhile (fun y => lessP y x)).length
/-- with one, in order -/
def insS (l : List (List Int)) (x : List Int) : List (List Int) := if x ∈ l then l else l.takeWhile (fun y => lessP y x) ++ x :: l.dropWhile (fun y => lessP y x)
theorem mem_insS {l : List (List Int)} {x y : List Int} : y ∈ insS l x ↔ y ∈ l ∨ y = x := by
  unfold insS
  split
  · constructor
    · exact .inl
    · rintro (h | rfl) <;> assumption
  · have h : y ∈ l ↔ y ∈ l.takeWhile (fun y => lessP y x) ∨ y ∈ l.dropWhile (fun y => lessP y x) := by
      rw [← List.mem_append, List.takeWhile_append_dropWhile]
    rw [h]
    simp only [List.mem_append, List.mem_cons]
    constructor
    · rintro (h | rfl | h)
      · exact .inl (.inl h)
      · exact .inr rfl
      · exact .inl (.inr h)
    · rintro ((h | h) | rfl)
      · exact .inl h
      · exact .inr (.inr h)
      · exact .inr (.inl rfl)
theorem length_insS {l : List (List Int)} {x : List Int} : (insS l x).length = if x ∈ l then l.length else l.length + 1 := by
  unfold insS
  split
  · rfl
  · have h : l.length = (l.takeWhile (fun y => lessP y x)).length + (l.dropWhile (fun y => lessP y x)).length := by
      rw [← List.length_append, List.takeWhile_append_dropWhile]
    simp only [List.length_append, List.length_cons]; omega
theorem insS_ge {l : List (List Int)} {x : List Int} : l.length ≤ (insS l x).length ∧ (insS l x).length ≤ l.length + 1 := by
  rw [length_insS]; split <;> omega
theorem posP_le (l : List (List Int)) (x : List Int) : posP l x ≤ l.length := (List.takeWhile_sublist _).length_le
theorem takeWhile_pos (l : List (List Int)) (x : List Int) : l.takeWhile (fun y => lessP y x) = l.take (posP l x) := by
  have h := congrArg (List.take (posP l x)) (List.takeWhile_append_dropWhile (p := fun y => lessP y x) (l := l))
  rw [← h]; exact List.take_left.symm
theorem dropWhile_pos (l : List (List Int)) (x : List Int) : l.dropWhile (fun y => lessP y x) = l.drop (posP l x) := by
  have h := congrArg (List.drop (posP l x)) (List.takeWhile_append_dropWhile (p := fun y => lessP y x) (l := l))
  rw [← h]; exact List.drop_left.symm
theorem insS_new {l : List (List Int)} {x : List Int} (h : x ∉ l) : insS l x = l.take (posP l x) ++ x :: l.drop (posP l x) := by
  unfold insS; rw [if_neg h, takeWhile_pos, dropWhile_pos]
theorem insS_old {l : List (List Int)} {x : List Int} (h : x ∈ l) : insS l x = l := by unfold insS; rw [if_pos h]
theorem less_before {l : List (List Int)} {x : List Int} {i : Nat} {y : List Int} (hi : i < posP l x) (hy : l[i]? = some y) : lessP y x = true := by
  have h : (l.take (posP l x))[i]? = some y := by rw [List.getElem?_take, if_pos hi]; exact hy
  rw [← takeWhile_pos] at h
  exact of_takeWhile (p := fun y => lessP y x) (List.mem_of_getElem? h)
theorem notless_at {l : List (List Int)} {x y : List Int} (hy : l[posP l x]? = some y) : lessP y x = false := by
  have h : (l.drop (posP l x))[0]? = some y := by rw [List.getElem?_drop]; exact hy
  rw [← dropWhile_pos] at h
  cases hd : l.dropWhile (fun y => lessP y x) with
  | nil => rw [hd] at h; simp at h
  | cons a t =>
    rw [hd] at h; simp at h; subst h
    have := List.head_dropWhile_not (fun y => lessP y x) (l := l) (by rw [hd]; simp)
    simp only [hd, List.head_cons] at this
    simpa using this
theorem srt_at {l : List (List Int)} (h : Srt l) {i j : Nat} {a b : List Int} (hij : i < j) (ha : l[i]? = some a) (hb : l[j]? = some b) : lessP a b = true := by
  obtain ⟨h1, e1⟩ := List.getElem?_eq_some_iff.1 ha
  obtain ⟨h2, e2⟩ := List.getElem?_eq_some_iff.1 hb
  subst e1 e2
  exact (List.pairwise_iff_getElem.1 h) i j h1 h2 hij
/-- from the place on nothing is ahead -/
theorem notless_from {l : List (List Int)} (h : Srt l) {x y : List Int} {i : Nat} (hi : posP l x ≤ i) (hy : l[i]? = some y) : lessP y x = false := by
  have hlt := (List.getElem?_eq_some_iff.1 hy).1
  have hp : posP l x < l.length := by omega
  have h0 := notless_at (l := l) (x := x) (List.getElem?_eq_getElem hp)
  rcases Nat.lt_or_eq_of_le hi with h1 | h1
  · have h2 := srt_at h h1 (List.getElem?_eq_getElem hp) hy
    cases h3 : lessP y x with
    | false => rfl
    | true => rw [lessP_trans h2 h3] at h0; cases h0
  · subst h1
    rw [List.getElem?_eq_getElem hp] at hy; injection hy with hy; rw [← hy]; exact h0
theorem pos_eq {l : List (List Int)} (h : Srt l) {x : List Int} {i : Nat} (hi : i ≤ l.length) (h1 : ∀ j y, j < i → l[j]? = some y → lessP y x = true) (h2 : ∀ j y, i ≤ j → l[j]? = some y → lessP y x = false) : posP l x = i := by
  have hp := posP_le l x
  rcases Nat.lt_trichotomy (posP l x) i with h3 | h3 | h3
  · have := h1 _ _ h3 (List.getElem?_eq_getElem (by omega))
    have h4 := notless_from h (Nat.le_refl _) (List.getElem?_eq_getElem (by omega : posP l x < l.length))
    rw [this] at h4; cases h4
  · exact h3
  · have := h2 _ _ (Nat.le_refl _) (List.getElem?_eq_getElem (by omega : i < l.length))
    have h4 := less_before h3 (List.getElem?_eq_getElem (by omega : i < l.length))
    rw [this] at h4; cases h4
theorem mem_at {l : List (List Int)} (h : Srt l) {x : List Int} : x ∈ l ↔ l[posP l x]? = some x := by
  constructor
  · intro hm
    obtain ⟨i, hi, e⟩ := List.mem_iff_getElem.1 hm
    have : posP l x = i := pos_eq h (by omega) (fun j y hj hy => by
      have := srt_at h hj hy (List.getElem?_eq_getElem hi); rwa [e] at this) (fun j y hj hy => by
      rcases Nat.lt_or_eq_of_le hj with h1 | h1
      · have := srt_at h h1 (List.getElem?_eq_getElem hi) hy
        rw [e] at this
        cases h3 : lessP y x with
        | false => rfl
        | true => have := lessP_trans this h3; rw [lessP_irr] at this; cases this
      · subst h1; rw [List.getElem?_eq_getElem hi, e] at hy; injection hy with hy; rw [← hy]; exact lessP_irr _)
    rw [this, List.getElem?_eq_getElem hi, e]
  · intro h1; exact List.mem_of_getElem? h1
theorem srt_insS {l : List (List Int)} (h : Srt l) (x : List Int) : Srt (insS l x) := by
  by_cases hm : x ∈ l
  · rw [insS_old hm]; exact h
  · rw [insS_new hm]
    have ht : Srt (l.take (posP l x)) := h.sublist (List.take_sublist _ _)
    have hd : Srt (l.drop (posP l x)) := h.sublist (List.drop_sublist _ _)
    have hx : ∀ y ∈ l.drop (posP l x), lessP x y = true := fun y hy => by
      obtain ⟨i, hi⟩ := List.mem_iff_getElem?.1 hy
      rw [List.getElem?_drop] at hi
      have h1 := notless_from h (x := x) (Nat.le_add_right _ _) hi
      rcases lessP_tri x y with h2 | h2 | h2
      · exact h2
      · subst h2; exact absurd (List.mem_of_getElem? hi) hm
      · rw [h1] at h2; cases h2
    have hb : ∀ y ∈ l.take (posP l x), lessP y x = true := fun y hy => by
      obtain ⟨i, hi⟩ := List.mem_iff_getElem?.1 hy
      rw [List.getElem?_take] at hi
      split at hi
      · rename_i h1; exact less_before h1 hi
      · cases hi
    refine List.pairwise_append.2 ⟨ht, List.pairwise_cons.2 ⟨hx, hd⟩, fun a ha b hb' => ?_⟩
    rcases List.mem_cons.1 hb' with rfl | hb'
    · exact hb a ha
    · exact lessP_trans (hb a ha) (hx b hb')
end Go.Proofs.Ytigbfankkmmnbaa
set_option linter.unusedVariables false
set_option linter.unusedSimpArgs false
namespace Go.Proofs.Ytigbfankkmmnbaa
open Go.RowKit Gk

/-- a list of numbers that was made: in a block of numbers -/
abbrev IL (w : World) (u : Value) (x : List Int) : Prop := Own Ty.int 3 0 (fun _ => True) w u x
theorem IL.keep {w w' : World} {u : Value} {x : List Int} (h : IL w u x) (hb : ∀ g, u.ownBlock = some g → w'.heap[g]? = w.heap[g]?) : IL w' u x := by
  obtain ⟨css, ⟨g1, g2⟩, h2, h3, h5, h4⟩ := h
  refine ⟨css, ⟨g1, ?_⟩, h2, h3, h5, fun i y hy => ?_⟩
  · rcases g2 with g2 | ⟨g, cap, cur, rfl, r1, r2, r3⟩
    · exact .inl g2
    · exact .inr ⟨g, cap, cur, rfl, r1, (hb g rfl).trans r2, r3⟩
  · obtain ⟨cs, hc, hf⟩ := h4 i y hy
    exact ⟨cs, hc, fun _ _ _ => hf.now⟩
/-- blocks of numbers stay -/
structure KI (w w' : World) : Prop where
  size : w.heap.size ≤ w'.heap.size
  block : ∀ (g : Nat) (cur : Array Value), w.heap[g]? = some (Obj.cells cur 3 (0, 0)) → w'.heap[g]? = w.heap[g]?
theorem KI.refl (w : World) : KI w w := ⟨Nat.le_refl _, fun _ _ _ => rfl⟩
theorem KI.trans {a b c : World} (h : KI a b) (k : KI b c) : KI a c := ⟨Nat.le_trans h.size k.size, fun g cur hg => (k.block g cur ((h.block g cur hg).trans hg)).trans (h.block g cur hg)⟩
theorem KI.below {w w' : World} (h : Below w.heap.size w w') : KI w w' := ⟨h.size, fun g cur hg => h.block g (Array.getElem?_eq_some_iff.1 hg).1⟩
/-- all but one block stay, which is none of numbers -/
theorem KI.grown {w w' : World} {row : Option Nat} (h : w.grownBy w' row) (hr : ∀ (g : Nat) (cur : Array Value), row = some g → w.heap[g]? ≠ some (Obj.cells cur 3 (0, 0))) : KI w w' :=
  ⟨h.size, fun g cur hg => h.block g (Array.getElem?_eq_some_iff.1 hg).1 (fun e => hr g cur e.symm hg)⟩
theorem KI.set {w : World} {b : Nat} {cs : Array Value} {t : TypeId} (h : Box w b cs t) (ht : t ≠ 3) (i : Nat) (v : Value) : KI w (w.setCell ⟨b, i, none⟩ v) :=
  ⟨by simp, fun g cur hg => Below.heap_setCell w ⟨b, i, none⟩ v g (fun e => by
    have e : g = b := e
    subst e; unfold Box at h; rw [h] at hg; injection hg with hg; injection hg with _ hg; exact ht hg)⟩
theorem IL.ki {w w' : World} {u : Value} {x : List Int} (h : IL w u x) (k : KI w w') : IL w' u x := by
  have hk := h
  obtain ⟨css, ⟨g1, g2⟩, h2, h3, h5, h4⟩ := hk
  refine h.keep fun g hg => ?_
  rcases g2 with ⟨rfl, _⟩ | ⟨g', cap, cur, rfl, r1, r2, r3⟩
  · simp [Value.ownBlock] at hg
  · simp [Value.ownBlock] at hg
    subst hg
    exact k.block _ _ r2
theorem IL.nil (w : World) : IL w (.slice none 0 0) [] := Own.nil _ _ _ _ _
theorem IL.ne {w : World} {u : Value} {x : List Int} (h : IL w u x) {g : Nat} {cur : Array Value} {t : TypeId} {fr : Nat × Nat} (hg : w.heap[g]? = some (Obj.cells cur t fr)) (ht : t ≠ 3) : u.ownBlock ≠ some g := by
  intro e
  obtain ⟨css, ⟨g1, g2⟩, h2, h3, h5, h4⟩ := h
  rcases g2 with ⟨rfl, _⟩ | ⟨g', cap, cur', rfl, r1, r2, r3⟩
  · simp [Value.ownBlock] at e
  · simp [Value.ownBlock] at e
    subst e
    rw [hg] at r2; injection r2 with r2; injection r2 with _ r2; exact ht r2
theorem IL.of {B : Nat} {D : Nat → Prop} {w : World} {u : Value} {x : List Int} (h : Own Ty.int 3 B D w u x) : IL w u x := by
  obtain ⟨css, ⟨g1, g2⟩, h2, h3, h5, h4⟩ := h
  refine ⟨css, ⟨g1, ?_⟩, h2, h3, fun _ _ => trivial, fun i y hy => ?_⟩
  · rcases g2 with g2 | ⟨g, cap, cur, rfl, r1, r2⟩
    · exact .inl g2
    · exact .inr ⟨g, cap, cur, rfl, Nat.zero_le _, r2⟩
  · obtain ⟨cs, hc, hf⟩ := h4 i y hy
    exact ⟨cs, hc, fun _ _ _ => hf.now⟩
def Bag (B : Nat) (w : World) (v : Value) (xs : List (List Int)) : Prop :=
  ∃ us : List Value, w.ownsRow B 35 1 v xs.length us ∧ xs.length ≤ LB ∧ ∀ (i : Nat) x, xs[i]? = some x → ∃ u, us[i]? = some u ∧ IL w u x
theorem Bag.keep {B : Nat} {w w' : World} {v : Value} {xs : List (List Int)} (h : Bag B w v xs) (k : KI w w') (hb : ∀ g, v.ownBlock = some g → w'.heap[g]? = w.heap[g]?) : Bag B w' v xs := by
  obtain ⟨us, ⟨g1, g2⟩, h2, h3⟩ := h
  refine ⟨us, ⟨g1, ?_⟩, h2, fun i x hx => ?_⟩
  · rcases g2 with g2 | ⟨g, cap, cur, rfl, r1, r2, r3⟩
    · exact .inl g2
    · exact .inr ⟨g, cap, cur, rfl, r1, (hb g rfl).trans r2, r3⟩
  · obtain ⟨u, hu, hi⟩ := h3 i x hx
    exact ⟨u, hu, hi.ki k⟩
theorem Bag.below {B : Nat} {w w' : World} {v : Value} {xs : List (List Int)} (h : Bag B w v xs) (k : Below w.heap.size w w') : Bag B w' v xs := by
  have hh := h
  obtain ⟨us, g, h2, h3⟩ := hh
  exact h.keep (KI.below k) fun b hb => k.block b (g.lt b hb).2
theorem Bag.nil (B : Nat) (w : World) : Bag B w (.slice none 0 0) [] := ⟨[], World.ownsRow_nil _ _ _ _, by simp [LB], by simp⟩
theorem Bag.lt {B : Nat} {w : World} {v : Value} {xs : List (List Int)} (h : Bag B w v xs) (k : Nat) (hk : v.ownBlock = some k) : B ≤ k ∧ k < w.heap.size := by
  obtain ⟨us, g, _⟩ := h; exact g.lt k hk
theorem Bag.mono {B B' : Nat} {w : World} {v : Value} {xs : List (List Int)} (h : Bag B w v xs) (hb : ∀ k, v.ownBlock = some k → B' ≤ k) : Bag B' w v xs := by
  obtain ⟨us, ⟨g1, g2⟩, h2, h3⟩ := h
  refine ⟨us, ⟨g1, ?_⟩, h2, h3⟩
  rcases g2 with g2 | ⟨g, cap, cur, rfl, r1, r2, r3⟩
  · exact .inl g2
  · exact .inr ⟨g, cap, cur, rfl, hb g rfl, r2, r3⟩
theorem Bag.lb {B : Nat} {w : World} {v : Value} {xs : List (List Int)} (h : Bag B w v xs) : xs.length ≤ 140737488355328 := by obtain ⟨us, g, h2, h3⟩ := h; exact h2
theorem Bag.sl {B : Nat} {w : World} {v : Value} {xs : List (List Int)} (h : Bag B w v xs) : Sl (Ty.slice Ty.int) w v xs := by
  obtain ⟨us, g, h2, h3⟩ := h
  have hcells := g
  obtain ⟨g1, g2⟩ := g
  rcases g2 with ⟨rfl, h0⟩ | ⟨g, cap, cur, rfl, r1, r2, r3, r4, r5, r6⟩
  · obtain rfl := List.eq_nil_of_length_eq_zero h0
    exact Sl.nil _ _
  · refine ⟨_, cap, rfl, r3, r4, h2, fun i x hx => ?_⟩
    obtain ⟨u, hu, hi⟩ := h3 i x hx
    refine ⟨_, [u], rfl, ⟨u, rfl, hi.sl⟩, fun j u' hj => ?_⟩
    match j, hj with
    | 0, hj =>
      simp at hj; subst hj
      exact hcells.cells (g := g) rfl _ _ (by show us[i * 1 + 0]? = _; simpa using hu)
/-- the block of a bag is none of numbers -/
theorem Bag.notInt {B : Nat} {w : World} {v : Value} {xs : List (List Int)} (h : Bag B w v xs) : ∀ (g : Nat) (cur : Array Value), v.ownBlock = some g → w.heap[g]? ≠ some (Obj.cells cur 3 (0, 0)) := by
  intro g cur hg e
  obtain ⟨us, ⟨g1, g2⟩, h2, h3⟩ := h
  rcases g2 with ⟨rfl, h0⟩ | ⟨g', cap, cur', rfl, r1, r2, r3, r4, r5, r6⟩
  · simp [Value.ownBlock] at hg
  · simp [Value.ownBlock] at hg
    subst hg
    rw [r2] at e; injection e with e; injection e with _ e; exact absurd e (by decide)
/-- a bag of one, laid by hand -/
theorem Bag.lit1 {B : Nat} {w : World} {u : Value} {x : List Int} (hx : IL w u x) (hB : B ≤ w.heap.size) : Bag B (w.alloc (.cells #[u] 35)) (.slice (some ⟨w.heap.size, 0, none⟩) 1 1) [x] := by
  have h := World.ownsRow_lit (base := B) (e := 35) (size := 1) w #[u] 1 hB (by simp [maxLen]) rfl
  refine ⟨[u], h, by simp [LB], fun i y hy => ?_⟩
  match i, hy with
  | 0, hy =>
    simp at hy; subst hy
    exact ⟨u, rfl, hx.ki (KI.below ((Below.refl _ _).alloc (Nat.le_refl _) _))⟩
end Go.Proofs.Ytigbfankkmmnbaa
