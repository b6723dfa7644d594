/- Sets of ints as maps, maps of places to sets, and ranging over a set. -/
import Derived.Test.YtgjobbapnileiaaTy2
import Derived.Maps.RangeWalk
set_option linter.unusedVariables false
set_option linter.unusedSimpArgs false
namespace Gk
open Go Go.RowKit Go.Maps
section
variable {P : Program} {k e t : TypeId}

theorem wfOf {x : Int} (h : Ty.i64 x) : (Lit.int .i64 x).wf = true := by
  unfold Ty.i64 at h
  simp only [Lit.wf, Bool.and_eq_true, decide_eq_true_eq]
  exact h
theorem ofWf {x : Int} (h : (Lit.int .i64 x).wf = true) : Ty.i64 x := by
  simp only [Lit.wf, Bool.and_eq_true, decide_eq_true_eq] at h
  unfold Ty.i64
  exact h
theorem tight {H : Type} {R : Value → Option (DataW H × List MemPlace)} {w : World} {b n : Nat} {D : DataW H} (h : w.ownsMap P k R b n D) : w.ownsMap P k R b (Maps.size D) D := by
  obtain ⟨es, clock, hb, F, _, rfl⟩ := h
  exact ⟨es, clock, hb, F, by simp [Maps.size, length_sorted], rfl⟩
theorem ownsMap_keep {H : Type} {R : Value → Option (DataW H × List MemPlace)} {w w' : World} {b n : Nat} {D : DataW H} (h : w.ownsMap P k R b n D) (hb : w'.heap[b]? = w.heap[b]?) : w'.ownsMap P k R b n D := by
  obtain ⟨es, clock, h1, r⟩ := h
  exact ⟨es, clock, hb.trans h1, r⟩

/-- what the datum of a set of ints says -/
structure SetD (D : DataW Unit) (K : List Int) : Prop where
  nodup : K.Nodup
  i64 : ∀ x ∈ K, Ty.i64 x
  has : ∀ x, Ty.i64 x → Maps.has D (.int .i64 x) = decide (x ∈ K)
  size : Maps.size D = K.length
  at_ : ∀ x, Ty.i64 x → D.atKey (.int .i64 x) (.lit (.bool false)) = .lit (.bool (decide (x ∈ K)))
/-- block b is a set of ints, whose members are K's -/
def SetAt (P : Program) (k e : TypeId) (w : World) (b : Nat) (K : List Int) : Prop := ∃ D : DataW Unit, w.ownsMap P k (plainElem P e) b K.length D ∧ SetD D K
def insK (x : Int) (K : List Int) : List Int := if x ∈ K then K else K ++ [x]
theorem mem_insK {x y : Int} {K : List Int} : y ∈ insK x K ↔ y ∈ K ∨ y = x := by
  unfold insK; split
  · constructor
    · exact .inl
    · rintro (h | rfl) <;> assumption
  · simp
theorem nodup_insK {x : Int} {K : List Int} (h : K.Nodup) : (insK x K).Nodup := by
  unfold insK; split
  · exact h
  · exact nodup_snoc h (by assumption)
theorem SetAt.new (w : World) : SetAt P k e (w.alloc (.map #[] 0)) w.heap.size [] :=
  ⟨_, World.ownsMap_made w P k (plainElem P e), by simp, by simp, fun x _ => by simp [Maps.has], rfl, fun x _ => by simp [DataW.atKey]⟩
theorem SetAt.lt {w : World} {b : Nat} {K : List Int} (h : SetAt P k e w b K) : b < w.heap.size := by obtain ⟨D, h, _⟩ := h; exact h.lt
theorem SetAt.keep {w w' : World} {b : Nat} {K : List Int} (h : SetAt P k e w b K) (hb : w'.heap[b]? = w.heap[b]?) : SetAt P k e w' b K := by
  obtain ⟨D, h, r⟩ := h; exact ⟨D, ownsMap_keep h hb, r⟩
theorem isKey (x : Int) : WideAt.IsKeyLit (.int .i64 x) := by simp [WideAt.IsKeyLit]
theorem SetD.put {D : DataW Unit} {K : List Int} {x : Int} (hD : IsMap D) (hT : Tidy D) (hx : Ty.i64 x) (h : SetD D K) : SetD (D.put (.int .i64 x) (.lit (.bool true))) (insK x K) := by
  refine ⟨nodup_insK h.nodup, fun y hy => ?_, fun y hy => ?_, ?_, fun y hy => ?_⟩
  · rcases mem_insK.1 hy with hy | rfl
    · exact h.i64 y hy
    · exact hx
  · by_cases e : y = x
    · subst e; rw [has_put_same hD (isKey _)]; simp [mem_insK]
    · rw [has_put_other (by intro e'; injection e' with _ e'; exact e e'), h.has y hy]; simp [mem_insK, e]
  · rw [size_put hT, h.has x hx, h.size]
    unfold insK
    by_cases hm : x ∈ K <;> simp [hm]
  · by_cases e : y = x
    · subst e; rw [atKey_put_same hD (isKey _)]; simp [mem_insK]
    · rw [atKey_put_other (by intro e'; injection e' with _ e'; exact e e'), h.at_ y hy]; simp [mem_insK, e]
theorem SetAt.update {w : World} {b : Nat} {K : List Int} (h : SetAt P k e w b K) (hk : P.underlying k = some (.int .i64)) (he : P.underlying e = some .bool) (ht : P.underlying t = some (.map k e)) {x : Int} (hx : Ty.i64 x) (hn : K.length < maxLen) :
    ∃ w', (Instr.mapUpdate t (.map (some b)) (.int .i64 x) (.bool true)).run P w = .ok () w' ∧ SetAt P k e w' b (insK x K) ∧ w.grownBy w' (some b) := by
  obtain ⟨D, h, hS⟩ := h
  obtain ⟨w', h1, h2, h3⟩ := h.update (int_keyed hk) ht hn (keyOf_int_mk hk (wfOf hx)) (plainElem_bool he true)
  have hS' := hS.put h.isMap (h.tidy (int_keyed hk)) hx
  refine ⟨w', h1, ⟨_, ?_, hS'⟩, h3⟩
  rw [← hS'.size]; exact tight h2
theorem SetAt.lookup {w : World} {b : Nat} {K : List Int} (h : SetAt P k e w b K) (hk : P.underlying k = some (.int .i64)) (he : P.underlying e = some .bool) (ht : P.underlying t = some (.map k e)) (hz : (zeroValue e).run P w = .ok (.bool false) w) {x : Int} (hx : Ty.i64 x) :
    (Instr.lookup t (.map (some b)) (.int .i64 x) false).run P w = .ok (.bool (decide (x ∈ K))) w := by
  obtain ⟨D, h, hS⟩ := h
  obtain ⟨v, ps, hr, hv⟩ := h.lookup (int_keyed hk) ht hz (plainElem_bool he false) (keyOf_int_mk hk (wfOf hx))
  rw [hS.at_ x hx] at hv
  have : v = .bool (decide (x ∈ K)) := by
    unfold plainElem at hv; rw [he] at hv
    cases v <;> simp at hv
    rw [hv.1]
  rw [this] at hr; exact hr
theorem SetAt.len {w : World} {b : Nat} {K : List Int} (h : SetAt P k e w b K) (ht : P.underlying t = some (.map k e)) (ty : TypeId) : (Builtin.len_ #[t] ty #[.map (some b)]).run P w = .ok (.int .i64 K.length) w := by
  obtain ⟨D, h, hS⟩ := h
  rw [h.len ht ty, hS.size]
/-- ranging over it: L's are still to come -/
def RangeAt (P : Program) (k e : TypeId) (w : World) (b r : Nat) (K L : List Int) (cnt : Nat) : Prop :=
  ∃ (D : DataW Unit) (left : Lit → Bool), w.ranges P k (plainElem P e) b r K.length D left cnt ∧ SetD D K ∧ (∀ x, Ty.i64 x → left (.int .i64 x) = decide (x ∈ L)) ∧ ∀ x ∈ L, x ∈ K
theorem RangeAt.set {w : World} {b r : Nat} {K L : List Int} {cnt : Nat} (h : RangeAt P k e w b r K L cnt) : SetAt P k e w b K := by
  obtain ⟨D, left, h1, h2, _⟩ := h; exact ⟨D, h1.owns, h2⟩
theorem RangeAt.left_eq {w : World} {b r : Nat} {K L : List Int} {cnt : Nat} (h : RangeAt P k e w b r K L cnt) : w.rangeLeft b r = cnt := by
  obtain ⟨D, left, h1, h2, _⟩ := h; exact h1.left_eq
theorem RangeAt.lt {w : World} {b r : Nat} {K L : List Int} {cnt : Nat} (h : RangeAt P k e w b r K L cnt) : b < w.heap.size ∧ r < w.heap.size ∧ r ≠ b := by
  obtain ⟨D, left, h1, h2, _⟩ := h; exact ⟨h1.owns.lt, h1.lt, h1.ne⟩
theorem RangeAt.keep {w w' : World} {b r : Nat} {K L : List Int} {cnt : Nat} (h : RangeAt P k e w b r K L cnt) (hb : w'.heap[b]? = w.heap[b]?) (hr : w'.heap[r]? = w.heap[r]?) : RangeAt P k e w' b r K L cnt := by
  obtain ⟨D, left, ⟨es, clock, since, seen, c0, h1, F, h2, h3, h4, h5⟩, r⟩ := h
  exact ⟨D, left, ⟨es, clock, since, seen, c0, hb.trans h1, F, h2, h3, hr.trans h4, h5⟩, r⟩
theorem SetAt.range {w : World} {b : Nat} {K : List Int} (h : SetAt P k e w b K) (hk : P.underlying k = some (.int .i64)) (ht : P.underlying t = some (.map k e)) :
    ∃ w', (Instr.range t (.map (some b))).run P w = .ok (.pointer (some ⟨w.heap.size, 0, none⟩)) w' ∧ RangeAt P k e w' b w.heap.size K K K.length ∧ w.grownBy w' none ∧ w'.heap.size = w.heap.size + 1 := by
  obtain ⟨D, h, hS⟩ := h
  obtain ⟨w', h1, h2, h3, h4⟩ := h.range (int_keyed hk) ht
  rw [hS.size] at h2
  exact ⟨w', h1, ⟨D, _, h2, hS, hS.has, fun _ h => h⟩, h3, h4⟩
variable {w : World} {ops : Array Oper} {rest : List Oper} {o : Oper} {a : Act} {Q : Exit → Act → World → Prop}
theorem wpList_range (hg : o.guard = none) (m : Operand) (t k e : TypeId) (b : Nat) (K : List Int) (hop : o.op = Op.range t m) (hk : P.underlying k = some (.int .i64)) (ht : P.underlying t = some (.map k e)) (hm : a.eval m = .map (some b)) (h : SetAt P k e w b K)
    (hK : ∀ w', RangeAt P k e w' b w.heap.size K K K.length → w.grownBy w' none → w'.heap.size = w.heap.size + 1 → wpList P ops Q rest (a.put o.dst (.pointer (some ⟨w.heap.size, 0, none⟩))) w') : wpList P ops Q (o :: rest) a w := by
  refine wpList_plain hg fun K' hK' => ?_
  obtain ⟨w', hrun, r1, r2, r3⟩ := h.range hk ht
  unfold Oper.wp
  simp [execOp, hop, hm, hrun, Result.andThen]
  exact hK' _ _ (hK w' r1 r2 r3)
theorem wpList_next (hg : o.guard = none) (it : Operand) (k e : TypeId) (b r : Nat) (K L : List Int) (cnt : Nat) (hop : o.op = Op.next it false) (hk : P.underlying k = some (.int .i64)) (he : P.underlying e = some .bool) (hit : a.eval it = .pointer (some ⟨r, 0, none⟩)) (h : RangeAt P k e w b r K L cnt)
    (hDone : (∀ x, x ∉ L) → wpList P ops Q rest (a.put o.dst (.tuple #[.bool false])) w)
    (hMore : ∀ (x : Int) (c : Bool) (w' : World) (cnt' : Nat), Ty.i64 x → x ∈ L → x ∈ K → RangeAt P k e w' b r K (L.filter (· ≠ x)) cnt' → cnt' < cnt → w.grownBy w' (some r) → w'.heap.size = w.heap.size →
      (Instr.entry (.pointer (some ⟨r, 0, none⟩))).run P w' = .ok (.tuple #[.int .i64 x, .bool c]) w' → wpList P ops Q rest (a.put o.dst (.tuple #[.bool true, .int .i64 x, .bool c])) w') :
    wpList P ops Q (o :: rest) a w := by
  obtain ⟨D, left, h1, hS, hl, hLK⟩ := h
  refine wpList_next_ranges w hg it hop k (int_keyed hk) (plainElem P e) (Value.int .i64) Value.bool (fun key kl hkey => by obtain ⟨x, rfl, _⟩ := Maps.keyOf_int_inv hk hkey; exact ⟨x, rfl⟩)
    (fun v y hv => by unfold plainElem at hv; rw [he] at hv; cases v <;> simp at hv; exact ⟨_, rfl⟩) b r K.length D left cnt hit h1 (fun h0 hn => hDone fun x hx => ?_) (fun x c kl y w' cnt' hkey hlk hv hat hrg hlt hgr hsz hen => ?_)
  · have := hl x (hS.i64 x (hLK x hx)); rw [hn] at this; simp [hx] at this
  · obtain ⟨x', ex, rfl, hwx⟩ := Maps.keyOf_int_inv hk hkey
    cases ex
    have hx := ofWf hwx
    have hxL : x ∈ L := by have := hl x hx; rw [hlk] at this; simpa using this
    refine hMore x c w' cnt' hx hxL (hLK x hxL) ⟨D, _, hrg, hS, fun z hz => ?_, fun z hz => hLK z (List.mem_filter.1 hz).1⟩ hlt hgr hsz hen
    rw [hl z hz]
    by_cases e : z = x
    · subst e; rw [WideAt.sameKey_self (isKey _)]; simp
    · rw [sameKey_ne (by intro e'; injection e' with _ e'; exact e e')]; simp [e]
theorem wpList_put (hg : o.guard = none) (hdst : o.dst = none) (m x v : Operand) (t k e : TypeId) (b : Nat) (K : List Int) (z : Int) (hop : o.op = Op.mapUpdate t m x v ∨ o.op = Op.insert t m x v) (hk : P.underlying k = some (.int .i64)) (he : P.underlying e = some .bool) (ht : P.underlying t = some (.map k e))
    (hm : a.eval m = .map (some b)) (hx : a.eval x = .int .i64 z) (hv : a.eval v = .bool true) (hz : Ty.i64 z) (h : SetAt P k e w b K) (hn : K.length < maxLen)
    (hK : ∀ w', SetAt P k e w' b (insK z K) → w.grownBy w' (some b) → wpList P ops Q rest a w') : wpList P ops Q (o :: rest) a w := by
  have hput : a.put o.dst undef = a := by rw [hdst]; rfl
  refine wpList_plain hg fun K' hK' => ?_
  obtain ⟨w', hrun, r1, r2⟩ := h.update hk he ht hz hn
  unfold Oper.wp
  rcases hop with hop | hop <;> (simp [execOp, hop, hm, hx, hv, hrun, Result.andThen]; exact hK' _ _ (by rw [hput]; exact hK w' r1 r2))
end
end Gk
