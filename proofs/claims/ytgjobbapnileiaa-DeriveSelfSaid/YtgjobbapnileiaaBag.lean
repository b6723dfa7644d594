/- Lists of lists of numbers that are a call's own: bags. -/
import Derived.Test.YtgjobbapnileiaaOrd
set_option linter.unusedVariables false
set_option linter.unusedSimpArgs false
namespace Go.Proofs.Ytgjobbapnileiaa
open Go.RowKit Gk

/-- a list of numbers that was made: in a block of numbers -/
abbrev IL (w : World) (u : Value) (x : List Int) : Prop := Own Ty.int 3 0 (fun _ => True) w u x
theorem IL.keep {w w' : World} {u : Value} {x : List Int} (h : IL w u x) (hb : ∀ g, u.ownBlock = some g → w'.heap[g]? = w.heap[g]?) : IL w' u x := by
  obtain ⟨css, ⟨g1, g2⟩, h2, h3, h5, h4⟩ := h
  refine ⟨css, ⟨g1, ?_⟩, h2, h3, h5, fun i y hy => ?_⟩
  · rcases g2 with g2 | ⟨g, cap, cur, rfl, r1, r2, r3⟩
    · exact .inl g2
    · exact .inr ⟨g, cap, cur, rfl, r1, (hb g rfl).trans r2, r3⟩
  · obtain ⟨cs, hc, hf⟩ := h4 i y hy
    exact ⟨cs, hc, fun _ _ _ => hf.now⟩
/-- blocks of numbers stay -/
structure KI (w w' : World) : Prop where
  size : w.heap.size ≤ w'.heap.size
  block : ∀ (g : Nat) (cur : Array Value), w.heap[g]? = some (Obj.cells cur 3 (0, 0)) → w'.heap[g]? = w.heap[g]?
theorem KI.refl (w : World) : KI w w := ⟨Nat.le_refl _, fun _ _ _ => rfl⟩
theorem KI.trans {a b c : World} (h : KI a b) (k : KI b c) : KI a c := ⟨Nat.le_trans h.size k.size, fun g cur hg => (k.block g cur ((h.block g cur hg).trans hg)).trans (h.block g cur hg)⟩
theorem KI.below {w w' : World} (h : Below w.heap.size w w') : KI w w' := ⟨h.size, fun g cur hg => h.block g (Array.getElem?_eq_some_iff.1 hg).1⟩
/-- all but one block stay, which is none of numbers -/
theorem KI.grown {w w' : World} {row : Option Nat} (h : w.grownBy w' row) (hr : ∀ (g : Nat) (cur : Array Value), row = some g → w.heap[g]? ≠ some (Obj.cells cur 3 (0, 0))) : KI w w' :=
  ⟨h.size, fun g cur hg => h.block g (Array.getElem?_eq_some_iff.1 hg).1 (fun e => hr g cur e.symm hg)⟩
theorem KI.set {w : World} {b : Nat} {cs : Array Value} {t : TypeId} (h : Box w b cs t) (ht : t ≠ 3) (i : Nat) (v : Value) : KI w (w.setCell ⟨b, i, none⟩ v) :=
  ⟨by simp, fun g cur hg => Below.heap_setCell w ⟨b, i, none⟩ v g (fun e => by
    have e : g = b := e
    subst e; unfold Box at h; rw [h] at hg; injection hg with hg; injection hg with _ hg; exact ht hg)⟩
theorem IL.ki {w w' : World} {u : Value} {x : List Int} (h : IL w u x) (k : KI w w') : IL w' u x := by
  have hk := h
  obtain ⟨css, ⟨g1, g2⟩, h2, h3, h5, h4⟩ := hk
  refine h.keep fun g hg => ?_
  rcases g2 with ⟨rfl, _⟩ | ⟨g', cap, cur, rfl, r1, r2, r3⟩
  · simp [Value.ownBlock] at hg
  · simp [Value.ownBlock] at hg
    subst hg
    exact k.block _ _ r2
theorem IL.nil (w : World) : IL w (.slice none 0 0) [] := Own.nil _ _ _ _ _
theorem IL.ne {w : World} {u : Value} {x : List Int} (h : IL w u x) {g : Nat} {cur : Array Value} {t : TypeId} {fr : Nat × Nat} (hg : w.heap[g]? = some (Obj.cells cur t fr)) (ht : t ≠ 3) : u.ownBlock ≠ some g := by
  intro e
  obtain ⟨css, ⟨g1, g2⟩, h2, h3, h5, h4⟩ := h
  rcases g2 with ⟨rfl, _⟩ | ⟨g', cap, cur', rfl, r1, r2, r3⟩
  · simp [Value.ownBlock] at e
  · simp [Value.ownBlock] at e
    subst e
    rw [hg] at r2; injection r2 with r2; injection r2 with _ r2; exact ht r2
theorem IL.of {B : Nat} {D : Nat → Prop} {w : World} {u : Value} {x : List Int} (h : Own Ty.int 3 B D w u x) : IL w u x := by
  obtain ⟨css, ⟨g1, g2⟩, h2, h3, h5, h4⟩ := h
  refine ⟨css, ⟨g1, ?_⟩, h2, h3, fun _ _ => trivial, fun i y hy => ?_⟩
  · rcases g2 with g2 | ⟨g, cap, cur, rfl, r1, r2⟩
    · exact .inl g2
    · exact .inr ⟨g, cap, cur, rfl, Nat.zero_le _, r2⟩
  · obtain ⟨cs, hc, hf⟩ := h4 i y hy
    exact ⟨cs, hc, fun _ _ _ => hf.now⟩
def Bag (B : Nat) (w : World) (v : Value) (xs : List (List Int)) : Prop :=
  ∃ us : List Value, w.ownsRow B 34 1 v xs.length us ∧ xs.length ≤ LB ∧ ∀ (i : Nat) x, xs[i]? = some x → ∃ u, us[i]? = some u ∧ IL w u x
theorem Bag.keep {B : Nat} {w w' : World} {v : Value} {xs : List (List Int)} (h : Bag B w v xs) (k : KI w w') (hb : ∀ g, v.ownBlock = some g → w'.heap[g]? = w.heap[g]?) : Bag B w' v xs := by
  obtain ⟨us, ⟨g1, g2⟩, h2, h3⟩ := h
  refine ⟨us, ⟨g1, ?_⟩, h2, fun i x hx => ?_⟩
  · rcases g2 with g2 | ⟨g, cap, cur, rfl, r1, r2, r3⟩
    · exact .inl g2
    · exact .inr ⟨g, cap, cur, rfl, r1, (hb g rfl).trans r2, r3⟩
  · obtain ⟨u, hu, hi⟩ := h3 i x hx
    exact ⟨u, hu, hi.ki k⟩
theorem Bag.below {B : Nat} {w w' : World} {v : Value} {xs : List (List Int)} (h : Bag B w v xs) (k : Below w.heap.size w w') : Bag B w' v xs := by
  have hh := h
  obtain ⟨us, g, h2, h3⟩ := hh
  exact h.keep (KI.below k) fun b hb => k.block b (g.lt b hb).2
theorem Bag.nil (B : Nat) (w : World) : Bag B w (.slice none 0 0) [] := ⟨[], World.ownsRow_nil _ _ _ _, by simp [LB], by simp⟩
theorem Bag.lt {B : Nat} {w : World} {v : Value} {xs : List (List Int)} (h : Bag B w v xs) (k : Nat) (hk : v.ownBlock = some k) : B ≤ k ∧ k < w.heap.size := by
  obtain ⟨us, g, _⟩ := h; exact g.lt k hk
theorem Bag.mono {B B' : Nat} {w : World} {v : Value} {xs : List (List Int)} (h : Bag B w v xs) (hb : ∀ k, v.ownBlock = some k → B' ≤ k) : Bag B' w v xs := by
  obtain ⟨us, ⟨g1, g2⟩, h2, h3⟩ := h
  refine ⟨us, ⟨g1, ?_⟩, h2, h3⟩
  rcases g2 with g2 | ⟨g, cap, cur, rfl, r1, r2, r3⟩
  · exact .inl g2
  · exact .inr ⟨g, cap, cur, rfl, hb g rfl, r2, r3⟩
theorem Bag.lb {B : Nat} {w : World} {v : Value} {xs : List (List Int)} (h : Bag B w v xs) : xs.length ≤ 140737488355328 := by obtain ⟨us, g, h2, h3⟩ := h; exact h2
theorem Bag.sl {B : Nat} {w : World} {v : Value} {xs : List (List Int)} (h : Bag B w v xs) : Sl (Ty.slice Ty.int) w v xs := by
  obtain ⟨us, g, h2, h3⟩ := h
  have hcells := g
  obtain ⟨g1, g2⟩ := g
  rcases g2 with ⟨rfl, h0⟩ | ⟨g, cap, cur, rfl, r1, r2, r3, r4, r5, r6⟩
  · obtain rfl := List.eq_nil_of_length_eq_zero h0
    exact Sl.nil _ _
  · refine ⟨_, cap, rfl, r3, r4, h2, fun i x hx => ?_⟩
    obtain ⟨u, hu, hi⟩ := h3 i x hx
    refine ⟨_, [u], rfl, ⟨u, rfl, hi.sl⟩, fun j u' hj => ?_⟩
    match j, hj with
    | 0, hj =>
      simp at hj; subst hj
      exact hcells.cells (g := g) rfl _ _ (by show us[i * 1 + 0]? = _; simpa using hu)
/-- the block of a bag is none of numbers -/
theorem Bag.notInt {B : Nat} {w : World} {v : Value} {xs : List (List Int)} (h : Bag B w v xs) : ∀ (g : Nat) (cur : Array Value), v.ownBlock = some g → w.heap[g]? ≠ some (Obj.cells cur 3 (0, 0)) := by
  intro g cur hg e
  obtain ⟨us, ⟨g1, g2⟩, h2, h3⟩ := h
  rcases g2 with ⟨rfl, h0⟩ | ⟨g', cap, cur', rfl, r1, r2, r3, r4, r5, r6⟩
  · simp [Value.ownBlock] at hg
  · simp [Value.ownBlock] at hg
    subst hg
    rw [r2] at e; injection e with e; injection e with _ e; exact absurd e (by decide)
/-- a bag of one, laid by hand -/
theorem Bag.lit1 {B : Nat} {w : World} {u : Value} {x : List Int} (hx : IL w u x) (hB : B ≤ w.heap.size) : Bag B (w.alloc (.cells #[u] 34)) (.slice (some ⟨w.heap.size, 0, none⟩) 1 1) [x] := by
  have h := World.ownsRow_lit (base := B) (e := 34) (size := 1) w #[u] 1 hB (by simp [maxLen]) rfl
  refine ⟨[u], h, by simp [LB], fun i y hy => ?_⟩
  match i, hy with
  | 0, hy =>
    simp at hy; subst hy
    exact ⟨u, rfl, hx.ki (KI.below ((Below.refl _ _).alloc (Nat.le_refl _) _))⟩
end Go.Proofs.Ytgjobbapnileiaa
