/- Cells that are set one by one, as lists. -/
import Derived.Test.YtgjobbapnileiaaBag
import Derived.Shelf.Spec.SlicesInsertGrow
set_option linter.unusedVariables false
set_option linter.unusedSimpArgs false
namespace Go.Proofs.Ytgjobbapnileiaa
open Go.RowKit Gk

def over (l : List Value) : Nat → List Value → List Value
  | _, [] => l
  | o, v :: r => over (l.set o v) (o + 1) r
  termination_by _ vs => vs.length
theorem over_eq : ∀ (vs : List Value) (l : List Value) (o : Nat), o + vs.length ≤ l.length → over l o vs = l.take o ++ vs ++ l.drop (o + vs.length) := by
  intro vs
  induction vs with
  | nil => intro l o _; simp [over]
  | cons v r ih =>
    intro l o h
    simp only [List.length_cons] at h
    rw [over, ih (l.set o v) (o + 1) (by simp; omega)]
    have h1 : (l.set o v).take (o + 1) = l.take o ++ [v] := by
      rw [List.take_add_one, List.take_set_of_le (Nat.le_refl _)]
      rw [List.getElem?_set_self (by omega)]; rfl
    have h2 : (l.set o v).drop (o + 1 + r.length) = l.drop (o + (v :: r).length) := by
      rw [List.drop_set_of_lt (by omega)]; simp only [List.length_cons]; congr 1; omega
    rw [h1, h2]; simp
theorem heap_setCells (b : Nat) : ∀ (vs : List Value) (o : Nat) (w : World) (cur : Array Value) (e : TypeId) (fr : Nat × Nat), w.heap[b]? = some (Obj.cells cur e fr) → ∃ cur', (w.setCells b o vs).heap[b]? = some (Obj.cells cur' e fr) ∧ cur'.toList = over cur.toList o vs := by
  intro vs
  induction vs with
  | nil => intro o w cur e fr h; exact ⟨cur, h, by rw [over]⟩
  | cons v r ih =>
    intro o w cur e fr h
    rw [World.setCells]
    have h1 : (w.setCell ⟨b, o, none⟩ v).heap[b]? = some (Obj.cells (cur.setIfInBounds o v) e fr) := by
      simp only [World.setCell, Array.getElem?_modify, h]; simp
    obtain ⟨cur', h2, h3⟩ := ih (o + 1) _ _ _ _ h1
    exact ⟨cur', h2, by rw [h3, over]; simp⟩
theorem heap_setCells_other (b : Nat) : ∀ (vs : List Value) (o : Nat) (w : World) (c : Nat), c ≠ b → (w.setCells b o vs).heap[c]? = w.heap[c]? := by
  intro vs
  induction vs with
  | nil => intro o w c _; rfl
  | cons v r ih => intro o w c h; rw [World.setCells, ih (o + 1) _ c h]; exact Below.heap_setCell w ⟨b, o, none⟩ v c h
theorem size_setCells (b : Nat) : ∀ (vs : List Value) (o : Nat) (w : World), (w.setCells b o vs).heap.size = w.heap.size ∧ (w.setCells b o vs).os = w.os ∧ (w.setCells b o vs).tape = w.tape ∧ (w.setCells b o vs).output = w.output := by
  intro vs
  induction vs with
  | nil => intro o w; exact ⟨rfl, rfl, rfl, rfl⟩
  | cons v r ih =>
    intro o w; rw [World.setCells]
    obtain ⟨h1, h2, h3, h4⟩ := ih (o + 1) (w.setCell ⟨b, o, none⟩ v)
    exact ⟨by rw [h1]; simp [World.setCell], by rw [h2]; rfl, by rw [h3]; rfl, by rw [h4]; rfl⟩
theorem grown_setCells (b o : Nat) (vs : List Value) (w : World) : w.grownBy (w.setCells b o vs) (some b) := by
  obtain ⟨h1, h2, h3, h4⟩ := size_setCells b vs o w
  exact ⟨h2, h3, h4, by omega, fun k _ hk => heap_setCells_other b vs o w k (fun e => hk (by rw [e]))⟩
/-- a list with one more -/
def insAt {α : Type} (l : List α) (i : Nat) (x : α) : List α := l.take i ++ x :: l.drop i
theorem insAt_length {α : Type} {l : List α} {i : Nat} {x : α} (h : i ≤ l.length) : (insAt l i x).length = l.length + 1 := by
  unfold insAt; simp; omega
theorem insAt_get {α β : Type} {l : List α} {m : List β} {R : α → β → Prop} (hl : l.length = m.length) (h : ∀ (j : Nat) a, l[j]? = some a → ∃ b, m[j]? = some b ∧ R a b) {i : Nat} (hi : i ≤ l.length) {x : α} {y : β} (hx : R x y) :
    ∀ (j : Nat) a, (insAt l i x)[j]? = some a → ∃ b, (insAt m i y)[j]? = some b ∧ R a b := by
  intro j a ha
  unfold insAt at ha ⊢
  have ht : (l.take i).length = i := by simp; omega
  have ht' : (m.take i).length = i := by simp; omega
  rcases Nat.lt_trichotomy j i with h1 | h1 | h1
  · rw [List.getElem?_append_left (by omega), List.getElem?_take, if_pos h1] at ha
    obtain ⟨b, hb, hr⟩ := h j a ha
    exact ⟨b, by rw [List.getElem?_append_left (by omega), List.getElem?_take, if_pos h1]; exact hb, hr⟩
  · subst h1
    rw [List.getElem?_append_right (by omega), ht, Nat.sub_self] at ha
    injection ha with ha
    exact ⟨y, by rw [List.getElem?_append_right (by omega), ht', Nat.sub_self]; rfl, ha ▸ hx⟩
  · rw [List.getElem?_append_right (by omega), ht, show j - i = (j - i - 1) + 1 by omega, List.getElem?_cons_succ, List.getElem?_drop] at ha
    obtain ⟨b, hb, hr⟩ := h _ a ha
    exact ⟨b, by rw [List.getElem?_append_right (by omega), ht', show j - i = (j - i - 1) + 1 by omega, List.getElem?_cons_succ, List.getElem?_drop]; exact hb, hr⟩
theorem insAt_end {α : Type} (l : List α) (x : α) : insAt l l.length x = l ++ [x] := by simp [insAt]
end Go.Proofs.Ytgjobbapnileiaa
