/- The order of sentences, and lists in that order: without a program. -/
import Derived.Test.YtgjobbapnileiaaDerM
set_option linter.unusedVariables false
set_option linter.unusedSimpArgs false
namespace Go.Proofs.Ytgjobbapnileiaa
open Go.RowKit Gk

def cmpI (a b : Int) : Int := if a < b then -1 else if b < a then 1 else 0
def cmpL : List Int → List Int → Int
  | [], [] => 0
  | [], _ :: _ => -1
  | _ :: _, [] => 1
  | x :: xs, y :: ys => if x < y then -1 else if y < x then 1 else cmpL xs ys
def ordP (a b : List Int) : Int := if a.length < b.length then -1 else if b.length < a.length then 1 else cmpL a b
def lessP (a b : List Int) : Bool := decide (ordP a b < 0)
theorem cmpL_self : ∀ a : List Int, cmpL a a = 0
  | [] => rfl
  | x :: xs => by simp [cmpL, cmpL_self xs]
theorem cmpL_zero : ∀ {a b : List Int}, cmpL a b = 0 → a = b
  | [], [], _ => rfl
  | [], _ :: _, h => by simp [cmpL] at h
  | _ :: _, [], h => by simp [cmpL] at h
  | x :: xs, y :: ys, h => by
    unfold cmpL at h
    split at h
    · simp at h
    · split at h
      · simp at h
      · rw [cmpL_zero h, show x = y by omega]
theorem cmpL_anti : ∀ a b : List Int, cmpL b a = - cmpL a b
  | [], [] => rfl
  | [], _ :: _ => rfl
  | _ :: _, [] => rfl
  | x :: xs, y :: ys => by
    unfold cmpL
    by_cases h1 : x < y
    · rw [if_pos h1, if_neg (by omega), if_pos h1]; rfl
    · by_cases h2 : y < x
      · simp [h1, h2]
      · rw [if_neg h1, if_neg h2, if_neg h2, if_neg h1, cmpL_anti xs ys]
theorem cmpL_trans : ∀ {a b c : List Int}, cmpL a b < 0 → cmpL b c < 0 → cmpL a c < 0
  | [], [], c, h, _ => by simp [cmpL] at h
  | [], y :: ys, [], _, h => by simp [cmpL] at h
  | [], y :: ys, z :: zs, _, _ => by simp [cmpL]
  | x :: xs, [], c, h, _ => by simp [cmpL] at h
  | x :: xs, y :: ys, [], _, h => by simp [cmpL] at h
  | x :: xs, y :: ys, z :: zs, h, k => by
    unfold cmpL at h k ⊢
    by_cases h1 : x < y
    · by_cases h2 : z < y
      · rw [if_neg (by omega), if_pos h2] at k; omega
      · rw [if_pos (by omega)]; omega
    · by_cases h2 : y < x
      · rw [if_neg h1, if_pos h2] at h; omega
      · rw [if_neg h1, if_neg h2] at h
        obtain rfl : x = y := by omega
        by_cases h3 : x < z
        · rw [if_pos h3]; omega
        · by_cases h4 : z < x
          · rw [if_neg h3, if_pos h4] at k; omega
          · rw [if_neg h3, if_neg h4] at k ⊢
            exact cmpL_trans h k
theorem ordP_zero {a b : List Int} : ordP a b = 0 ↔ a = b := by
  unfold ordP
  constructor
  · intro h
    split at h
    · simp at h
    · split at h
      · simp at h
      · exact cmpL_zero h
  · rintro rfl; simp [cmpL_self]
theorem ordP_anti (a b : List Int) : ordP b a = - ordP a b := by
  unfold ordP
  by_cases h1 : a.length < b.length
  · rw [if_pos h1, if_neg (by omega), if_pos h1]; rfl
  · by_cases h2 : b.length < a.length
    · simp [h1, h2]
    · rw [if_neg h1, if_neg h2, if_neg h2, if_neg h1, cmpL_anti]
theorem ordP_trans {a b c : List Int} (h : ordP a b < 0) (k : ordP b c < 0) : ordP a c < 0 := by
  unfold ordP at h k ⊢
  by_cases h1 : a.length < b.length
  · by_cases h2 : c.length < b.length
    · rw [if_neg (by omega), if_pos h2] at k; omega
    · rw [if_pos (by omega)]; omega
  · by_cases h2 : b.length < a.length
    · rw [if_neg h1, if_pos h2] at h; omega
    · rw [if_neg h1, if_neg h2] at h
      by_cases h3 : b.length < c.length
      · rw [if_pos (by omega)]; omega
      · by_cases h4 : c.length < b.length
        · rw [if_neg h3, if_pos h4] at k; omega
        · rw [if_neg h3, if_neg h4] at k
          rw [if_neg (by omega), if_neg (by omega)]
          exact cmpL_trans h k
theorem lessP_irr (a : List Int) : lessP a a = false := by simp [lessP, ordP_zero.2 rfl]
theorem lessP_trans {a b c : List Int} (h : lessP a b = true) (k : lessP b c = true) : lessP a c = true := by
  simp only [lessP, decide_eq_true_eq] at h k ⊢; exact ordP_trans h k
theorem lessP_tri (a b : List Int) : lessP a b = true ∨ a = b ∨ lessP b a = true := by
  simp only [lessP, decide_eq_true_eq]
  have := ordP_anti a b
  by_cases h : ordP a b = 0
  · exact .inr (.inl (ordP_zero.1 h))
  · omega
theorem lessP_len {a b : List Int} (h : lessP a b = true) : a.length ≤ b.length := by
  simp only [lessP, decide_eq_true_eq] at h
  unfold ordP at h
  split at h
  · omega
  · split at h <;> omega
/-- in order, each once -/
abbrev Srt (l : List (List Int)) : Prop := l.Pairwise (fun a b => lessP a b = true)
theorem of_takeWhile {α : Type} {p : α → Bool} : ∀ {l : List α} {y : α}, y ∈ l.takeWhile p → p y = true
  | [], _, h => by simp at h
  | a :: l, y, h => by
    rw [List.takeWhile_cons] at h
    split at h
    · rcases List.mem_cons.1 h with rfl | h
      · assumption
      · exact of_takeWhile h
    · simp at h
/-- how many are ahead of one -/
def posP (l : List (List Int)) (x : List Int) : Nat := (l.takeWhile (fun y => lessP y x)).length
/-- with one, in order -/
def insS (l : List (List Int)) (x : List Int) : List (List Int) := if x ∈ l then l else l.takeWhile (fun y => lessP y x) ++ x :: l.dropWhile (fun y => lessP y x)
theorem mem_insS {l : List (List Int)} {x y : List Int} : y ∈ insS l x ↔ y ∈ l ∨ y = x := by
  unfold insS
  split
  · constructor
    · exact .inl
    · rintro (h | rfl) <;> assumption
  · have h : y ∈ l ↔ y ∈ l.takeWhile (fun y => lessP y x) ∨ y ∈ l.dropWhile (fun y => lessP y x) := by
      rw [← List.mem_append, List.takeWhile_append_dropWhile]
    rw [h]
    simp only [List.mem_append, List.mem_cons]
    constructor
    · rintro (h | rfl | h)
      · exact .inl (.inl h)
      · exact .inr rfl
      · exact .inl (.inr h)
    · rintro ((h | h) | rfl)
      · exact .inl h
      · exact .inr (.inr h)
      · exact .inr (.inl rfl)
theorem length_insS {l : List (List Int)} {x : List Int} : (insS l x).length = if x ∈ l then l.length else l.length + 1 := by
  unfold insS
  split
  · rfl
  · have h : l.length = (l.takeWhile (fun y => lessP y x)).length + (l.dropWhile (fun y => lessP y x)).length := by
      rw [← List.length_append, List.takeWhile_append_dropWhile]
    simp only [List.length_append, List.length_cons]; omega
theorem insS_ge {l : List (List Int)} {x : List Int} : l.length ≤ (insS l x).length ∧ (insS l x).length ≤ l.length + 1 := by
  rw [length_insS]; split <;> omega
theorem posP_le (l : List (List Int)) (x : List Int) : posP l x ≤ l.length := (List.takeWhile_sublist _).length_le
theorem takeWhile_pos (l : List (List Int)) (x : List Int) : l.takeWhile (fun y => lessP y x) = l.take (posP l x) := by
  have h := congrArg (List.take (posP l x)) (List.takeWhile_append_dropWhile (p := fun y => lessP y x) (l := l))
  rw [← h]; exact List.take_left.symm
theorem dropWhile_pos (l : List (List Int)) (x : List Int) : l.dropWhile (fun y => lessP y x) = l.drop (posP l x) := by
  have h := congrArg (List.drop (posP l x)) (List.takeWhile_append_dropWhile (p := fun y => lessP y x) (l := l))
  rw [← h]; exact List.drop_left.symm
theorem insS_new {l : List (List Int)} {x : List Int} (h : x ∉ l) : insS l x = l.take (posP l x) ++ x :: l.drop (posP l x) := by
  unfold insS; rw [if_neg h, takeWhile_pos, dropWhile_pos]
theorem insS_old {l : List (List Int)} {x : List Int} (h : x ∈ l) : insS l x = l := by unfold insS; rw [if_pos h]
theorem less_before {l : List (List Int)} {x : List Int} {i : Nat} {y : List Int} (hi : i < posP l x) (hy : l[i]? = some y) : lessP y x = true := by
  have h : (l.take (posP l x))[i]? = some y := by rw [List.getElem?_take, if_pos hi]; exact hy
  rw [← takeWhile_pos] at h
  exact of_takeWhile (p := fun y => lessP y x) (List.mem_of_getElem? h)
theorem notless_at {l : List (List Int)} {x y : List Int} (hy : l[posP l x]? = some y) : lessP y x = false := by
  have h : (l.drop (posP l x))[0]? = some y := by rw [List.getElem?_drop]; exact hy
  rw [← dropWhile_pos] at h
  cases hd : l.dropWhile (fun y => lessP y x) with
  | nil => rw [hd] at h; simp at h
  | cons a t =>
    rw [hd] at h; simp at h; subst h
    have := List.head_dropWhile_not (fun y => lessP y x) (l := l) (by rw [hd]; simp)
    simp only [hd, List.head_cons] at this
    simpa using this
theorem srt_at {l : List (List Int)} (h : Srt l) {i j : Nat} {a b : List Int} (hij : i < j) (ha : l[i]? = some a) (hb : l[j]? = some b) : lessP a b = true := by
  obtain ⟨h1, e1⟩ := List.getElem?_eq_some_iff.1 ha
  obtain ⟨h2, e2⟩ := List.getElem?_eq_some_iff.1 hb
  subst e1 e2
  exact (List.pairwise_iff_getElem.1 h) i j h1 h2 hij
/-- from the place on nothing is ahead -/
theorem notless_from {l : List (List Int)} (h : Srt l) {x y : List Int} {i : Nat} (hi : posP l x ≤ i) (hy : l[i]? = some y) : lessP y x = false := by
  have hlt := (List.getElem?_eq_some_iff.1 hy).1
  have hp : posP l x < l.length := by omega
  have h0 := notless_at (l := l) (x := x) (List.getElem?_eq_getElem hp)
  rcases Nat.lt_or_eq_of_le hi with h1 | h1
  · have h2 := srt_at h h1 (List.getElem?_eq_getElem hp) hy
    cases h3 : lessP y x with
    | false => rfl
    | true => rw [lessP_trans h2 h3] at h0; cases h0
  · subst h1
    rw [List.getElem?_eq_getElem hp] at hy; injection hy with hy; rw [← hy]; exact h0
theorem pos_eq {l : List (List Int)} (h : Srt l) {x : List Int} {i : Nat} (hi : i ≤ l.length) (h1 : ∀ j y, j < i → l[j]? = some y → lessP y x = true) (h2 : ∀ j y, i ≤ j → l[j]? = some y → lessP y x = false) : posP l x = i := by
  have hp := posP_le l x
  rcases Nat.lt_trichotomy (posP l x) i with h3 | h3 | h3
  · have := h1 _ _ h3 (List.getElem?_eq_getElem (by omega))
    have h4 := notless_from h (Nat.le_refl _) (List.getElem?_eq_getElem (by omega : posP l x < l.length))
    rw [this] at h4; cases h4
  · exact h3
  · have := h2 _ _ (Nat.le_refl _) (List.getElem?_eq_getElem (by omega : i < l.length))
    have h4 := less_before h3 (List.getElem?_eq_getElem (by omega : i < l.length))
    rw [this] at h4; cases h4
theorem mem_at {l : List (List Int)} (h : Srt l) {x : List Int} : x ∈ l ↔ l[posP l x]? = some x := by
  constructor
  · intro hm
    obtain ⟨i, hi, e⟩ := List.mem_iff_getElem.1 hm
    have : posP l x = i := pos_eq h (by omega) (fun j y hj hy => by
      have := srt_at h hj hy (List.getElem?_eq_getElem hi); rwa [e] at this) (fun j y hj hy => by
      rcases Nat.lt_or_eq_of_le hj with h1 | h1
      · have := srt_at h h1 (List.getElem?_eq_getElem hi) hy
        rw [e] at this
        cases h3 : lessP y x with
        | false => rfl
        | true => have := lessP_trans this h3; rw [lessP_irr] at this; cases this
      · subst h1; rw [List.getElem?_eq_getElem hi, e] at hy; injection hy with hy; rw [← hy]; exact lessP_irr _)
    rw [this, List.getElem?_eq_getElem hi, e]
  · intro h1; exact List.mem_of_getElem? h1
theorem srt_insS {l : List (List Int)} (h : Srt l) (x : List Int) : Srt (insS l x) := by
  by_cases hm : x ∈ l
  · rw [insS_old hm]; exact h
  · rw [insS_new hm]
    have ht : Srt (l.take (posP l x)) := h.sublist (List.take_sublist _ _)
    have hd : Srt (l.drop (posP l x)) := h.sublist (List.drop_sublist _ _)
    have hx : ∀ y ∈ l.drop (posP l x), lessP x y = true := fun y hy => by
      obtain ⟨i, hi⟩ := List.mem_iff_getElem?.1 hy
      rw [List.getElem?_drop] at hi
      have h1 := notless_from h (x := x) (Nat.le_add_right _ _) hi
      rcases lessP_tri x y with h2 | h2 | h2
      · exact h2
      · subst h2; exact absurd (List.mem_of_getElem? hi) hm
      · rw [h1] at h2; cases h2
    have hb : ∀ y ∈ l.take (posP l x), lessP y x = true := fun y hy => by
      obtain ⟨i, hi⟩ := List.mem_iff_getElem?.1 hy
      rw [List.getElem?_take] at hi
      split at hi
      · rename_i h1; exact less_before h1 hi
      · cases hi
    refine List.pairwise_append.2 ⟨ht, List.pairwise_cons.2 ⟨hx, hd⟩, fun a ha b hb' => ?_⟩
    rcases List.mem_cons.1 hb' with rfl | hb'
    · exact hb a ha
    · exact lessP_trans (hb a ha) (hx b hb')
end Go.Proofs.Ytgjobbapnileiaa
