/- More on kinds: literals; lists without doubles. -/
import Derived.Test.YtgjobbapnileiaaTy
set_option linter.unusedVariables false
set_option linter.unusedSimpArgs false
namespace Gk
open Go Go.RowKit

theorem icmp_any (a b : Int) : ((a == b) = true ∧ (a != b) = false ∧ Hid (a = b)) ∨ ((a == b) = false ∧ (a != b) = true ∧ Hid (a ≠ b)) := by
  by_cases h : a = b
  · exact .inl ⟨(icmp_eq h).1, (icmp_eq h).2, h⟩
  · exact .inr ⟨(icmp_ne h).1, (icmp_ne h).2, h⟩
/-- a literal slice of one element -/
theorem Own.lit1 {α : Type} {T : Ty α} {e : TypeId} {B : Nat} {D : Nat → Prop} {w : World} {x : α} {cs : Array Value} (hx : Far (fun b => D b ∧ b ≠ w.heap.size) (fun w => T.R w x cs.toList) w) (hB : B ≤ w.heap.size) (hD : D w.heap.size) :
    Own T e B D (w.alloc (.cells cs e)) (.slice (some ⟨w.heap.size, 0, none⟩) 1 1) [x] := by
  have hl : cs.toList.length = T.sz := T.len hx.now
  have h := World.ownsRow_lit (base := B) (e := e) (size := T.sz) w cs 1 hB (by simp [maxLen]) (by simpa using hl)
  refine ⟨[cs.toList], by simpa using h, rfl, by simp [LB], by rintro k hk; injection hk with hk; exact hk ▸ hD, fun i y hy => ?_⟩
  match i, hy with
  | 0, hy =>
    simp at hy; subst hy
    refine ⟨cs.toList, rfl, (hx.on (w' := w.alloc (.cells cs e)) (by simp) fun b hb _ => heap_alloc_old w _ hb).mono fun b _ hb => ⟨hb.1.1, ?_⟩⟩
    intro e'; injection e' with e'; exact hb.1.2 e'

/-- no doubles, all among others: no more than those -/
theorem nodup_le {α : Type} : ∀ (l U : List α), l.Nodup → (∀ x ∈ l, x ∈ U) → l.length ≤ U.length := by
  intro l
  induction l with
  | nil => intro U _ _; simp
  | cons a t ih =>
    intro U hn hs
    obtain ⟨U1, U2, rfl⟩ := List.append_of_mem (hs a List.mem_cons_self)
    have h1 := List.nodup_cons.1 hn
    have := ih (U1 ++ U2) h1.2 fun x hx => by
      have := hs x (List.mem_cons_of_mem _ hx)
      simp only [List.mem_append, List.mem_cons] at this ⊢
      rcases this with h | rfl | h
      · exact .inl h
      · exact absurd hx h1.1
      · exact .inr h
    simp at this ⊢; omega
theorem flatMap_le {α β : Type} (f : α → List β) (m : Nat) : ∀ l : List α, (∀ x ∈ l, (f x).length ≤ m) → (l.flatMap f).length ≤ l.length * m := by
  intro l
  induction l with
  | nil => intro _; simp
  | cons a t ih =>
    intro h
    have h1 := h a List.mem_cons_self
    have h2 := ih fun x hx => h x (List.mem_cons_of_mem _ hx)
    rw [List.flatMap_cons, List.length_append, List.length_cons, Nat.add_mul]; omega
theorem nodup_snoc {α : Type} {l : List α} {x : α} (h : l.Nodup) (hx : x ∉ l) : (l ++ [x]).Nodup := by
  rw [List.nodup_append]
  exact ⟨h, by simp, fun a ha b hb => by simp at hb; subst hb; rintro rfl; exact hx ha⟩
end Gk
