/- The chapter's example, without a program. -/
import Derived.Test.YtgjobbapnileiaaSenM
import Derived.Test.YtgjobbapnileiaaShM
set_option linter.unusedVariables false
set_option linter.unusedSimpArgs false
namespace Go.Proofs.Ytgjobbapnileiaa
open Go.RowKit Gk

def exAlts : List (List (List Int)) := [[[0, -1, 1], []]]
/-- tokens of one kind against the other -/
def bal (k : Int) : Int := if k = 0 then 1 else if k = 1 then -1 else 0
def balL (s : List Int) : Int := (s.map bal).sum
theorem bal_gen {c : Cfg} (hc : c.alts = exAlts) {s x : List Int} (h : Gen c s x) : balL x = balL s := by
  induction h with
  | nil => rfl
  | tok h1 _ ih => simp only [balL, List.map_cons, List.sum_cons] at ih ⊢; omega
  | @rule k s x y a al h1 h2 h3 _ _ ih1 ih2 =>
    rw [hc] at h2
    have hk : (-1 - k).toNat = 0 := by
      have := (List.getElem?_eq_some_iff.1 h2).1
      simp [exAlts] at this; omega
    rw [hk] at h2
    simp only [exAlts, List.getElem?_cons_zero, Option.some.injEq] at h2
    subst h2
    have ha : balL a = 0 := by
      simp only [List.mem_cons, List.not_mem_nil, or_false] at h3
      rcases h3 with rfl | rfl <;> decide
    have hb : bal k = 0 := by unfold bal; rw [if_neg (by omega), if_neg (by omega)]
    simp only [balL, List.map_cons, List.sum_cons, List.map_append, List.sum_append] at ih1 ih2 ha ⊢
    omega
theorem ex_not {c : Cfg} (hc : c.alts = exAlts) : ¬ Gen c [-1] [0, 0, 1] := fun h => by
  have := bal_gen hc h
  exact absurd this (by decide)
theorem ex_eps {c : Cfg} (hc : c.alts = exAlts) : Gen c [-1] [] := by
  have := Gen.rule (c := c) (k := -1) (s := []) (x := []) (y := []) (a := []) (al := [[0, -1, 1], []]) (by decide) (by rw [hc]; rfl) (by simp) .nil .nil
  simpa using this
theorem ex_more {c : Cfg} (hc : c.alts = exAlts) {x : List Int} (h : Gen c [-1] x) : Gen c [-1] (0 :: (x ++ [1])) := by
  have h1 : Gen c [0, -1, 1] (0 :: (x ++ [1])) := .tok (by decide) (by
    have := h.append (t := [1]) (y := [1]) (.tok (by decide) .nil)
    simpa using this)
  have := Gen.rule (c := c) (k := -1) (s := []) (y := []) (a := [0, -1, 1]) (al := [[0, -1, 1], []]) (by decide) (by rw [hc]; rfl) (by simp) h1 .nil
  simpa using this
theorem ex_is {c : Cfg} (hc : c.alts = exAlts) : Gen c [-1] [0, 0, 1, 1] := ex_more hc (ex_more hc (ex_eps hc))
theorem ex_short {c : Cfg} (hc : c.alts = exAlts) : ShortOk c [0] := by
  refine ⟨by rw [hc]; rfl, fun r m hm => ?_⟩
  have hr : r = 0 := by
    have := (List.getElem?_eq_some_iff.1 hm).1
    simp at this; exact this
  subst hr
  simp at hm; subst hm
  exact ⟨by omega, by unfold farI; omega, fun al a x _ _ _ => by omega, fun _ => ⟨[[0, -1, 1], []], [], [], by rw [hc]; rfl, by simp, .nil, rfl⟩⟩
theorem ex_loop : loopS (fun R a => madeS (leastP [0]) R 4 a [[]]) exAlts 10 [[]] = some (some [[[], [0, 1], [0, 0, 1, 1]]]) := by decide +kernel
end Go.Proofs.Ytgjobbapnileiaa
