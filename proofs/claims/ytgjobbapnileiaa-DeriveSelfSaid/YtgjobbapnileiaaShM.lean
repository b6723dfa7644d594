/- The shortest sentences: what they are. -/
import Derived.Test.YtgjobbapnileiaaDerM
set_option linter.unusedVariables false
set_option linter.unusedSimpArgs false
namespace Go.Proofs.Ytgjobbapnileiaa
open Go.RowKit Gk

def farI : Int := 2147483647
/-- m is how long a rule's shortest sentence is, or far -/
structure IsMin (c : Cfg) (r : Nat) (m : Int) : Prop where
  nn : 0 ≤ m
  le : m ≤ farI
  lb : ∀ al a x, c.alts[r]? = some al → a ∈ al → Gen c a x → m ≤ x.length
  at_ : m < farI → ∃ al a x, c.alts[r]? = some al ∧ a ∈ al ∧ Gen c a x ∧ (x.length : Int) = m
theorem IsMin.one {c : Cfg} {r : Nat} {m m' : Int} (h : IsMin c r m) (h' : IsMin c r m') : m = m' := by
  have h1 := h.le
  have h2 := h'.le
  by_cases e : m < farI
  · obtain ⟨al, a, x, h3, h4, h5, h6⟩ := h.at_ e
    have h7 := h'.lb al a x h3 h4 h5
    by_cases e' : m' < farI
    · obtain ⟨al', a', x', h3', h4', h5', h6'⟩ := h'.at_ e'
      have h7' := h.lb al' a' x' h3' h4' h5'
      omega
    · omega
  · by_cases e' : m' < farI
    · obtain ⟨al', a', x', h3', h4', h5', h6'⟩ := h'.at_ e'
      have h7' := h.lb al' a' x' h3' h4' h5'
      omega
    · omega
def ShortOk (c : Cfg) (short : List Int) : Prop := short.length = c.alts.length ∧ ∀ (r : Nat) m, short[r]? = some m → IsMin c r m
theorem ShortOk.one {c : Cfg} {s s' : List Int} (h : ShortOk c s) (h' : ShortOk c s') : s = s' := by
  apply List.ext_getElem?
  intro r
  by_cases hr : r < c.alts.length
  · have h1 : r < s.length := by rw [h.1]; exact hr
    have h2 : r < s'.length := by rw [h'.1]; exact hr
    have e1 := List.getElem?_eq_getElem h1
    have e2 := List.getElem?_eq_getElem h2
    rw [e1, e2, (h.2 r _ e1).one (h'.2 r _ e2)]
  · rw [List.getElem?_eq_none (by rw [h.1]; omega), List.getElem?_eq_none (by rw [h'.1]; omega)]
theorem ShortOk.nn {c : Cfg} {s : List Int} (h : ShortOk c s) : ∀ x ∈ s, 0 ≤ x := fun x hx => by
  obtain ⟨i, hi⟩ := List.mem_iff_getElem?.1 hx
  exact (h.2 i x hi).nn
/-- how much a number adds, by what is known -/
def mor9 (out : List Int) (k : Int) : Int := if k < 0 then (match out[(-1 - k).toNat]? with | some m => m | none => 1) else 1
def sum9 (out : List Int) : List Int → Int
  | [] => 0
  | k :: s => mor9 out k + sum9 out s
def len9 (out : List Int) (s : List Int) : Int := s.foldl (fun n k => min (n + mor9 out k) farI) 0
/-- what is known is so -/
def ShI (c : Cfg) (out : List Int) : Prop := out.length = c.alts.length ∧ ∀ (r : Nat) m, out[r]? = some m → 0 ≤ m ∧ m ≤ farI ∧ (m < farI → ∃ al a x, c.alts[r]? = some al ∧ a ∈ al ∧ Gen c a x ∧ (x.length : Int) = m)
theorem mor9_nn {c : Cfg} {out : List Int} (h : ShI c out) (k : Int) : 0 ≤ mor9 out k ∧ mor9 out k ≤ farI := by
  unfold mor9
  split
  · split
    · rename_i m hm; have := h.2 _ m hm; exact ⟨this.1, this.2.1⟩
    · unfold farI; omega
  · unfold farI; omega
theorem sum9_nn {c : Cfg} {out : List Int} (h : ShI c out) : ∀ s, 0 ≤ sum9 out s := by
  intro s
  induction s with
  | nil => simp [sum9]
  | cons k s ih => have := mor9_nn h k; simp only [sum9]; omega
theorem len9_eq {c : Cfg} {out : List Int} (h : ShI c out) (s : List Int) : len9 out s = min (sum9 out s) farI := by
  have : ∀ (s : List Int) (n : Int), 0 ≤ n → n ≤ farI → s.foldl (fun n k => min (n + mor9 out k) farI) n = min (n + sum9 out s) farI := by
    intro s
    induction s with
    | nil => intro n h0 h1; simp only [List.foldl_nil, sum9]; omega
    | cons k s ih =>
      intro n h0 h1
      have h2 := mor9_nn h k
      have h3 := sum9_nn h s
      rw [List.foldl_cons, ih (min (n + mor9 out k) farI) (by unfold farI at *; omega) (by omega)]
      simp only [sum9]; omega
  have h1 := this s 0 (by omega) (by unfold farI; omega)
  unfold len9; rw [h1]; congr 1; omega
theorem len9_snoc (out s : List Int) (k : Int) : len9 out (s ++ [k]) = min (len9 out s + mor9 out k) farI := by simp [len9, List.foldl_append]
theorem len9_range {c : Cfg} {out : List Int} (h : ShI c out) (s : List Int) : 0 ≤ len9 out s ∧ len9 out s ≤ farI := by
  rw [len9_eq h]; have := sum9_nn h s; unfold farI; omega
/-- a sentence as long as is reckoned -/
theorem sum9_sound {c : Cfg} {out : List Int} (h : ShI c out) : ∀ s : List Int, (∀ k ∈ s, k < 0 → -1 - k < c.alts.length) → sum9 out s < farI → ∃ x, Gen c s x ∧ (x.length : Int) = sum9 out s := by
  intro s
  induction s with
  | nil => intro _ _; exact ⟨[], .nil, rfl⟩
  | cons k s ih =>
    intro hin hlt
    simp only [sum9] at hlt
    have h1 := mor9_nn h k
    have h2 := sum9_nn h s
    obtain ⟨y, hy, hyl⟩ := ih (fun k hk => hin k (by simp [hk])) (by omega)
    by_cases hk : k < 0
    · have hr := hin k (by simp) hk
      have hlt2 : (-1 - k).toNat < out.length := by rw [h.1]; omega
      have e : mor9 out k = out[(-1 - k).toNat] := by unfold mor9; rw [if_pos hk, List.getElem?_eq_getElem hlt2]
      have h3 := h.2 _ _ (List.getElem?_eq_getElem hlt2)
      obtain ⟨al, a, x, e1, e2, e3, e4⟩ := h3.2.2 (by omega)
      refine ⟨x ++ y, .rule hk e1 e2 e3 hy, ?_⟩
      simp only [sum9, List.length_append]; omega
    · have e : mor9 out k = 1 := by unfold mor9; rw [if_neg hk]
      refine ⟨k :: y, .tok (by omega) hy, ?_⟩
      simp only [sum9, List.length_cons]; omega
/-- nothing gets shorter -/
def ShC (c : Cfg) (out : List Int) : Prop := ∀ (r : Nat) m al a, out[r]? = some m → c.alts[r]? = some al → a ∈ al → m ≤ len9 out a
theorem sum9_complete {c : Cfg} {out : List Int} (h : ShI c out) (hc : ShC c out) {s x : List Int} (hg : Gen c s x) : sum9 out s ≤ x.length := by
  induction hg with
  | nil => simp [sum9]
  | @tok k s x h1 _ ih =>
    have e : mor9 out k = 1 := by unfold mor9; rw [if_neg (by omega)]
    simp only [sum9, List.length_cons]; omega
  | @rule k s x y a al h1 h2 h3 _ _ ih1 ih2 =>
    have hlt := (List.getElem?_eq_some_iff.1 h2).1
    have hlt2 : (-1 - k).toNat < out.length := by rw [h.1]; exact hlt
    have e : mor9 out k = out[(-1 - k).toNat] := by unfold mor9; rw [if_pos h1, List.getElem?_eq_getElem hlt2]
    have h4 := hc _ _ al a (List.getElem?_eq_getElem hlt2) h2 h3
    rw [len9_eq h] at h4
    simp only [sum9, List.length_append]; omega
theorem short_ok {c : Cfg} {out : List Int} (h : ShI c out) (hc : ShC c out) : ShortOk c out := by
  refine ⟨h.1, fun r m hm => ⟨(h.2 r m hm).1, (h.2 r m hm).2.1, fun al a x h1 h2 h3 => ?_, (h.2 r m hm).2.2⟩⟩
  have h4 := hc r m al a hm h1 h2
  rw [len9_eq h] at h4
  have := sum9_complete h hc h3
  omega
theorem ShI.set {c : Cfg} {out : List Int} (h : ShI c out) {r : Nat} {al : List (List Int)} {a : List Int} (hal : c.alts[r]? = some al) (ha : a ∈ al) (hin : ∀ k ∈ a, k < 0 → -1 - k < c.alts.length) : ShI c (out.set r (len9 out a)) := by
  refine ⟨by simpa using h.1, fun r' m hm => ?_⟩
  by_cases e : r' = r
  · subst e
    have hlt : r' < out.length := by rw [h.1]; exact (List.getElem?_eq_some_iff.1 hal).1
    rw [List.getElem?_set_self hlt] at hm
    injection hm with hm; subst hm
    have h1 := len9_range h a
    refine ⟨h1.1, h1.2, fun hl => ?_⟩
    rw [len9_eq h] at hl ⊢
    obtain ⟨x, hx, hxl⟩ := sum9_sound h a hin (by omega)
    exact ⟨al, a, x, hal, ha, hx, by omega⟩
  · rw [List.getElem?_set_ne (fun e' => e e'.symm)] at hm
    exact h.2 r' m hm
theorem ShI.start (c : Cfg) : ShI c (List.replicate c.alts.length farI) := by
  refine ⟨by simp, fun r m hm => ?_⟩
  rw [List.getElem?_replicate] at hm
  split at hm
  · injection hm with hm; subst hm; exact ⟨by unfold farI; omega, Int.le_refl _, fun h => absurd h (by omega)⟩
  · cases hm
/-- how much is still to be had -/
def left9 (out : List Int) : Nat := (out.map Int.toNat).sum
theorem left9_set : ∀ (out : List Int) (r : Nat) (m n : Int), out[r]? = some m → 0 ≤ n → n < m → left9 (out.set r n) < left9 out := by
  intro out
  induction out with
  | nil => intro r m n h; simp at h
  | cons a out ih =>
    intro r m n h h0 h1
    cases r with
    | zero => simp at h; subst h; simp [left9]; omega
    | succ r =>
      have := ih r m n (by simpa using h) h0 h1
      simp only [left9, List.set_cons_succ, List.map_cons, List.sum_cons] at this ⊢
      omega
end Go.Proofs.Ytgjobbapnileiaa
