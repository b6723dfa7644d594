/- The shortest sentences: what they are; The reference's Sentences: what is reckoned, without a program; cmp.Compare, cmp.Or, slices.Compare, order: the walks; Lists of lists of numbers that are a call's own: bags. -/
import Derived.Test.YtgjobbapnileiaaZ08
import Derived.Test.YtgjobbapnileiaaZ05
set_option linter.unusedVariables false
set_option linter.unusedSimpArgs false
namespace Go.Proofs.Ytgjobbapnileiaa
open Go.RowKit Gk

def farI : Int := 2147483647
/-- m is how long a rule's shortest sentence is, or far -/
structure IsMin (c : Cfg) (r : Nat) (m : Int) : Prop where
  nn : 0 ≤ m
  le : m ≤ farI
  lb : ∀ al a x, c.alts[r]? = some al → a ∈ al → Gen c a x → m ≤ x.length
  at_ : m < farI → ∃ al a x, c.alts[r]? = some al ∧ a ∈ al ∧ Gen c a x ∧ (x.length : Int) = m
theorem IsMin.one {c : Cfg} {r : Nat} {m m' : Int} (h : IsMin c r m) (h' : IsMin c r m') : m = m' := by
  have h1 := h.le
  have h2 := h'.le
  by_cases e : m < farI
  · obtain ⟨al, a, x, h3, h4, h5, h6⟩ := h.at_ e
    have h7 := h'.lb al a x h3 h4 h5
    by_cases e' : m' < farI
    · obtain ⟨al', a', x', h3', h4', h5', h6'⟩ := h'.at_ e'
      have h7' := h.lb al' a' x' h3' h4' h5'
      omega
    · omega
  · by_cases e' : m' < farI
    · obtain ⟨al', a', x', h3', h4', h5', h6'⟩ := h'.at_ e'
      have h7' := h.lb al' a' x' h3' h4' h5'
      omega
    · omega
def ShortOk (c : Cfg) (short : List Int) : Prop := short.length = c.alts.length ∧ ∀ (r : Nat) m, short[r]? = some m → IsMin c r m
theorem ShortOk.one {c : Cfg} {s s' : List Int} (h : ShortOk c s) (h' : ShortOk c s') : s = s' := by
  apply List.ext_getElem?
  intro r
  by_cases hr : r < c.alts.length
  · have h1 : r < s.length := by rw [h.1]; exact hr
    have h2 : r < s'.length := by rw [h'.1]; exact hr
    have e1 := List.getElem?_eq_getElem h1
    have e2 := List.getElem?_eq_getElem h2
    rw [e1, e2, (h.2 r _ e1).one (h'.2 r _ e2)]
  · rw [List.getElem?_eq_none (by rw [h.1]; omega), List.getElem?_eq_none (by rw [h'.1]; omega)]
theorem ShortOk.nn {c : Cfg} {s : List Int} (h : ShortOk c s) : ∀ x ∈ s, 0 ≤ x := fun x hx => by
  obtain ⟨i, hi⟩ := List.mem_iff_getElem?.1 hx
  exact (h.2 i x hi).nn
/-- how much a number adds, by what is known -/
def mor9 (out : List Int) (k : Int) : Int := if k < 0 then (match out[(-1 - k).toNat]? with | some m => m | none => 1) else 1
def sum9 (out : List Int) : List Int → Int
  | [] => 0
  | k :: s => mor9 out k + sum9 out s
def len9 (out : List Int) (s : List Int) : Int := s.foldl (fun n k => min (n + mor9 out k) farI) 0
/-- what is known is so -/
def ShI (c : Cfg) (out : List Int) : Prop := out.length = c.alts.length ∧ ∀ (r : Nat) m, out[r]? = some m → 0 ≤ m ∧ m ≤ farI ∧ (m < farI → ∃ al a x, c.alts[r]? = some al ∧ a ∈ al ∧ Gen c a x ∧ (x.length : Int) = m)
theorem mor9_nn {c : Cfg} {out : List Int} (h : ShI c out) (k : Int) : 0 ≤ mor9 out k ∧ mor9 out k ≤ farI := by
  unfold mor9
  split
  · split
    · rename_i m hm; have := h.2 _ m hm; exact ⟨this.1, this.2.1⟩
    · unfold farI; omega
  · unfold farI; omega
theorem sum9_nn {c : Cfg} {out : List Int} (h : ShI c out) : ∀ s, 0 ≤ sum9 out s := by
  intro s
  induction s with
  | nil => simp [sum9]
  | cons k s ih => have := mor9_nn h k; simp only [sum9]; omega
theorem len9_eq {c : Cfg} {out : List Int} (h : ShI c out) (s : List Int) : len9 out s = min (sum9 out s) farI := by
  have : ∀ (s : List Int) (n : Int), 0 ≤ n → n ≤ farI → s.foldl (fun n k => min (n + mor9 out k) farI) n = min (n + sum9 out s) farI := by
    intro s
    induction s with
    | nil => intro n h0 h1; simp only [List.foldl_nil, sum9]; omega
    | cons k s ih =>
      intro n h0 h1
      have h2 := mor9_nn h k
      have h3 := sum9_nn h s
      rw [List.foldl_cons, ih (min (n + mor9 out k) farI) (by unfold farI at *; omega) (by omega)]
      simp only [sum9]; omega
  have h1 := this s 0 (by omega) (by unfold farI; omega)
  unfold len9; rw [h1]; congr 1; omega
theorem len9_snoc (out s : List Int) (k : Int) : len9 out (s ++ [k]) = min (len9 out s + mor9 out k) farI := by simp [len9, List.foldl_append]
theorem len9_range {c : Cfg} {out : List Int} (h : ShI c out) (s : List Int) : 0 ≤ len9 out s ∧ len9 out s ≤ farI := by
  rw [len9_eq h]; have := sum9_nn h s; unfold farI; omega
/-- a sentence as long as is reckoned -/
theorem sum9_sound {c : Cfg} {out : List Int} (h : ShI c out) : ∀ s : List Int, (∀ k ∈ s, k < 0 → -1 - k < c.alts.length) → sum9 out s < farI → ∃ x, Gen c s x ∧ (x.length : Int) = sum9 out s := by
  intro s
  induction s with
  | nil => intro _ _; exact ⟨[], .nil, rfl⟩
  | cons k s ih =>
    intro hin hlt
    simp only [sum9] at hlt
    have h1 := mor9_nn h k
    have h2 := sum9_nn h s
    obtain ⟨y, hy, hyl⟩ := ih (fun k hk => hin k (by simp [hk])) (by omega)
    by_cases hk : k < 0
    · have hr := hin k (by simp) hk
      have hlt2 : (-1 - k).toNat < out.length := by rw [h.1]; omega
      have e : mor9 out k = out[(-1 - k).toNat] := by unfold mor9; rw [if_pos hk, List.getElem?_eq_getElem hlt2]
      have h3 := h.2 _ _ (List.getElem?_eq_getElem hlt2)
      obtain ⟨al, a, x, e1, e2, e3, e4⟩ := h3.2.2 (by omega)
      refine ⟨x ++ y, .rule hk e1 e2 e3 hy, ?_⟩
      simp only [sum9, List.length_append]; omega
    · have e : mor9 out k = 1 := by unfold mor9; rw [if_neg hk]
      refine ⟨k :: y, .tok (by omega) hy, ?_⟩
      simp only [sum9, List.length_cons]; omega
/-- nothing gets shorter -/
def ShC (c : Cfg) (out : List Int) : Prop := ∀ (r : Nat) m al a, out[r]? = some m → c.alts[r]? = some al → a ∈ al → m ≤ len9 out a
theorem sum9_complete {c : Cfg} {out : List Int} (h : ShI c out) (hc : ShC c out) {s x : List Int} (hg : Gen c s x) : sum9 out s ≤ x.length := by
  induction hg with
  | nil => simp [sum9]
  | @tok k s x h1 _ ih =>
    have e : mor9 out k = 1 := by unfold mor9; rw [if_neg (by omega)]
    simp only [sum9, List.length_cons]; omega
  | @rule k s x y a al h1 h2 h3 _ _ ih1 ih2 =>
    have hlt := (List.getElem?_eq_some_iff.1 h2).1
    have hlt2 : (-1 - k).toNat < out.length := by rw [h.1]; exact hlt
    have e : mor9 out k = out[(-1 - k).toNat] := by unfold mor9; rw [if_pos h1, List.getElem?_eq_getElem hlt2]
    have h4 := hc _ _ al a (List.getElem?_eq_getElem hlt2) h2 h3
    rw [len9_eq h] at h4
    simp only [sum9, List.length_append]; omega
theorem short_ok {c : Cfg} {out : List Int} (h : ShI c out) (hc : ShC c out) : ShortOk c out := by
  refine ⟨h.1, fun r m hm => ⟨(h.2 r m hm).1, (h.2 r m hm).2.1, fun al a x h1 h2 h3 => ?_, (h.2 r m hm).2.2⟩⟩
  have h4 := hc r m al a hm h1 h2
  rw [len9_eq h] at h4
  have := sum9_complete h hc h3
  omega
theorem ShI.set {c : Cfg} {out : List Int} (h : ShI c out) {r : Nat} {al : List (List Int)} {a : List Int} (hal : c.alts[r]? = some al) (ha : a ∈ al) (hin : ∀ k ∈ a, k < 0 → -1 - k < c.alts.length) : ShI c (out.set r (len9 out a)) := by
  refine ⟨by simpa using h.1, fun r' m hm => ?_⟩
  by_cases e : r' = r
  · subst e
    have hlt : r' < out.length := by rw [h.1]; exact (List.getElem?_eq_some_iff.1 hal).1
    rw [List.getElem?_set_self hlt] at hm
    injection hm with hm; subst hm
    have h1 := len9_range h a
    refine ⟨h1.1, h1.2, fun hl => ?_⟩
    rw [len9_eq h] at hl ⊢
    obtain ⟨x, hx, hxl⟩ := sum9_sound h a hin (by omega)
    exact ⟨al, a, x, hal, ha, hx, by omega⟩
  · rw [List.getElem?_set_ne (fun e' => e e'.symm)] at hm
    exact h.2 r' m hm
theorem ShI.start (c : Cfg) : ShI c (List.replicate c.alts.length farI) := by
  refine ⟨by simp, fun r m hm => ?_⟩
  rw [List.getElem?_replicate] at hm
  split at hm
  · injection hm with hm; subst hm; exact ⟨by unfold farI; omega, Int.le_refl _, fun h => absurd h (by omega)⟩
  · cases hm
/-- how much is still to be had -/
def left9 (out : List Int) : Nat := (out.map Int.toNat).sum
theorem left9_set : ∀ (out : List Int) (r : Nat) (m n : Int), out[r]? = some m → 0 ≤ n → n < m → left9 (out.set r n) < left9 out := by
  intro out
  induction out with
  | nil => intro r m n h; simp at h
  | cons a out ih =>
    intro r m n h h0 h1
    cases r with
    | zero => simp at h; subst h; simp [left9]; omega
    | succ r =>
      have := ih r m n (by simpa using h) h0 h1
      simp only [left9, List.set_cons_succ, List.map_cons, List.sum_cons] at this ⊢
      omega
end Go.Proofs.Ytgjobbapnileiaa
set_option linter.unusedVariables false
set_option linter.unusedSimpArgs false
namespace Go.Proofs.Ytgjobbapnileiaa
open Go.RowKit Gk

/-! ### how long the rest is -/
def restStep (short : List Int) (n k : Int) : Int := if 0 ≤ k then n + 1 else match short[(-1 - k).toNat]? with | some s => min (n + s) 100 | none => n
def restR (short s : List Int) : Int := s.foldl (restStep short) 0
theorem restR_snoc (short s : List Int) (k : Int) : restR short (s ++ [k]) = restStep short (restR short s) k := by simp [restR, List.foldl_append]
theorem rest_bd {short : List Int} (hnn : ∀ s ∈ short, 0 ≤ s) : ∀ (s : List Int) (n : Int), 0 ≤ n → 0 ≤ s.foldl (restStep short) n ∧ s.foldl (restStep short) n ≤ max n 100 + s.length := by
  intro s
  induction s with
  | nil => intro n h; simp; omega
  | cons k s ih =>
    intro n h
    have h1 : 0 ≤ restStep short n k ∧ restStep short n k ≤ n + 1 ∨ (0 ≤ restStep short n k ∧ restStep short n k ≤ 100) := by
      unfold restStep
      split
      · omega
      · split
        · rename_i x hx; have := hnn x (List.mem_of_getElem? hx); omega
        · omega
    have := ih (restStep short n k) (by omega)
    rw [List.foldl_cons]
    simp only [List.length_cons]
    omega
theorem restR_bd {short : List Int} (hnn : ∀ s ∈ short, 0 ≤ s) (s : List Int) : 0 ≤ restR short s ∧ restR short s ≤ 100 + s.length := by
  have := rest_bd hnn s 0 (by omega)
  unfold restR; omega
theorem rest_least {short : List Int} (hnn : ∀ s ∈ short, 0 ≤ s) : ∀ (s : List Int), (∀ k ∈ s, k < 0 → -1 - k < short.length) → ∀ n m : Int, 0 ≤ m → n = min m 100 → s.foldl (fun n k => min (n + morP short k) 100) n = min (s.foldl (restStep short) m) 100 := by
  intro s
  induction s with
  | nil => intro _ n m _ h; simpa using h
  | cons k s ih =>
    intro hin n m hm h
    rw [List.foldl_cons, List.foldl_cons]
    have h1 : 0 ≤ restStep short m k ∧ min (n + morP short k) 100 = min (restStep short m k) 100 := by
      unfold restStep morP
      by_cases hk : k < 0
      · rw [if_pos hk, if_neg (by omega)]
        have h2 := hin k (by simp) hk
        have h3 : (-1 - k).toNat < short.length := by omega
        rw [List.getElem?_eq_getElem h3]
        have := hnn _ (List.getElem_mem h3)
        show 0 ≤ min (m + short[(-1 - k).toNat]) 100 ∧ min (n + min short[(-1 - k).toNat] 100) 100 = min (min (m + short[(-1 - k).toNat]) 100) 100
        omega
      · rw [if_neg hk, if_pos (by omega)]; omega
    exact ih (fun k hk => hin k (by simp [hk])) _ _ h1.1 h1.2
theorem rest_or {short : List Int} (hnn : ∀ s ∈ short, 0 ≤ s) (s : List Int) (hin : ∀ k ∈ s, k < 0 → -1 - k < short.length) : leastP short s = restR short s ∨ (8 < leastP short s ∧ 8 < restR short s) := by
  have h := rest_least hnn s hin 0 0 (by omega) (by omega)
  have h1 := (restR_bd hnn s).1
  unfold leastP restR at *
  rw [h]; omega

/-! ### the order -/
theorem cmpL_at : ∀ (k : Nat) {a b : List Int} {x y : Int}, a.take k = b.take k → a[k]? = some x → b[k]? = some y → x ≠ y → cmpL a b = cmpI x y := by
  intro k
  induction k with
  | zero =>
    intro a b x y _ hx hy hne
    match a, b, hx, hy with
    | x' :: a, y' :: b, hx, hy =>
      simp at hx hy; subst hx hy
      unfold cmpL
      unfold cmpI
      by_cases h1 : x' < y'
      · rw [if_pos h1, if_pos h1]
      · rw [if_neg h1, if_neg h1, if_pos (by omega), if_pos (by omega)]
  | succ k ih =>
    intro a b x y ht hx hy hne
    match a, b, hx, hy with
    | x' :: a, y' :: b, hx, hy =>
      simp at ht hx hy
      obtain ⟨rfl, ht⟩ := ht
      have := ih ht hx hy hne
      unfold cmpL
      rw [if_neg (by omega), if_neg (by omega)]; exact this
theorem lessP_at {a b : List Int} (hl : a.length = b.length) {k : Nat} {x y : Int} (ht : a.take k = b.take k) (hx : a[k]? = some x) (hy : b[k]? = some y) (hne : x ≠ y) : lessP a b = decide (x < y) := by
  unfold lessP ordP
  rw [if_neg (by omega), if_neg (by omega), cmpL_at k ht hx hy hne]
  congr 1
  unfold cmpI
  rw [eq_iff_iff]
  split
  · simp [*]
  · split <;> omega
theorem lessP_ne {a b : List Int} (hl : a.length ≠ b.length) : lessP a b = decide (a.length < b.length) := by
  unfold lessP ordP
  by_cases h : a.length < b.length
  · rw [if_pos h]; simp [h]
  · rw [if_neg h, if_pos (by omega)]; simp [h]
theorem pos_of {x : List Int} : ∀ {l : Sents} {i : Nat}, i ≤ l.length → (∀ j y, j < i → l[j]? = some y → lessP y x = true) → (∀ y, l[i]? = some y → lessP y x = false) → posP l x = i := by
  intro l
  induction l with
  | nil => intro i hi _ _; simp at hi; subst hi; rfl
  | cons z l ih =>
    intro i hi h1 h2
    unfold posP
    cases i with
    | zero =>
      have := h2 z rfl
      rw [List.takeWhile_cons, this]; rfl
    | succ i =>
      have h0 := h1 0 z (by omega) rfl
      have := ih (i := i) (by simpa using hi) (fun j y hj hy => h1 (j + 1) y (by omega) (by simpa using hy)) (fun y hy => h2 y (by simpa using hy))
      unfold posP at this
      rw [List.takeWhile_cons, h0]
      simp [this]

/-! ### the shortest sentences, by rounds -/
theorem least_nat (P : Nat → Prop) (h : ∃ n, P n) : ∃ n, P n ∧ ∀ m, P m → n ≤ m := by
  obtain ⟨n, hn⟩ := h
  induction n using Nat.strongRecOn with
  | _ n ih =>
    by_cases h : ∃ m, m < n ∧ P m
    · obtain ⟨m, hm, hp⟩ := h; exact ih m hm hp
    · exact ⟨n, hn, fun m hp => Nat.le_of_not_lt fun hlt => h ⟨m, hlt, hp⟩⟩
theorem isMin_ex (c : Cfg) (r : Nat) : ∃ m, IsMin c r m := by
  by_cases h : ∃ n : Nat, (n : Int) < farI ∧ ∃ al a x, c.alts[r]? = some al ∧ a ∈ al ∧ Gen c a x ∧ x.length = n
  · obtain ⟨n, ⟨hf, al, a, x, h1, h2, h3, h4⟩, hmin⟩ := least_nat _ h
    refine ⟨n, by omega, by omega, fun al' a' x' h1' h2' h3' => ?_, fun _ => ⟨al, a, x, h1, h2, h3, by omega⟩⟩
    by_cases hx : (x'.length : Int) < farI
    · have := hmin x'.length ⟨hx, al', a', x', h1', h2', h3', rfl⟩; omega
    · omega
  · refine ⟨farI, by unfold farI; omega, Int.le_refl _, fun al' a' x' h1' h2' h3' => ?_, fun h' => absurd h' (by omega)⟩
    by_cases hx : (x'.length : Int) < farI
    · exact absurd ⟨x'.length, hx, al', a', x', h1', h2', h3', rfl⟩ h
    · omega
/-- a rule's number is right -/
def Rgt (c : Cfg) (out : List Int) (r : Nat) : Prop := ∃ m, out[r]? = some m ∧ IsMin c r m
theorem ShI.ge {c : Cfg} {out : List Int} (h : ShI c out) {r : Nat} {m l : Int} (hm : out[r]? = some m) (hl : IsMin c r l) : l ≤ m := by
  obtain ⟨h1, h2, h3⟩ := h.2 r m hm
  by_cases hf : m < farI
  · obtain ⟨al, a, x, e1, e2, e3, e4⟩ := h3 hf
    have := hl.lb al a x e1 e2 e3; omega
  · have := hl.le; omega
theorem st_le {c : Cfg} {out : List Int} (h : ShI c out) {r : Nat} {m l : Int} (hm : out[r]? = some m) (hl : IsMin c r l) (hle : m ≤ l) : Rgt c out r := by
  have := h.ge hm hl
  have e : m = l := by omega
  exact ⟨m, hm, e ▸ hl⟩
/-- what a step does -/
structure Lower (c : Cfg) (out0 out : List Int) : Prop where
  inv : ShI c out
  le : ∀ (r : Nat) m0, out0[r]? = some m0 → ∃ m, out[r]? = some m ∧ m ≤ m0
theorem Lower.refl {c : Cfg} {out : List Int} (h : ShI c out) : Lower c out out := ⟨h, fun r m hm => ⟨m, hm, Int.le_refl _⟩⟩
theorem Lower.mor {c : Cfg} {out0 out : List Int} (h0 : ShI c out0) (h : Lower c out0 out) (k : Int) : mor9 out k ≤ mor9 out0 k := by
  unfold mor9
  split
  · cases h1 : out0[(-1 - k).toNat]? with
    | some m0 => obtain ⟨m, hm, hle⟩ := h.le _ m0 h1; rw [hm]; exact hle
    | none =>
      have := List.getElem?_eq_none_iff.1 h1
      rw [List.getElem?_eq_none (by rw [h.inv.1, ← h0.1]; exact this)]; exact Int.le_refl _
  · exact Int.le_refl _
theorem Lower.sum {c : Cfg} {out0 out : List Int} (h0 : ShI c out0) (h : Lower c out0 out) : ∀ s, sum9 out s ≤ sum9 out0 s := by
  intro s
  induction s with
  | nil => exact Int.le_refl _
  | cons k s ih => have := h.mor h0 k; simp only [sum9]; omega
theorem Lower.len {c : Cfg} {out0 out : List Int} (h0 : ShI c out0) (h : Lower c out0 out) (s : List Int) : len9 out s ≤ len9 out0 s := by
  rw [len9_eq h0, len9_eq h.inv]; have := h.sum h0 s; omega
/-- one step -/
def shStep (out : List Int) (r : Nat) (a : List Int) : List Int := out.set r (min (out.getD r 0) (len9 out a))
theorem shStep_ok {c : Cfg} {out0 out : List Int} (h0 : ShI c out0) (h : Lower c out0 out) {r : Nat} {al : List (List Int)} {a : List Int} (hal : c.alts[r]? = some al) (ha : a ∈ al) (hin : ∀ k ∈ a, k < 0 → -1 - k < c.alts.length) :
    Lower c out0 (shStep out r a) ∧ (∃ m, (shStep out r a)[r]? = some m ∧ m ≤ len9 out0 a) ∧ (∀ (r' : Nat) m, out[r']? = some m → ∃ m', (shStep out r a)[r']? = some m' ∧ m' ≤ m) := by
  have hr : r < out.length := by rw [h.inv.1]; exact (List.getElem?_eq_some_iff.1 hal).1
  have hg : out.getD r 0 = out[r] := by rw [List.getD_eq_getElem?_getD, List.getElem?_eq_getElem hr]; rfl
  have hs : (shStep out r a)[r]? = some (min out[r] (len9 out a)) := by
    unfold shStep; rw [List.getElem?_set_self hr, hg]
  have hmono : ∀ (r' : Nat) m, out[r']? = some m → ∃ m', (shStep out r a)[r']? = some m' ∧ m' ≤ m := by
    intro r' m hm
    by_cases e : r' = r
    · subst e
      rw [List.getElem?_eq_getElem hr] at hm; injection hm with hm
      exact ⟨_, hs, by omega⟩
    · exact ⟨m, by unfold shStep; rw [List.getElem?_set_ne (fun e' => e e'.symm)]; exact hm, Int.le_refl _⟩
  have hinv : ShI c (shStep out r a) := by
    by_cases hle : len9 out a ≤ out[r]
    · have := h.inv.set hal ha hin
      have e : min out[r] (len9 out a) = len9 out a := by omega
      unfold shStep; rw [hg, e]; exact this
    · have e : min out[r] (len9 out a) = out[r] := by omega
      unfold shStep; rw [hg, e, List.set_getElem_self]; exact h.inv
  refine ⟨⟨hinv, fun r' m0 hm0 => ?_⟩, ⟨_, hs, ?_⟩, hmono⟩
  · obtain ⟨m, hm, hle⟩ := h.le r' m0 hm0
    obtain ⟨m', hm', hle'⟩ := hmono r' m hm
    exact ⟨m', hm', by omega⟩
  · have := h.len h0 a; omega
/-- a round's part: the alternatives of the first s rules, and j of the next rule's, have been seen -/
def Seen (c : Cfg) (out0 out : List Int) (s j : Nat) : Prop :=
  Lower c out0 out ∧ ∀ (r : Nat) al (i : Nat) a, c.alts[r]? = some al → al[i]? = some a → (r < s ∨ r = s ∧ i < j) → ∃ m, out[r]? = some m ∧ m ≤ len9 out0 a
theorem Seen.start {c : Cfg} {out : List Int} (h : ShI c out) : Seen c out out 0 0 := ⟨.refl h, fun r al i a _ _ h => by omega⟩
theorem Seen.step {c : Cfg} {out0 out : List Int} (h0 : ShI c out0) {s j : Nat} (h : Seen c out0 out s j) {al : List (List Int)} {a : List Int} (hal : c.alts[s]? = some al) (ha : al[j]? = some a) (hin : ∀ k ∈ a, k < 0 → -1 - k < c.alts.length) : Seen c out0 (shStep out s a) s (j + 1) := by
  obtain ⟨h1, ⟨m1, h2, h2'⟩, h3⟩ := shStep_ok h0 h.1 hal (List.mem_of_getElem? ha) hin
  refine ⟨h1, fun r al' i a' hal' ha' hr => ?_⟩
  by_cases e : r = s ∧ i = j
  · obtain ⟨rfl, rfl⟩ := e
    rw [hal] at hal'; injection hal' with hal'; subst hal'
    rw [ha] at ha'; injection ha' with ha'; subst ha'
    exact ⟨m1, h2, h2'⟩
  · obtain ⟨m, hm, hle⟩ := h.2 r al' i a' hal' ha' (by omega)
    obtain ⟨m', hm', hle'⟩ := h3 r m hm
    exact ⟨m', hm', by omega⟩
theorem Seen.next {c : Cfg} {out0 out : List Int} {s : Nat} {al : List (List Int)} (hal : c.alts[s]? = some al) (h : Seen c out0 out s al.length) : Seen c out0 out (s + 1) 0 := by
  refine ⟨h.1, fun r al' i a hal' ha hr => ?_⟩
  refine h.2 r al' i a hal' ha ?_
  by_cases e : r = s
  · subst e
    rw [hal] at hal'; injection hal' with hal'; subst hal'
    exact .inr ⟨rfl, (List.getElem?_eq_some_iff.1 ha).1⟩
  · exact .inl (by omega)
theorem settle {c : Cfg} {out : List Int} (h : ShI c out) {m : Int} (hm : ∀ r, r < c.alts.length → ¬ Rgt c out r → ∀ l, IsMin c r l → m ≤ l) {s x : List Int} (hg : Gen c s x) :
    (x.length : Int) ≤ m → sum9 out s ≤ x.length ∨ ∃ (r : Nat) (al : List (List Int)) (a : List Int), c.alts[r]? = some al ∧ a ∈ al ∧ ¬ Rgt c out r ∧ sum9 out a ≤ m := by
  induction hg with
  | nil => intro _; left; simp [sum9]
  | @tok k s x h1 _ ih =>
    intro hl
    rcases ih (by simp only [List.length_cons] at hl; omega) with h2 | h2
    · left
      have e : mor9 out k = 1 := by unfold mor9; rw [if_neg (by omega)]
      simp only [sum9, List.length_cons]; omega
    · exact .inr h2
  | @rule k s x y a al h1 h2 h3 _ _ ih1 ih2 =>
    intro hl
    simp only [List.length_append] at hl
    rcases ih1 (by omega) with h4 | h4
    · rcases ih2 (by omega) with h5 | h5
      · by_cases hst : Rgt c out (-1 - k).toNat
        · left
          obtain ⟨mk, e1, e2⟩ := hst
          have h6 := e2.lb al a x h2 h3 ‹_›
          have e : mor9 out k = mk := by unfold mor9; rw [if_pos h1, e1]
          simp only [sum9, List.length_append]; omega
        · exact .inr ⟨_, al, a, h2, h3, hst, by omega⟩
      · exact .inr h5
    · exact .inr h4
/-- so many are right -/
def Sett (c : Cfg) (out : List Int) (j : Nat) : Prop := ShI c out ∧ ∃ l : List Nat, l.Nodup ∧ l.length = min j c.alts.length ∧ ∀ r ∈ l, r < c.alts.length ∧ Rgt c out r
theorem Sett.start (c : Cfg) : Sett c (List.replicate c.alts.length farI) 0 := ⟨ShI.start c, [], by simp, by simp, by simp⟩
theorem Sett.round {c : Cfg} {out0 out : List Int} {j : Nat} (h : Sett c out0 j) (hs : Seen c out0 out c.alts.length 0) : Sett c out (j + 1) := by
  obtain ⟨h0, l, hn, hl, hst⟩ := h
  have hkeep : ∀ r, Rgt c out0 r → Rgt c out r := fun r ⟨m0, e1, e2⟩ => by
    obtain ⟨m, hm, hle⟩ := hs.1.le r m0 e1
    exact st_le hs.1.inv hm e2 hle
  refine ⟨hs.1.inv, ?_⟩
  by_cases hj : c.alts.length ≤ j
  · exact ⟨l, hn, by omega, fun r hr => ⟨(hst r hr).1, hkeep r (hst r hr).2⟩⟩
  · -- another one
    have hmore : ∃ r, r < c.alts.length ∧ r ∉ l ∧ Rgt c out r := by
      by_cases hall : ∀ r, r < c.alts.length → Rgt c out0 r
      · by_cases hex : ∃ r, r < c.alts.length ∧ r ∉ l
        · obtain ⟨r, h1, h2⟩ := hex
          exact ⟨r, h1, h2, hkeep r (hall r h1)⟩
        · exfalso
          have := nodup_le (List.range c.alts.length) l List.nodup_range fun r hr => by
            refine Classical.byContradiction fun hnr => hex ⟨r, List.mem_range.1 hr, hnr⟩
          simp at this; omega
      · -- the least that is not right yet
        have hex : ∃ n : Nat, ∃ r, r < c.alts.length ∧ ¬ Rgt c out0 r ∧ IsMin c r n := by
          refine Classical.byContradiction fun hno => hall fun r hr => Classical.byContradiction fun hns => ?_
          obtain ⟨m, hm⟩ := isMin_ex c r
          exact hno ⟨m.toNat, r, hr, hns, by rw [Int.toNat_of_nonneg hm.nn]; exact hm⟩
        obtain ⟨m, ⟨r, hr, hns, hmin⟩, hleast⟩ := least_nat _ hex
        have hle : ∀ r, r < c.alts.length → ¬ Rgt c out0 r → ∀ l, IsMin c r l → (m : Int) ≤ l := fun r' hr' hns' l' hl' => by
          have := hleast l'.toNat ⟨r', hr', hns', by rw [Int.toNat_of_nonneg hl'.nn]; exact hl'⟩
          have := hl'.nn; omega
        have hfar : (m : Int) < farI := by
          refine Classical.byContradiction fun hge => hns ?_
          have hr0 : r < out0.length := by rw [h0.1]; exact hr
          have h1 := h0.2 r _ (List.getElem?_eq_getElem hr0)
          exact st_le h0 (List.getElem?_eq_getElem hr0) hmin (by omega)
        have hfound : ∃ (r : Nat) (al : List (List Int)) (a : List Int), c.alts[r]? = some al ∧ a ∈ al ∧ ¬ Rgt c out0 r ∧ sum9 out0 a ≤ m := by
          obtain ⟨al, a, x, e1, e2, e3, e4⟩ := hmin.at_ hfar
          rcases settle h0 hle e3 (by omega) with h5 | h5
          · exact ⟨r, al, a, e1, e2, hns, by omega⟩
          · exact h5
        obtain ⟨r1, al, a, e1, e2, e3, e4⟩ := hfound
        have hr1 : r1 < c.alts.length := (List.getElem?_eq_some_iff.1 e1).1
        obtain ⟨i, hi⟩ := List.mem_iff_getElem?.1 e2
        obtain ⟨m1, hm1, hle1⟩ := hs.2 r1 al i a e1 hi (.inl hr1)
        obtain ⟨l1, hl1⟩ := isMin_ex c r1
        have h6 := hle r1 hr1 e3 l1 hl1
        rw [len9_eq h0] at hle1
        exact ⟨r1, hr1, fun hr1l => e3 (hst r1 hr1l).2, st_le hs.1.inv hm1 hl1 (by omega)⟩
    obtain ⟨r, h1, h2, h3⟩ := hmore
    refine ⟨r :: l, List.nodup_cons.2 ⟨h2, hn⟩, by simp only [List.length_cons]; omega, fun r' hr' => ?_⟩
    rcases List.mem_cons.1 hr' with rfl | hr'
    · exact ⟨h1, h3⟩
    · exact ⟨(hst r' hr').1, hkeep r' (hst r' hr').2⟩
theorem Sett.all {c : Cfg} {out : List Int} (h : Sett c out c.alts.length) : ShortOk c out := by
  obtain ⟨h0, l, hn, hl, hst⟩ := h
  refine ⟨h0.1, fun r m hm => ?_⟩
  have hr : r < c.alts.length := by rw [← h0.1]; exact (List.getElem?_eq_some_iff.1 hm).1
  by_cases hrl : r ∈ l
  · obtain ⟨_, m', e1, e2⟩ := hst r hrl
    rw [hm] at e1; injection e1 with e1; subst e1; exact e2
  · exfalso
    have := nodup_le (r :: l) (List.range c.alts.length) (List.nodup_cons.2 ⟨hrl, hn⟩) fun x hx => by
      rcases List.mem_cons.1 hx with rfl | hx
      · exact List.mem_range.2 hr
      · exact List.mem_range.2 (hst x hx).1
    simp at this; omega
end Go.Proofs.Ytgjobbapnileiaa
set_option linter.unusedVariables false
set_option linter.unusedSimpArgs false
namespace Go.Proofs.Ytgjobbapnileiaa
open Go.RowKit Gk

theorem ordP_cmpI (a b : List Int) : ordP a b = if cmpI a.length b.length = 0 then cmpL a b else cmpI a.length b.length := by
  unfold ordP cmpI
  by_cases h1 : a.length < b.length
  · rw [if_pos h1, if_pos (show (a.length : Int) < b.length by omega)]; rfl
  · by_cases h2 : b.length < a.length
    · rw [if_neg h1, if_pos h2, if_neg (show ¬ (a.length : Int) < b.length by omega), if_pos (show (b.length : Int) < a.length by omega)]; rfl
    · rw [if_neg h1, if_neg h2, if_neg (show ¬ (a.length : Int) < b.length by omega), if_neg (show ¬ (b.length : Int) < a.length by omega)]; rfl
theorem nan_calls (a : Int) (w : World) : Calls Try.prog 63 #[.int .i64 a] w fun e w' => e = .returned (.bool false) ∧ w' = w := by
  go_enter Try.func63, Try.ntmps63
  go_wp2
  go_ret
  exact ⟨by simp, rfl⟩
theorem cmp_calls (a b : Int) (w : World) : Calls Try.prog 52 #[.int .i64 a, .int .i64 b] w fun e w' => e = .returned (.int .i64 (cmpI a b)) ∧ w' = w := by
  go_enter Try.func52, Try.ntmps52
  by_cases h1 : a < b
  · go_wp2_with (go_at_call 63; refine (nan_calls _ _).mono ?_; rintro e w' ⟨rfl, rfl⟩)
    go_ret
    exact ⟨by simp [cmpI, h1], rfl⟩
  · by_cases h2 : b < a
    · have e1 : cmpI a b = 1 := by unfold cmpI; rw [if_neg h1, if_pos h2]
      rw [e1]
      go_wp2_with (go_at_call 63; refine (nan_calls _ _).mono ?_; rintro e w' ⟨rfl, rfl⟩)
      go_ret
      exact ⟨rfl, rfl⟩
    · have e1 : cmpI a b = 0 := by unfold cmpI; rw [if_neg h1, if_neg h2]
      rw [e1]
      go_wp2_with (go_at_call 63; refine (nan_calls _ _).mono ?_; rintro e w' ⟨rfl, rfl⟩)
      go_ret
      exact ⟨rfl, rfl⟩
theorem cmpL_step {a b : List Int} {n : Nat} {x y : Int} (hx : a[n]? = some x) (hy : b[n]? = some y) : cmpL (a.drop n) (b.drop n) = if x < y then -1 else if y < x then 1 else cmpL (a.drop (n + 1)) (b.drop (n + 1)) := by
  obtain ⟨h1, e1⟩ := List.getElem?_eq_some_iff.1 hx
  obtain ⟨h2, e2⟩ := List.getElem?_eq_some_iff.1 hy
  rw [List.drop_eq_getElem_cons h1, List.drop_eq_getElem_cons h2, e1, e2]; rfl
set_option maxHeartbeats 1000000 in
theorem scmp_calls (v u : Value) (a b : List Int) (w : World) (h : Sl Ty.int w v a) (h' : Sl Ty.int w u b) :
    Calls Try.prog 53 #[v, u] w fun e w' => e = .returned (.int .i64 (cmpL a b)) ∧ w' = w := by
  obtain ⟨A, c, rfl, hc, hcm, hlb, hr⟩ := h
  obtain ⟨B, d, rfl, hd, hdm, hlb', hs⟩ := h'
  unfold LB at hlb hlb'
  go_enter Try.func53, Try.ntmps53
  go_wp2
  go_loopw [11] (fun i w' => (∃ k : Nat, k ≤ a.length ∧ k ≤ b.length ∧ i = .int .i64 k ∧ Hid (cmpL a b = cmpL (a.drop k) (b.drop k))) ∧ w' = w) (fun i _ => a.length - (intOf i).toNat)
  case atStart => exact ⟨⟨0, Nat.zero_le _, Nat.zero_le _, rfl, by simp [Hid]⟩, rfl⟩
  case round =>
    obtain ⟨⟨k, hk, hk2, rfl, hH⟩, rfl⟩ := hrel
    by_cases hlt : k < a.length
    · obtain ⟨x, hx⟩ := at_lt a hlt
      obtain ⟨ad, rfl, hxs, hcell⟩ := hr.int hx
      by_cases hlt2 : k < b.length
      · obtain ⟨y, hy⟩ := at_lt b hlt2
        obtain ⟨bd, rfl, hys, hcell2⟩ := hs.int hy
        have HS := Lib.hid (cmpL_step hx hy)
        clear hx hy
        by_cases h1 : x < y
        · have e1 : cmpI x y = -1 := by simp [cmpI, h1]
          go_wp2_with (go_at_call 52; refine (cmp_calls _ _ _).mono ?_; rw [e1]; rintro e w' ⟨rfl, rfl⟩)
          go_ret
          have hH' := hH; unfold Hid at hH'
          refine ⟨ret_int ?_, rfl⟩
          rw [hH', HS.out, if_pos h1]
        · by_cases h2 : y < x
          · have e1 : cmpI x y = 1 := by simp [cmpI, h1, h2]
            go_wp2_with (go_at_call 52; refine (cmp_calls _ _ _).mono ?_; rw [e1]; rintro e w' ⟨rfl, rfl⟩)
            go_ret
            have hH' := hH; unfold Hid at hH'
            refine ⟨ret_int ?_, rfl⟩
            rw [hH', HS.out, if_neg (by omega), if_pos h2]
          · have e1 : cmpI x y = 0 := by simp [cmpI, h1, h2]
            go_wp2_with (go_at_call 52; refine (cmp_calls _ _ _).mono ?_; rw [e1]; rintro e w' ⟨rfl, rfl⟩)
            have hH' := hH; unfold Hid at hH'
            go_roundw
            case rel => exact ⟨⟨k + 1, by omega, by omega, by go_num, by show _ = _; rw [hH', HS.out, if_neg (by omega), if_neg (by omega)]⟩, by first | rfl | trivial⟩
            case measure => simp [intOf]; omega
      · clear hx
        have hkb : (k : Int) ≥ (b.length : Int) := by omega
        go_wp2
        go_ret
        have hH' := hH; unfold Hid at hH'
        refine ⟨ret_int ?_, rfl⟩
        rw [hH', List.drop_eq_nil_of_le (show b.length ≤ k by omega), List.drop_eq_getElem_cons hlt]; rfl
    · have hka : a.drop k = [] := List.drop_eq_nil_of_le (by omega)
      have HKA := Lib.hid hka; clear hka
      by_cases h3 : a.length < b.length
      · go_wp2
        go_ret
        have hH' := hH; unfold Hid at hH'
        refine ⟨ret_int ?_, rfl⟩
        rw [hH', HKA.out, List.drop_eq_getElem_cons (by omega)]; rfl
      · go_wp2
        go_ret
        have hH' := hH; unfold Hid at hH'
        refine ⟨ret_int ?_, rfl⟩
        rw [hH', HKA.out, List.drop_eq_nil_of_le (show b.length ≤ k by omega)]; rfl
theorem or_calls (p q : Int) (w : World) (N : Nat) (hb : Box w N #[.int .i64 p, .int .i64 q] 3) :
    Calls Try.prog 51 #[.slice (some ⟨N, 0, none⟩) 2 2] w fun e w' => e = .returned (.int .i64 (if p = 0 then q else p)) ∧ w' = w := by
  have h0 := hb.cell 0 (v := .int .i64 p) rfl
  have h1 := hb.cell 1 (v := .int .i64 q) rfl
  clear hb
  go_enter Try.func51, Try.ntmps51
  go_wp2
  go_loopw [8] (fun i w' => (∃ k : Nat, k ≤ 2 ∧ i = .int .i64 k ∧ Hid ((1 ≤ k → p = 0) ∧ (2 ≤ k → q = 0))) ∧ w' = w) (fun i _ => 2 - (intOf i).toNat)
  case atStart => exact ⟨⟨0, Nat.zero_le _, rfl, ⟨by omega, by omega⟩⟩, rfl⟩
  case round =>
    obtain ⟨⟨k, hk, rfl, hH⟩, rfl⟩ := hrel
    have HH : Hid _ := hH
    have : k = 0 ∨ k = 1 ∨ k = 2 := by omega
    rcases this with rfl | rfl | rfl
    · by_cases hp : p = 0
      · subst hp
        go_wp2
        go_roundw
        case rel => exact ⟨⟨1, by omega, by go_num, by simp [Hid]⟩, by first | rfl | trivial⟩
        case measure => simp [intOf]
      · have hp' := icmp_ne hp
        have HP := Lib.hid hp; clear hp
        go_wp2
        go_ret
        exact ⟨ret_int (by first | rfl | rw [if_neg HP.out]), rfl⟩
    · have hp0 := HH.out.1 (by omega)
      subst hp0
      by_cases hq : q = 0
      · subst hq
        go_wp2
        go_roundw
        case rel => exact ⟨⟨2, by omega, by go_num, by simp [Hid]⟩, by first | rfl | trivial⟩
        case measure => simp [intOf]
      · have hq' := icmp_ne hq
        have HQ := Lib.hid hq; clear hq
        go_wp2
        go_ret
        exact ⟨ret_int (by first | rfl | rw [if_pos rfl]), rfl⟩
    · have hp0 := HH.out.1 (by omega)
      have hq0 := HH.out.2 (by omega)
      subst hp0 hq0
      go_wp2
      go_ret
      exact ⟨ret_int (by first | rfl | simp), rfl⟩
theorem order_calls (v u : Value) (a b : List Int) (w : World) (h : Sl Ty.int w v a) (h' : Sl Ty.int w u b) :
    Calls Try.prog 36 #[v, u] w fun e w' => e = .returned (.int .i64 (ordP a b)) ∧ Below w.heap.size w w' := by
  have hS := h
  have hS' := h'
  obtain ⟨A, c, rfl, hc, hcm, hlb, hr⟩ := h
  obtain ⟨B, d, rfl, hd, hdm, hlb', hs⟩ := h'
  unfold LB at hlb hlb'
  have HS := Lib.hid hS; have HS' := Lib.hid hS'
  clear hS hS' hr hs
  go_enter Try.func36, Try.ntmps36
  go_wp2_with (first | (go_at_call 52; refine (cmp_calls _ _ _).mono ?_; rintro e w' ⟨rfl, rfl⟩) | (go_at_call 53; refine (scmp_calls _ _ _ _ _ HS.out HS'.out).mono ?_; rintro e w' ⟨rfl, rfl⟩) | (go_at_call 51; refine (or_calls (cmpI a.length b.length) (cmpL a b) _ w'.heap.size (Box.new w' _ _)).mono ?_; rintro e w'' ⟨rfl, rfl⟩))
  · go_ret
    exact ⟨ret_int (by rw [ordP_cmpI, if_pos (by assumption)]), (Below.refl _ _).alloc (Nat.le_refl _) _⟩
  · go_ret
    exact ⟨ret_int (by rw [ordP_cmpI, if_neg (by assumption)]), (Below.refl _ _).alloc (Nat.le_refl _) _⟩
end Go.Proofs.Ytgjobbapnileiaa
set_option linter.unusedVariables false
set_option linter.unusedSimpArgs false
namespace Go.Proofs.Ytgjobbapnileiaa
open Go.RowKit Gk

/-- a list of numbers that was made: in a block of numbers -/
abbrev IL (w : World) (u : Value) (x : List Int) : Prop := Own Ty.int 3 0 (fun _ => True) w u x
theorem IL.keep {w w' : World} {u : Value} {x : List Int} (h : IL w u x) (hb : ∀ g, u.ownBlock = some g → w'.heap[g]? = w.heap[g]?) : IL w' u x := by
  obtain ⟨css, ⟨g1, g2⟩, h2, h3, h5, h4⟩ := h
  refine ⟨css, ⟨g1, ?_⟩, h2, h3, h5, fun i y hy => ?_⟩
  · rcases g2 with g2 | ⟨g, cap, cur, rfl, r1, r2, r3⟩
    · exact .inl g2
    · exact .inr ⟨g, cap, cur, rfl, r1, (hb g rfl).trans r2, r3⟩
  · obtain ⟨cs, hc, hf⟩ := h4 i y hy
    exact ⟨cs, hc, fun _ _ _ => hf.now⟩
/-- blocks of numbers stay -/
structure KI (w w' : World) : Prop where
  size : w.heap.size ≤ w'.heap.size
  block : ∀ (g : Nat) (cur : Array Value), w.heap[g]? = some (Obj.cells cur 3 (0, 0)) → w'.heap[g]? = w.heap[g]?
theorem KI.refl (w : World) : KI w w := ⟨Nat.le_refl _, fun _ _ _ => rfl⟩
theorem KI.trans {a b c : World} (h : KI a b) (k : KI b c) : KI a c := ⟨Nat.le_trans h.size k.size, fun g cur hg => (k.block g cur ((h.block g cur hg).trans hg)).trans (h.block g cur hg)⟩
theorem KI.below {w w' : World} (h : Below w.heap.size w w') : KI w w' := ⟨h.size, fun g cur hg => h.block g (Array.getElem?_eq_some_iff.1 hg).1⟩
/-- all but one block stay, which is none of numbers -/
theorem KI.grown {w w' : World} {row : Option Nat} (h : w.grownBy w' row) (hr : ∀ (g : Nat) (cur : Array Value), row = some g → w.heap[g]? ≠ some (Obj.cells cur 3 (0, 0))) : KI w w' :=
  ⟨h.size, fun g cur hg => h.block g (Array.getElem?_eq_some_iff.1 hg).1 (fun e => hr g cur e.symm hg)⟩
theorem KI.set {w : World} {b : Nat} {cs : Array Value} {t : TypeId} (h : Box w b cs t) (ht : t ≠ 3) (i : Nat) (v : Value) : KI w (w.setCell ⟨b, i, none⟩ v) :=
  ⟨by simp, fun g cur hg => Below.heap_setCell w ⟨b, i, none⟩ v g (fun e => by
    have e : g = b := e
    subst e; unfold Box at h; rw [h] at hg; injection hg with hg; injection hg with _ hg; exact ht hg)⟩
theorem IL.ki {w w' : World} {u : Value} {x : List Int} (h : IL w u x) (k : KI w w') : IL w' u x := by
  have hk := h
  obtain ⟨css, ⟨g1, g2⟩, h2, h3, h5, h4⟩ := hk
  refine h.keep fun g hg => ?_
  rcases g2 with ⟨rfl, _⟩ | ⟨g', cap, cur, rfl, r1, r2, r3⟩
  · simp [Value.ownBlock] at hg
  · simp [Value.ownBlock] at hg
    subst hg
    exact k.block _ _ r2
theorem IL.nil (w : World) : IL w (.slice none 0 0) [] := Own.nil _ _ _ _ _
theorem IL.ne {w : World} {u : Value} {x : List Int} (h : IL w u x) {g : Nat} {cur : Array Value} {t : TypeId} {fr : Nat × Nat} (hg : w.heap[g]? = some (Obj.cells cur t fr)) (ht : t ≠ 3) : u.ownBlock ≠ some g := by
  intro e
  obtain ⟨css, ⟨g1, g2⟩, h2, h3, h5, h4⟩ := h
  rcases g2 with ⟨rfl, _⟩ | ⟨g', cap, cur', rfl, r1, r2, r3⟩
  · simp [Value.ownBlock] at e
  · simp [Value.ownBlock] at e
    subst e
    rw [hg] at r2; injection r2 with r2; injection r2 with _ r2; exact ht r2
theorem IL.of {B : Nat} {D : Nat → Prop} {w : World} {u : Value} {x : List Int} (h : Own Ty.int 3 B D w u x) : IL w u x := by
  obtain ⟨css, ⟨g1, g2⟩, h2, h3, h5, h4⟩ := h
  refine ⟨css, ⟨g1, ?_⟩, h2, h3, fun _ _ => trivial, fun i y hy => ?_⟩
  · rcases g2 with g2 | ⟨g, cap, cur, rfl, r1, r2⟩
    · exact .inl g2
    · exact .inr ⟨g, cap, cur, rfl, Nat.zero_le _, r2⟩
  · obtain ⟨cs, hc, hf⟩ := h4 i y hy
    exact ⟨cs, hc, fun _ _ _ => hf.now⟩
def Bag (B : Nat) (w : World) (v : Value) (xs : List (List Int)) : Prop :=
  ∃ us : List Value, w.ownsRow B 34 1 v xs.length us ∧ xs.length ≤ LB ∧ ∀ (i : Nat) x, xs[i]? = some x → ∃ u, us[i]? = some u ∧ IL w u x
theorem Bag.keep {B : Nat} {w w' : World} {v : Value} {xs : List (List Int)} (h : Bag B w v xs) (k : KI w w') (hb : ∀ g, v.ownBlock = some g → w'.heap[g]? = w.heap[g]?) : Bag B w' v xs := by
  obtain ⟨us, ⟨g1, g2⟩, h2, h3⟩ := h
  refine ⟨us, ⟨g1, ?_⟩, h2, fun i x hx => ?_⟩
  · rcases g2 with g2 | ⟨g, cap, cur, rfl, r1, r2, r3⟩
    · exact .inl g2
    · exact .inr ⟨g, cap, cur, rfl, r1, (hb g rfl).trans r2, r3⟩
  · obtain ⟨u, hu, hi⟩ := h3 i x hx
    exact ⟨u, hu, hi.ki k⟩
theorem Bag.below {B : Nat} {w w' : World} {v : Value} {xs : List (List Int)} (h : Bag B w v xs) (k : Below w.heap.size w w') : Bag B w' v xs := by
  have hh := h
  obtain ⟨us, g, h2, h3⟩ := hh
  exact h.keep (KI.below k) fun b hb => k.block b (g.lt b hb).2
theorem Bag.nil (B : Nat) (w : World) : Bag B w (.slice none 0 0) [] := ⟨[], World.ownsRow_nil _ _ _ _, by simp [LB], by simp⟩
theorem Bag.lt {B : Nat} {w : World} {v : Value} {xs : List (List Int)} (h : Bag B w v xs) (k : Nat) (hk : v.ownBlock = some k) : B ≤ k ∧ k < w.heap.size := by
  obtain ⟨us, g, _⟩ := h; exact g.lt k hk
theorem Bag.mono {B B' : Nat} {w : World} {v : Value} {xs : List (List Int)} (h : Bag B w v xs) (hb : ∀ k, v.ownBlock = some k → B' ≤ k) : Bag B' w v xs := by
  obtain ⟨us, ⟨g1, g2⟩, h2, h3⟩ := h
  refine ⟨us, ⟨g1, ?_⟩, h2, h3⟩
  rcases g2 with g2 | ⟨g, cap, cur, rfl, r1, r2, r3⟩
  · exact .inl g2
  · exact .inr ⟨g, cap, cur, rfl, hb g rfl, r2, r3⟩
theorem Bag.lb {B : Nat} {w : World} {v : Value} {xs : List (List Int)} (h : Bag B w v xs) : xs.length ≤ 140737488355328 := by obtain ⟨us, g, h2, h3⟩ := h; exact h2
theorem Bag.sl {B : Nat} {w : World} {v : Value} {xs : List (List Int)} (h : Bag B w v xs) : Sl (Ty.slice Ty.int) w v xs := by
  obtain ⟨us, g, h2, h3⟩ := h
  have hcells := g
  obtain ⟨g1, g2⟩ := g
  rcases g2 with ⟨rfl, h0⟩ | ⟨g, cap, cur, rfl, r1, r2, r3, r4, r5, r6⟩
  · obtain rfl := List.eq_nil_of_length_eq_zero h0
    exact Sl.nil _ _
  · refine ⟨_, cap, rfl, r3, r4, h2, fun i x hx => ?_⟩
    obtain ⟨u, hu, hi⟩ := h3 i x hx
    refine ⟨_, [u], rfl, ⟨u, rfl, hi.sl⟩, fun j u' hj => ?_⟩
    match j, hj with
    | 0, hj =>
      simp at hj; subst hj
      exact hcells.cells (g := g) rfl _ _ (by show us[i * 1 + 0]? = _; simpa using hu)
/-- the block of a bag is none of numbers -/
theorem Bag.notInt {B : Nat} {w : World} {v : Value} {xs : List (List Int)} (h : Bag B w v xs) : ∀ (g : Nat) (cur : Array Value), v.ownBlock = some g → w.heap[g]? ≠ some (Obj.cells cur 3 (0, 0)) := by
  intro g cur hg e
  obtain ⟨us, ⟨g1, g2⟩, h2, h3⟩ := h
  rcases g2 with ⟨rfl, h0⟩ | ⟨g', cap, cur', rfl, r1, r2, r3, r4, r5, r6⟩
  · simp [Value.ownBlock] at hg
  · simp [Value.ownBlock] at hg
    subst hg
    rw [r2] at e; injection e with e; injection e with _ e; exact absurd e (by decide)
/-- a bag of one, laid by hand -/
theorem Bag.lit1 {B : Nat} {w : World} {u : Value} {x : List Int} (hx : IL w u x) (hB : B ≤ w.heap.size) : Bag B (w.alloc (.cells #[u] 34)) (.slice (some ⟨w.heap.size, 0, none⟩) 1 1) [x] := by
  have h := World.ownsRow_lit (base := B) (e := 34) (size := 1) w #[u] 1 hB (by simp [maxLen]) rfl
  refine ⟨[u], h, by simp [LB], fun i y hy => ?_⟩
  match i, hy with
  | 0, hy =>
    simp at hy; subst hy
    exact ⟨u, rfl, hx.ki (KI.below ((Below.refl _ _).alloc (Nat.le_refl _) _))⟩
end Go.Proofs.Ytgjobbapnileiaa
