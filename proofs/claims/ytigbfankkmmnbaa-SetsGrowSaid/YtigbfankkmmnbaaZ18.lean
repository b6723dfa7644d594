/- The reference's Sentences: what is reckoned, without a program; The reference's Short: length, Short: the walks. -/
import Derived.Test.YtigbfankkmmnbaaZ17
import Derived.Test.YtigbfankkmmnbaaZ07
import Derived.Test.YtigbfankkmmnbaaZ12
import Derived.Test.YtigbfankkmmnbaaZ16
import Derived.Test.YtigbfankkmmnbaaZ08
set_option linter.unusedVariables false
set_option linter.unusedSimpArgs false
namespace Go.Proofs.Ytigbfankkmmnbaa
open Go.RowKit Gk

/-! ### how long the rest is -/
def restStep (short : List Int) (n k : Int) : Int := if 0 ≤ k then n + 1 else match short[(-1 - k).toNat]? with | some s => min (n + s) 100 | none => n
def restR (short s : List Int) : Int := s.foldl (restStep short) 0
theorem restR_snoc (short s : List Int) (k : Int) : restR short (s ++ [k]) = restStep short (restR short s) k := by simp [restR, List.foldl_append]
theorem rest_bd {short : List Int} (hnn : ∀ s ∈ short, 0 ≤ s) : ∀ (s : List Int) (n : Int), 0 ≤ n → 0 ≤ s.foldl (restStep short) n ∧ s.foldl (restStep short) n ≤ max n 100 + s.length := by
  intro s
  induction s with
  | nil => intro n h; simp; omega
  | cons k s ih =>
    intro n h
    have h1 : 0 ≤ restStep short n k ∧ restStep short n k ≤ n + 1 ∨ (0 ≤ restStep short n k ∧ restStep short n k ≤ 100) := by
      unfold restStep
      split
      · omega
      · split
        · rename_i x hx; have := hnn x (List.mem_of_getElem? hx); omega
        · omega
    have := ih (restStep short n k) (by omega)
    rw [List.foldl_cons]
    simp only [List.length_cons]
    omega
theorem restR_bd {short : List Int} (hnn : ∀ s ∈ short, 0 ≤ s) (s : List Int) : 0 ≤ restR short s ∧ restR short s ≤ 100 + s.length := by
  have := rest_bd hnn s 0 (by omega)
  unfold restR; omega
theorem rest_least {short : List Int} (hnn : ∀ s ∈ short, 0 ≤ s) : ∀ (s : List Int), (∀ k ∈ s, k < 0 → -1 - k < short.length) → ∀ n m : Int, 0 ≤ m → n = min m 100 → s.foldl (fun n k => min (n + morP short k) 100) n = min (s.foldl (restStep short) m) 100 := by
  intro s
  induction s with
  | nil => intro _ n m _ h; simpa using h
  | cons k s ih =>
    intro hin n m hm h
    rw [List.foldl_cons, List.foldl_cons]
    have h1 : 0 ≤ restStep short m k ∧ min (n + morP short k) 100 = min (restStep short m k) 100 := by
      unfold restStep morP
      by_cases hk : k < 0
      · rw [if_pos hk, if_neg (by omega)]
        have h2 := hin k (by simp) hk
        have h3 : (-1 - k).toNat < short.length := by omega
        rw [List.getElem?_eq_getElem h3]
        have := hnn _ (List.getElem_mem h3)
        show 0 ≤ min (m + short[(-1 - k).toNat]) 100 ∧ min (n + min short[(-1 - k).toNat] 100) 100 = min (min (m + short[(-1 - k).toNat]) 100) 100
        omega
      · rw [if_neg hk, if_pos (by omega)]; omega
    exact ih (fun k hk => hin k (by simp [hk])) _ _ h1.1 h1.2
theorem rest_or {short : List Int} (hnn : ∀ s ∈ short, 0 ≤ s) (s : List Int) (hin : ∀ k ∈ s, k < 0 → -1 - k < short.length) : leastP short s = restR short s ∨ (8 < leastP short s ∧ 8 < restR short s) := by
  have h := rest_least hnn s hin 0 0 (by omega) (by omega)
  have h1 := (restR_bd hnn s).1
  unfold leastP restR at *
  rw [h]; omega

/-! ### the order -/
theorem cmpL_at : ∀ (k : Nat) {a b : List Int} {x y : Int}, a.take k = b.take k → a[k]? = some x → b[k]? = some y → x ≠ y → cmpL a b = cmpI x y := by
  intro k
  induction k with
  | zero =>
    intro a b x y _ hx hy hne
    match a, b, hx, hy with
    | x' :: a, y' :: b, hx, hy =>
      simp at hx hy; subst hx hy
      unfold cmpL
      unfold cmpI
      by_cases h1 : x' < y'
      · rw [if_pos h1, if_pos h1]
      · rw [if_neg h1, if_neg h1, if_pos (by omega), if_pos (by omega)]
  | succ k ih =>
    intro a b x y ht hx hy hne
    match a, b, hx, hy with
    | x' :: a, y' :: b, hx, hy =>
      simp at ht hx hy
      obtain ⟨rfl, ht⟩ := ht
      have := ih ht hx hy hne
      unfold cmpL
      rw [if_neg (by omega), if_neg (by omega)]; exact this
theorem lessP_at {a b : List Int} (hl : a.length = b.length) {k : Nat} {x y : Int} (ht : a.take k = b.take k) (hx : a[k]? = some x) (hy : b[k]? = some y) (hne : x ≠ y) : lessP a b = decide (x < y) := by
  unfold lessP ordP
  rw [if_neg (by omega), if_neg (by omega), cmpL_at k ht hx hy hne]
  congr 1
  unfold cmpI
  rw [eq_iff_iff]
  split
  · simp [*]
  · split <;> omega
theorem lessP_ne {a b : List Int} (hl : a.length ≠ b.length) : lessP a b = decide (a.length < b.length) := by
  unfold lessP ordP
  by_cases h : a.length < b.length
  · rw [if_pos h]; simp [h]
  · rw [if_neg h, if_pos (by omega)]; simp [h]
theorem pos_of {x : List Int} : ∀ {l : Sents} {i : Nat}, i ≤ l.length → (∀ j y, j < i → l[j]? = some y → lessP y x = true) → (∀ y, l[i]? = some y → lessP y x = false) → posP l x = i := by
  intro l
  induction l with
  | nil => intro i hi _ _; simp at hi; subst hi; rfl
  | cons z l ih =>
    intro i hi h1 h2
    unfold posP
    cases i with
    | zero =>
      have := h2 z rfl
      rw [List.takeWhile_cons, this]; rfl
    | succ i =>
      have h0 := h1 0 z (by omega) rfl
      have := ih (i := i) (by simpa using hi) (fun j y hj hy => h1 (j + 1) y (by omega) (by simpa using hy)) (fun y hy => h2 y (by simpa using hy))
      unfold posP at this
      rw [List.takeWhile_cons, h0]
      simp [this]

/-! ### the shortest sentences, by rounds -/
theorem least_nat (P : Nat → Prop) (h : ∃ n, P n) : ∃ n, P n ∧ ∀ m, P m → n ≤ m := by
  obtain ⟨n, hn⟩ := h
  induction n using Nat.strongRecOn with
  | _ n ih =>
    by_cases h : ∃ m, m < n ∧ P m
    · obtain ⟨m, hm, hp⟩ := h; exact ih m hm hp
    · exact ⟨n, hn, fun m hp => Nat.le_of_not_lt fun hlt => h ⟨m, hlt, hp⟩⟩
theorem isMin_ex (c : Cfg) (r : Nat) : ∃ m, IsMin c r m := by
  by_cases h : ∃ n : Nat, (n : Int) < farI ∧ ∃ al a x, c.alts[r]? = some al ∧ a ∈ al ∧ Gen c a x ∧ x.length = n
  · obtain ⟨n, ⟨hf, al, a, x, h1, h2, h3, h4⟩, hmin⟩ := least_nat _ h
    refine ⟨n, by omega, by omega, fun al' a' x' h1' h2' h3' => ?_, fun _ => ⟨al, a, x, h1, h2, h3, by omega⟩⟩
    by_cases hx : (x'.length : Int) < farI
    · have := hmin x'.length ⟨hx, al', a', x', h1', h2', h3', rfl⟩; omega
    · omega
  · refine ⟨farI, by unfold farI; omega, Int.le_refl _, fun al' a' x' h1' h2' h3' => ?_, fun h' => absurd h' (by omega)⟩
    by_cases hx : (x'.length : Int) < farI
    · exact absurd ⟨x'.length, hx, al', a', x', h1', h2', h3', rfl⟩ h
    · omega
/-- a rule's number is right -/
def Rgt (c : Cfg) (out : List Int) (r : Nat) : Prop := ∃ m, out[r]? = some m ∧ IsMin c r m
theorem ShI.ge {c : Cfg} {out : List Int} (h : ShI c out) {r : Nat} {m l : Int} (hm : out[r]? = some m) (hl : IsMin c r l) : l ≤ m := by
  obtain ⟨h1, h2, h3⟩ := h.2 r m hm
  by_cases hf : m < farI
  · obtain ⟨al, a, x, e1, e2, e3, e4⟩ := h3 hf
    have := hl.lb al a x e1 e2 e3; omega
  · have := hl.le; omega
theorem st_le {c : Cfg} {out : List Int} (h : ShI c out) {r : Nat} {m l : Int} (hm : out[r]? = some m) (hl : IsMin c r l) (hle : m ≤ l) : Rgt c out r := by
  have := h.ge hm hl
  have e : m = l := by omega
  exact ⟨m, hm, e ▸ hl⟩
/-- what a step does -/
structure Lower (c : Cfg) (out0 out : List Int) : Prop where
  inv : ShI c out
  le : ∀ (r : Nat) m0, out0[r]? = some m0 → ∃ m, out[r]? = some m ∧ m ≤ m0
theorem Lower.refl {c : Cfg} {out : List Int} (h : ShI c out) : Lower c out out := ⟨h, fun r m hm => ⟨m, hm, Int.le_refl _⟩⟩
theorem Lower.mor {c : Cfg} {out0 out : List Int} (h0 : ShI c out0) (h : Lower c out0 out) (k : Int) : mor9 out k ≤ mor9 out0 k := by
  unfold mor9
  split
  · cases h1 : out0[(-1 - k).toNat]? with
    | some m0 => obtain ⟨m, hm, hle⟩ := h.le _ m0 h1; rw [hm]; exact hle
    | none =>
      have := List.getElem?_eq_none_iff.1 h1
      rw [List.getElem?_eq_none (by rw [h.inv.1, ← h0.1]; exact this)]; exact Int.le_refl _
  · exact Int.le_refl _
theorem Lower.sum {c : Cfg} {out0 out : List Int} (h0 : ShI c out0) (h : Lower c out0 out) : ∀ s, sum9 out s ≤ sum9 out0 s := by
  intro s
  induction s with
  | nil => exact Int.le_refl _
  | cons k s ih => have := h.mor h0 k; simp only [sum9]; omega
theorem Lower.len {c : Cfg} {out0 out : List Int} (h0 : ShI c out0) (h : Lower c out0 out) (s : List Int) : len9 out s ≤ len9 out0 s := by
  rw [len9_eq h0, len9_eq h.inv]; have := h.sum h0 s; omega
/-- one step -/
def shStep (out : List Int) (r : Nat) (a : List Int) : List Int := out.set r (min (out.getD r 0) (len9 out a))
theorem shStep_ok {c : Cfg} {out0 out : List Int} (h0 : ShI c out0) (h : Lower c out0 out) {r : Nat} {al : List (List Int)} {a : List Int} (hal : c.alts[r]? = some al) (ha : a ∈ al) (hin : ∀ k ∈ a, k < 0 → -1 - k < c.alts.length) :
    Lower c out0 (shStep out r a) ∧ (∃ m, (shStep out r a)[r]? = some m ∧ m ≤ len9 out0 a) ∧ (∀ (r' : Nat) m, out[r']? = some m → ∃ m', (shStep out r a)[r']? = some m' ∧ m' ≤ m) := by
  have hr : r < out.length := by rw [h.inv.1]; exact (List.getElem?_eq_some_iff.1 hal).1
  have hg : out.getD r 0 = out[r] := by rw [List.getD_eq_getElem?_getD, List.getElem?_eq_getElem hr]; rfl
  have hs : (shStep out r a)[r]? = some (min out[r] (len9 out a)) := by
    unfold shStep; rw [List.getElem?_set_self hr, hg]
  have hmono : ∀ (r' : Nat) m, out[r']? = some m → ∃ m', (shStep out r a)[r']? = some m' ∧ m' ≤ m := by
    intro r' m hm
    by_cases e : r' = r
    · subst e
      rw [List.getElem?_eq_getElem hr] at hm; injection hm with hm
      exact ⟨_, hs, by omega⟩
    · exact ⟨m, by unfold shStep; rw [List.getElem?_set_ne (fun e' => e e'.symm)]; exact hm, Int.le_refl _⟩
  have hinv : ShI c (shStep out r a) := by
    by_cases hle : len9 out a ≤ out[r]
    · have := h.inv.set hal ha hin
      have e : min out[r] (len9 out a) = len9 out a := by omega
      unfold shStep; rw [hg, e]; exact this
    · have e : min out[r] (len9 out a) = out[r] := by omega
      unfold shStep; rw [hg, e, List.set_getElem_self]; exact h.inv
  refine ⟨⟨hinv, fun r' m0 hm0 => ?_⟩, ⟨_, hs, ?_⟩, hmono⟩
  · obtain ⟨m, hm, hle⟩ := h.le r' m0 hm0
    obtain ⟨m', hm', hle'⟩ := hmono r' m hm
    exact ⟨m', hm', by omega⟩
  · have := h.len h0 a; omega
/-- a round's part: the alternatives of the first s rules, and j of the next rule's, have been seen -/
def Seen (c : Cfg) (out0 out : List Int) (s j : Nat) : Prop :=
  Lower c out0 out ∧ ∀ (r : Nat) al (i : Nat) a, c.alts[r]? = some al → al[i]? = some a → (r < s ∨ r = s ∧ i < j) → ∃ m, out[r]? = some m ∧ m ≤ len9 out0 a
theorem Seen.start {c : Cfg} {out : List Int} (h : ShI c out) : Seen c out out 0 0 := ⟨.refl h, fun r al i a _ _ h => by omega⟩
theorem Seen.step {c : Cfg} {out0 out : List Int} (h0 : ShI c out0) {s j : Nat} (h : Seen c out0 out s j) {al : List (List Int)} {a : List Int} (hal : c.alts[s]? = some al) (ha : al[j]? = some a) (hin : ∀ k ∈ a, k < 0 → -1 - k < c.alts.length) : Seen c out0 (shStep out s a) s (j + 1) := by
  obtain ⟨h1, ⟨m1, h2, h2'⟩, h3⟩ := shStep_ok h0 h.1 hal (List.mem_of_getElem? ha) hin
  refine ⟨h1, fun r al' i a' hal' ha' hr => ?_⟩
  by_cases e : r = s ∧ i = j
  · obtain ⟨rfl, rfl⟩ := e
    rw [hal] at hal'; injection hal' with hal'; subst hal'
    rw [ha] at ha'; injection ha' with ha'; subst ha'
    exact ⟨m1, h2, h2'⟩
  · obtain ⟨m, hm, hle⟩ := h.2 r al' i a' hal' ha' (by omega)
    obtain ⟨m', hm', hle'⟩ := h3 r m hm
    exact ⟨m', hm', by omega⟩
theorem Seen.next {c : Cfg} {out0 out : List Int} {s : Nat} {al : List (List Int)} (hal : c.alts[s]? = some al) (h : Seen c out0 out s al.length) : Seen c out0 out (s + 1) 0 := by
  refine ⟨h.1, fun r al' i a hal' ha hr => ?_⟩
  refine h.2 r al' i a hal' ha ?_
  by_cases e : r = s
  · subst e
    rw [hal] at hal'; injection hal' with hal'; subst hal'
    exact .inr ⟨rfl, (List.getElem?_eq_some_iff.1 ha).1⟩
  · exact .inl (by omega)
theorem settle {c : Cfg} {out : List Int} (h : ShI c out) {m : Int} (hm : ∀ r, r < c.alts.length → ¬ Rgt c out r → ∀ l, IsMin c r l → m ≤ l) {s x : List Int} (hg : Gen c s x) :
    (x.length : Int) ≤ m → sum9 out s ≤ x.length ∨ ∃ (r : Nat) (al : List (List Int)) (a : List Int), c.alts[r]? = some al ∧ a ∈ al ∧ ¬ Rgt c out r ∧ sum9 out a ≤ m := by
  induction hg with
  | nil => intro _; left; simp [sum9]
  | @tok k s x h1 _ ih =>
    intro hl
    rcases ih (by simp only [List.length_cons] at hl; omega) with h2 | h2
    · left
      have e : mor9 out k = 1 := by unfold mor9; rw [if_neg (by omega)]
      simp only [sum9, List.length_cons]; omega
    · exact .inr h2
  | @rule k s x y a al h1 h2 h3 _ _ ih1 ih2 =>
    intro hl
    simp only [List.length_append] at hl
    rcases ih1 (by omega) with h4 | h4
    · rcases ih2 (by omega) with h5 | h5
      · by_cases hst : Rgt c out (-1 - k).toNat
        · left
          obtain ⟨mk, e1, e2⟩ := hst
          have h6 := e2.lb al a x h2 h3 ‹_›
          have e : mor9 out k = mk := by unfold mor9; rw [if_pos h1, e1]
          simp only [sum9, List.length_append]; omega
        · exact .inr ⟨_, al, a, h2, h3, hst, by omega⟩
      · exact .inr h5
    · exact .inr h4
/-- so many are right -/
def Sett (c : Cfg) (out : List Int) (j : Nat) : Prop := ShI c out ∧ ∃ l : List Nat, l.Nodup ∧ l.length = min j c.alts.length ∧ ∀ r ∈ l, r < c.alts.length ∧ Rgt c out r
theorem Sett.start (c : Cfg) : Sett c (List.replicate c.alts.length farI) 0 := ⟨ShI.start c, [], by simp, by simp, by simp⟩
theorem Sett.round {c : Cfg} {out0 out : List Int} {j : Nat} (h : Sett c out0 j) (hs : Seen c out0 out c.alts.length 0) : Sett c out (j + 1) := by
  obtain ⟨h0, l, hn, hl, hst⟩ := h
  have hkeep : ∀ r, Rgt c out0 r → Rgt c out r := fun r ⟨m0, e1, e2⟩ => by
    obtain ⟨m, hm, hle⟩ := hs.1.le r m0 e1
    exact st_le hs.1.inv hm e2 hle
  refine ⟨hs.1.inv, ?_⟩
  by_cases hj : c.alts.length ≤ j
  · exact ⟨l, hn, by omega, fun r hr => ⟨(hst r hr).1, hkeep r (hst r hr).2⟩⟩
  · -- another one
    have hmore : ∃ r, r < c.alts.length ∧ r ∉ l ∧ Rgt c out r := by
      by_cases hall : ∀ r, r < c.alts.length → Rgt c out0 r
      · by_cases hex : ∃ r, r < c.alts.length ∧ r ∉ l
        · obtain ⟨r, h1, h2⟩ := hex
          exact ⟨r, h1, h2, hkeep r (hall r h1)⟩
        · exfalso
          have := nodup_le (List.range c.alts.length) l List.nodup_range fun r hr => by
            refine Classical.byContradiction fun hnr => hex ⟨r, List.mem_range.1 hr, hnr⟩
          simp at this; omega
      · -- the least that is not right yet
        have hex : ∃ n : Nat, ∃ r, r < c.alts.length ∧ ¬ Rgt c out0 r ∧ IsMin c r n := by
          refine Classical.byContradiction fun hno => hall fun r hr => Classical.byContradiction fun hns => ?_
          obtain ⟨m, hm⟩ := isMin_ex c r
          exact hno ⟨m.toNat, r, hr, hns, by rw [Int.toNat_of_nonneg hm.nn]; exact hm⟩
        obtain ⟨m, ⟨r, hr, hns, hmin⟩, hleast⟩ := least_nat _ hex
        have hle : ∀ r, r < c.alts.length → ¬ Rgt c out0 r → ∀ l, IsMin c r l → (m : Int) ≤ l := fun r' hr' hns' l' hl' => by
          have := hleast l'.toNat ⟨r', hr', hns', by rw [Int.toNat_of_nonneg hl'.nn]; exact hl'⟩
          have := hl'.nn; omega
        have hfar : (m : Int) < farI := by
          refine Classical.byContradiction fun hge => hns ?_
          have hr0 : r < out0.length := by rw [h0.1]; exact hr
          have h1 := h0.2 r _ (List.getElem?_eq_getElem hr0)
          exact st_le h0 (List.getElem?_eq_getElem hr0) hmin (by omega)
        have hfound : ∃ (r : Nat) (al : List (List Int)) (a : List Int), c.alts[r]? = some al ∧ a ∈ al ∧ ¬ Rgt c out0 r ∧ sum9 out0 a ≤ m := by
          obtain ⟨al, a, x, e1, e2, e3, e4⟩ := hmin.at_ hfar
          rcases settle h0 hle e3 (by omega) with h5 | h5
          · exact ⟨r, al, a, e1, e2, hns, by omega⟩
          · exact h5
        obtain ⟨r1, al, a, e1, e2, e3, e4⟩ := hfound
        have hr1 : r1 < c.alts.length := (List.getElem?_eq_some_iff.1 e1).1
        obtain ⟨i, hi⟩ := List.mem_iff_getElem?.1 e2
        obtain ⟨m1, hm1, hle1⟩ := hs.2 r1 al i a e1 hi (.inl hr1)
        obtain ⟨l1, hl1⟩ := isMin_ex c r1
        have h6 := hle r1 hr1 e3 l1 hl1
        rw [len9_eq h0] at hle1
        exact ⟨r1, hr1, fun hr1l => e3 (hst r1 hr1l).2, st_le hs.1.inv hm1 hl1 (by omega)⟩
    obtain ⟨r, h1, h2, h3⟩ := hmore
    refine ⟨r :: l, List.nodup_cons.2 ⟨h2, hn⟩, by simp only [List.length_cons]; omega, fun r' hr' => ?_⟩
    rcases List.mem_cons.1 hr' with rfl | hr'
    · exact ⟨h1, h3⟩
    · exact ⟨(hst r' hr').1, hkeep r' (hst r' hr').2⟩
theorem Sett.all {c : Cfg} {out : List Int} (h : Sett c out c.alts.length) : ShortOk c out := by
  obtain ⟨h0, l, hn, hl, hst⟩ := h
  refine ⟨h0.1, fun r m hm => ?_⟩
  have hr : r < c.alts.length := by rw [← h0.1]; exact (List.getElem?_eq_some_iff.1 hm).1
  by_cases hrl : r ∈ l
  · obtain ⟨_, m', e1, e2⟩ := hst r hrl
    rw [hm] at e1; injection e1 with e1; subst e1; exact e2
  · exfalso
    have := nodup_le (r :: l) (List.range c.alts.length) (List.nodup_cons.2 ⟨hrl, hn⟩) fun x hx => by
      rcases List.mem_cons.1 hx with rfl | hx
      · exact List.mem_range.2 hr
      · exact List.mem_range.2 (hst x hx).1
    simp at this; omega
end Go.Proofs.Ytigbfankkmmnbaa
set_option linter.unusedVariables false
set_option linter.unusedSimpArgs false
namespace Go.Proofs.Ytigbfankkmmnbaa
open Go.RowKit Gk

theorem rule9_mor (out : List Int) (k : Int) : (rule9 out.length k = -1 ∧ mor9 out k = 1) ∨ ∃ (r : Nat) (m : Int), rule9 out.length k = r ∧ r < out.length ∧ out[r]? = some m ∧ mor9 out k = m := by
  unfold rule9 mor9
  by_cases hk : k < 0
  · by_cases hr : -1 - k < (out.length : Int)
    · have hl : (-1 - k).toNat < out.length := by omega
      exact .inr ⟨(-1 - k).toNat, out[(-1 - k).toNat], by rw [if_pos ⟨hk, hr⟩]; omega, hl, List.getElem?_eq_getElem hl, by rw [if_pos hk, List.getElem?_eq_getElem hl]⟩
    · exact .inl ⟨if_neg fun h => hr h.2, by rw [if_pos hk, List.getElem?_eq_none (by omega)]⟩
  · exact .inl ⟨if_neg fun h => hk h.1, by rw [if_neg hk]⟩
set_option maxRecDepth 100000 in
set_option maxHeartbeats 2000000 in
theorem length_calls (c : Cfg) (s : List Int) (out : List Int) (v u o : Value) (w : World) (h : CfgV w v c) (hu : Sl Ty.int w u s) (ho : Sl Ty.int w o out) (hi : ShI c out) (hal : c.alts.length ≤ 1000) :
    Calls Try.prog 60 #[v, u, o] w fun e w' => e = .returned (.int .i64 (len9 out s)) ∧ Below w.heap.size w w' := by
  obtain ⟨a0, b0, d0, rfl, h1, h2, h3⟩ := id h
  obtain ⟨A1, c1, rfl, hc1, hm1, hl1, hr1⟩ := id h1
  obtain ⟨A2, c2, rfl, hc2, hm2, hl2, hr2⟩ := id h2
  obtain ⟨A3, c3, rfl, hc3, hm3, hl3, hr3⟩ := id h3
  obtain ⟨AU, cU, rfl, ku1, ku2, ku3, ku4⟩ := id hu
  obtain ⟨AO, cO, rfl, ko1, ko2, ko3, ko4⟩ := id ho
  unfold LB at ku3 ko3
  have hB1 := Box.new w #[.slice A1 c.toks.length c1, .slice A2 c.names.length c2, .slice A3 c.alts.length c3] 25
  have hb1 : Below w.heap.size w (w.alloc (.cells #[.slice A1 c.toks.length c1, .slice A2 c.names.length c2, .slice A3 c.alts.length c3] 25)) := (Below.refl _ _).alloc (Nat.le_refl _) _
  have hsz1 : (w.alloc (.cells #[.slice A1 c.toks.length c1, .slice A2 c.names.length c2, .slice A3 c.alts.length c3] 25)).heap.size = w.heap.size + 1 := by simp
  have HLEN := Lib.hid hi
  clear h h1 h2 h3 hu ho hr1 hr2 hr3 hi
  go_enter Try.func60, Try.ntmps60
  go_wp2
  generalize w.alloc (.cells #[.slice A1 c.toks.length c1, .slice A2 c.names.length c2, .slice A3 c.alts.length c3] 25) = wb at *
  go_loopw [13, 7] (fun i q wr => (∃ (n : Nat) (x : Int), n ≤ s.length ∧ i = .int .i64 n ∧ q = .int .i64 x ∧ 0 ≤ x ∧ x ≤ 2147483647 ∧ Hid (x = len9 out (s.take n))) ∧ Below wb.heap.size wb wr) (fun i _ _ => s.length - (intOf i).toNat)
  case atStart => exact ⟨⟨0, 0, Nat.zero_le _, rfl, rfl, by omega, by omega, by simp [Hid, len9]⟩, Below.refl _ _⟩
  case round =>
    obtain ⟨⟨n, x, hn, rfl, rfl, hx0, hx1, hE⟩, hB⟩ := hrel
    have HB := Lib.hid (And.intro hE hB)
    have hwr := below2 hb1 hB
    have ku4r := ku4.below hwr
    have hbr := hB1.below hB
    have x0 := hbr.cell 0 (v := .slice A1 c.toks.length c1) rfl
    have x1 := hbr.cell 1 (v := .slice A2 c.names.length c2) rfl
    have x2 := hbr.cell 2 (v := .slice A3 c.alts.length c3) rfl
    have HWR := Lib.hid hwr
    clear hE hB hbr hwr
    by_cases hlt : n < s.length
    · obtain ⟨k, hk⟩ := at_lt s hlt
      obtain ⟨ad, rfl, hk64, hcell⟩ := ku4r.int hk
      have hstep : Hid (len9 out (s.take (n + 1)) = min (len9 out (s.take n) + mor9 out k) farI) := by
        rw [take_next hk, len9_snoc]; rfl
      have hrule := rule9_calls A1 A2 A3 c.toks.length c.names.length c.alts.length c1 c2 c3 k wr hk64 (by omega)
      rw [← HLEN.out.1] at hrule
      have HK := Lib.hid hk
      clear hk
      rcases rule9_mor out k with ⟨e1, e2⟩ | ⟨r, m, e1, hrl, hrb, e2⟩
      · rw [e1, HLEN.out.1] at hrule
        have HR := Lib.hid hrule
        have E2 := Lib.hid e2
        clear hrule e1 e2
        go_wp2_with (go_at_call 57; refine HR.out.mono ?_; rintro e w3 ⟨rfl, hb3⟩)
        refine ⟨⟨⟨n + 1, min (x + 1) 2147483647, by omega, by simp, rfl, by omega, by omega, ?_⟩, below2 HB.out.2 hb3⟩, by simp [intOf]; omega⟩
        have h1 : len9 out _ = _ := hstep
        show _ = _
        rw [h1, E2.out, ← (show x = _ from HB.out.1)]; rfl
      · rw [e1, HLEN.out.1] at hrule
        have HR := Lib.hid hrule
        have E2 := Lib.hid e2
        have hmr := HLEN.out.2 r m hrb
        have hm0 := hmr.1
        have hm1' : m ≤ 2147483647 := hmr.2.1
        have hrl2 : r < c.alts.length := by have := HLEN.out.1; omega
        clear hrule e1 e2 hmr
        have HRB := Lib.hid hrb
        clear hrb
        have hcellb : Hid (∀ w' : World, Below w.heap.size w w' → ∃ ad, AO = some ad ∧ w'.cell? (ad.add r) = some (.int .i64 m)) := fun w' hb => by
          obtain ⟨ad, e, _, hc⟩ := (ko4.below hb).int HRB.out; exact ⟨ad, e, hc⟩
        obtain ⟨ado, hao, _⟩ := hcellb.out w (Below.refl _ _)
        subst hao
        have HCB : Hid (∀ w' : World, Below w.heap.size w w' → w'.cell? (ado.add r) = some (.int .i64 m)) := fun w' hb => by
          obtain ⟨ad', e', hc⟩ := hcellb.out w' hb
          injection e' with e'; subst e'; exact hc
        go_wp2_with (go_at_call 57; refine HR.out.mono ?_; rintro e w3 ⟨rfl, hb3⟩; have hcb := HCB.out w3 (below2 HWR.out hb3))
        refine ⟨⟨⟨n + 1, min (x + m) 2147483647, by omega, by simp, rfl, by omega, by omega, ?_⟩, below2 HB.out.2 hb3⟩, by simp [intOf]; omega⟩
        have h1 : len9 out _ = _ := hstep
        show _ = _
        rw [h1, E2.out, ← (show x = _ from HB.out.1)]; rfl
    · go_wp2
      go_ret
      have h : x = _ := HB.out.1
      rw [List.take_of_length_le (by omega)] at h
      exact ⟨ret_int h.symm, HWR.out⟩
/-- what is known, in memory -/
structure RSh (w0 : World) (X O : Nat) (a b d : Value) (n : Nat) (out : List Int) (w : World) : Prop where
  cb : Box w X #[a, b, d] 25
  ob : Box w O (out.map (Value.int .i64)).toArray 3
  len : out.length = n
  ne : O ≠ X
  lb : w0.heap.size ≤ O
  bl : Below w0.heap.size w0 w
theorem RSh.below {w0 : World} {X O : Nat} {a b d : Value} {n : Nat} {out : List Int} {w w' : World} (h : RSh w0 X O a b d n out w) (k : Below w.heap.size w w') : RSh w0 X O a b d n out w' :=
  ⟨h.cb.below k, h.ob.below k, h.len, h.ne, h.lb, below2 h.bl k⟩
theorem RSh.cell {w0 : World} {X O : Nat} {a b d : Value} {n : Nat} {out : List Int} {w : World} (h : RSh w0 X O a b d n out w) {r : Nat} {m : Int} (hm : out[r]? = some m) : w.cell? ⟨O, r, none⟩ = some (.int .i64 m) :=
  h.ob.cell r (by simp [hm])
theorem RSh.sl {w0 : World} {X O : Nat} {a b d : Value} {n : Nat} {out : List Int} {w : World} (h : RSh w0 X O a b d n out w) (hn : n ≤ 100000) (h64 : ∀ x ∈ out, Ty.i64 x) : Sl Ty.int w (.slice (some ⟨O, 0, none⟩) n n) out :=
  (ilOfBox h.ob h.len hn h64).sl
theorem RSh.set {w0 : World} {X O : Nat} {a b d : Value} {n : Nat} {out : List Int} {w : World} (h : RSh w0 X O a b d n out w) (r : Nat) (m : Int) : RSh w0 X O a b d n (out.set r m) (w.setCell ⟨O, r, none⟩ (.int .i64 m)) := by
  have hk : ∀ g, g ≠ O → (w.setCell ⟨O, r, none⟩ (.int .i64 m)).heap[g]? = w.heap[g]? := fun g hg => Below.heap_setCell w ⟨O, r, none⟩ _ g hg
  refine ⟨h.cb.keep (hk _ h.ne.symm), ?_, by simpa using h.len, h.ne, h.lb, h.bl.setCell h.lb _⟩
  have := h.ob.set r (.int .i64 m)
  rwa [List.setIfInBounds_toArray, ← List.map_set] at this
theorem shI64 {c : Cfg} {out : List Int} (h : ShI c out) : ∀ x ∈ out, Ty.i64 x := fun x hx => by
  obtain ⟨i, hi⟩ := List.mem_iff_getElem?.1 hx
  obtain ⟨h1, h2, _⟩ := h.2 i x hi
  unfold farI at h2
  unfold Ty.i64; omega
/-- the region of a step -/
def RShV (O n r : Nat) (cv xv : Value) (m q : Int) (i : Nat) (v : Value) (_ : World) : Prop := match i with
  | 0 => v = .slice (some ⟨O, 0, none⟩) n n
  | 1 => v = .int .i64 r
  | 2 => v = .slice (some ⟨O, 0, none⟩) n n
  | 3 => v = .int .i64 r
  | 4 => v = .pointer (some ⟨O, r, none⟩)
  | 5 => v = .int .i64 m
  | 6 => v = cv
  | 7 => v = xv
  | 8 => v = .slice (some ⟨O, 0, none⟩) n n
  | 9 => v = .int .i64 q
  | 10 => v = .int .i64 (min m q)
  | _ => v = .pointer (some ⟨O, r, none⟩)
theorem exec_min {P : Program} {ρ : Operand → Value} {o : Oper} {x y : Operand} {ts : Array TypeId} {a b : Int} {w : World} (ho : o.op = .call { callee := .builtin .min, args := #[x, y], argTypes := ts }) (hx : ρ x = .int .i64 a) (hy : ρ y = .int .i64 b) : (execOp ρ o).run P w = .ok (.value (.int .i64 (min a b))) w := by
  unfold execOp
  simp only [ho, resolve, invoke, builtin, Sem.run_bind, Sem.run_pure, Result.andThen_ok, List.map_toArray, List.map_cons, List.map_nil, hx, hy]
  go_simp
/-- far at the first j places -/
def farTo (n j : Nat) : List Int := List.replicate j farI ++ List.replicate (n - j) 0
theorem farTo_set {n j : Nat} (h : j < n) : (farTo n j).set j farI = farTo n (j + 1) := by
  unfold farTo
  apply List.ext_getElem?
  intro i
  by_cases e : i = j
  · subst e
    rw [List.getElem?_set_self (by simp; omega), List.getElem?_append_left (by simp), List.getElem?_replicate, if_pos (by omega)]
  · rw [List.getElem?_set_ne (fun e' => e e'.symm)]
    by_cases hij : i < j
    · rw [List.getElem?_append_left (by simp; omega), List.getElem?_append_left (by simp; omega), List.getElem?_replicate, List.getElem?_replicate, if_pos hij, if_pos (by omega)]
    · rw [List.getElem?_append_right (by simp; omega), List.getElem?_append_right (by simp; omega), List.getElem?_replicate, List.getElem?_replicate]
      simp only [List.length_replicate]
      by_cases hin : i < n
      · rw [if_pos (by omega), if_pos (by omega)]
      · rw [if_neg (by omega), if_neg (by omega)]
def rshEnd (c : Cfg) (w : World) (e : Ending) (w' : World) : Prop := ∃ O out, e = .returned (.slice (some ⟨O, 0, none⟩) c.alts.length c.alts.length) ∧ Box w' O (out.map (Value.int .i64)).toArray 3 ∧ ShortOk c out ∧ Below w.heap.size w w' ∧ w.heap.size ≤ O
set_option maxRecDepth 100000 in
set_option maxHeartbeats 4000000 in
theorem refShort_calls (c : Cfg) (v : Value) (w : World) (h : CfgV w v c) (hok : CfgOk c) (hsm : Small 200 c) (h0 : 0 < c.alts.length) : Calls Try.prog 24 #[v] w (rshEnd c w) := by
  have hal : c.alts.length ≤ 200 := by have := hok.1; have := hsm.1; omega
  obtain ⟨a0, b0, d0, rfl, h1, h2, h3⟩ := id h
  obtain ⟨A1, c1, rfl, hc1, hm1, _, hr1⟩ := id h1
  obtain ⟨A2, c2, rfl, hc2, hm2, _, hr2⟩ := id h2
  obtain ⟨A3, c3, rfl, hc3, hm3, hl3, hr3⟩ := id h3
  have HH := Lib.hid (And.intro h (And.intro hok hsm))
  unfold LB at hl3
  clear h hok hsm h1 h2 h3 hr1 hr2
  have hB1 := Box.new w #[.slice A1 c.toks.length c1, .slice A2 c.names.length c2, .slice A3 c.alts.length c3] 25
  have hb1 : Below w.heap.size w (w.alloc (.cells #[.slice A1 c.toks.length c1, .slice A2 c.names.length c2, .slice A3 c.alts.length c3] 25)) := (Below.refl _ _).alloc (Nat.le_refl _) _
  obtain ⟨i0, hi0, hz0, hzs, hzb⟩ := info_parts infoInt
  have hmk := run_makeSlice (P := Try.prog) (w.alloc (.cells #[.slice A1 c.toks.length c1, .slice A2 c.names.length c2, .slice A3 c.alts.length c3] 25)) 35 3 i0 _ Try.underlying35 hi0 hz0 .i64 .i64 c.alts.length c.alts.length (by omega) (by omega) (by rw [hzs]; omega) (by rw [hzb]; omega) (by omega)
  have e0 : (madeCells (Value.int .i64 0).cells ((c.alts.length : Int).toNat * i0.size)) = Array.replicate c.alts.length (.int .i64 0) := by rw [hzs, Int.toNat_natCast]; exact madeZero _
  rw [e0, Int.toNat_natCast] at hmk
  clear hi0 hz0 hzs hzb e0
  have hsz1 : (w.alloc (.cells #[.slice A1 c.toks.length c1, .slice A2 c.names.length c2, .slice A3 c.alts.length c3] 25)).heap.size = w.heap.size + 1 := by simp
  have hS0 : Hid (RSh w w.heap.size (w.heap.size + 1) (.slice A1 c.toks.length c1) (.slice A2 c.names.length c2) (.slice A3 c.alts.length c3) c.alts.length (farTo c.alts.length 0) ((w.alloc (.cells #[.slice A1 c.toks.length c1, .slice A2 c.names.length c2, .slice A3 c.alts.length c3] 25)).alloc (.cells (Array.replicate c.alts.length (.int .i64 0)) 3))) := by
    have hO := Box.new (w.alloc (.cells #[.slice A1 c.toks.length c1, .slice A2 c.names.length c2, .slice A3 c.alts.length c3] 25)) (Array.replicate c.alts.length (Value.int .i64 0)) 3
    rw [hsz1] at hO
    exact ⟨hB1.alloc _, by unfold farTo; simpa using hO, by simp [farTo], by omega, by omega, hb1.alloc (by omega) _⟩
  have hbc := hB1.cell 2 (v := .slice A3 c.alts.length c3) rfl
  clear hB1 hb1
  go_enter Try.func24, Try.ntmps24
  go_wp2
  clear hmk hbc hsz1
  go_loopw [15] (fun i wr => ∃ (j : Nat), j ≤ c.alts.length ∧ i = .int .i64 j ∧ RSh w w.heap.size (w.heap.size + 1) (.slice A1 c.toks.length c1) (.slice A2 c.names.length c2) (.slice A3 c.alts.length c3) c.alts.length (farTo c.alts.length j) wr) (fun i _ => c.alts.length - (intOf i).toNat)
  case atStart => exact ⟨0, Nat.zero_le _, rfl, hS0⟩
  case round =>
    obtain ⟨j0, hj0, rfl, hS1⟩ := hrel
    have H0 := Lib.hid hS1
    by_cases hlt0 : j0 < c.alts.length
    · have hfl : j0 < (farTo c.alts.length j0).length := by simp [farTo]; omega
      obtain ⟨m0, hm0⟩ := at_lt _ hfl
      have hcj := hS1.cell hm0
      have hfr := hS1.ob.frozen j0
      clear hS1 hfl hm0
      go_wp2
      refine ⟨⟨j0 + 1, by omega, by simp, ?_⟩, by simp [intOf]; omega⟩
      have := H0.out.set j0 farI
      rwa [farTo_set hlt0] at this
    · have hje : j0 = c.alts.length := by omega
      subst hje
      clear hS1 hS0
      obtain ⟨wz, rfl⟩ : ∃ wz : World, wz = wr := ⟨_, rfl⟩
      have HF : Hid (farTo c.alts.length c.alts.length = List.replicate c.alts.length farI) := by
        show _ = _
        unfold farTo; simp
      go_wp2
      go_loopw [24] (fun i wr => ∃ (j : Nat) (out : List Int), j ≤ c.alts.length ∧ i = .int .i64 j ∧ RSh w w.heap.size (w.heap.size + 1) (.slice A1 c.toks.length c1) (.slice A2 c.names.length c2) (.slice A3 c.alts.length c3) c.alts.length out wr ∧ Hid (Sett c out j)) (fun i _ => c.alts.length - (intOf i).toNat)
      case atStart => exact ⟨0, List.replicate c.alts.length farI, Nat.zero_le _, rfl, by have h := H0.out; rw [show farTo c.alts.length c.alts.length = _ from HF] at h; exact h, Sett.start c⟩
      case round =>
        obtain ⟨j1, out0, hj1, rfl, hS1, hT1⟩ := hrel
        have H1 := Lib.hid (And.intro hS1 hT1)
        have x2 := hS1.cb.cell 2 (v := .slice A3 c.alts.length c3) rfl
        clear hS1 hT1
        by_cases hlt1 : j1 < c.alts.length
        · obtain ⟨wa, rfl⟩ : ∃ wa : World, wa = wr := ⟨_, rfl⟩
          go_wp2
          go_loopw [29] (fun i wr => ∃ (s : Nat) (out : List Int), s ≤ c.alts.length ∧ i = .int .i64 s ∧ RSh w w.heap.size (w.heap.size + 1) (.slice A1 c.toks.length c1) (.slice A2 c.names.length c2) (.slice A3 c.alts.length c3) c.alts.length out wr ∧ Hid (Seen c out0 out s 0)) (fun i _ => c.alts.length - (intOf i).toNat)
          case atStart => exact ⟨0, out0, Nat.zero_le _, rfl, H1.out.1, Seen.start H1.out.2.out.1⟩
          case round =>
            obtain ⟨s, out1, hs, rfl, hS2, hR2⟩ := hrel
            have H2 := Lib.hid (And.intro hS2 hR2)
            have y2 := hS2.cb.cell 2 (v := .slice A3 c.alts.length c3) rfl
            clear hS2 hR2
            by_cases hlt : s < c.alts.length
            · obtain ⟨al, hal1⟩ := at_lt c.alts hlt
              obtain ⟨ad3, B3, c4, rfl, hcellB, g1, g2, g3, g4⟩ := (hr3.below H2.out.1.bl).slice hal1
              have hrowB : Hid (∀ w' : World, Below w.heap.size w w' → Row (Ty.slice Ty.int) w' B3 al) := by
                intro w' hb
                obtain ⟨ad0, B0, c0, e0, hcell0, _, _, _, g40⟩ := hr3.slice hal1
                injection e0 with e0
                subst e0
                have q1 := cell_far hcell0 H2.out.1.bl.block
                rw [hcellB] at q1; injection q1 with q1; injection q1 with q1 _ _
                rw [q1]; exact g40.below hb
              have HAL := Lib.hid hal1; clear hal1 g4
              obtain ⟨w3, rfl⟩ : ∃ w3 : World, w3 = wr := ⟨_, rfl⟩
              go_wp2
              go_loopw [36] (fun i wr => ∃ (j : Nat) (out : List Int), j ≤ al.length ∧ i = .int .i64 j ∧ RSh w w.heap.size (w.heap.size + 1) (.slice A1 c.toks.length c1) (.slice A2 c.names.length c2) (.slice (some ad3) c.alts.length c3) c.alts.length out wr ∧ Hid (Seen c out0 out s j)) (fun i _ => al.length - (intOf i).toNat)
              case atStart => exact ⟨0, out1, Nat.zero_le _, rfl, H2.out.1, H2.out.2⟩
              case round =>
                obtain ⟨j, out2, hj, rfl, hS3, hR3⟩ := hrel
                have H3 := Lib.hid (And.intro hS3 hR3)
                clear hS3 hR3
                by_cases hlt4 : j < al.length
                · obtain ⟨x, hx⟩ := at_lt al hlt4
                  have hro : Row (Ty.slice Ty.int) wr B3 al := hrowB.out wr H3.out.1.bl
                  obtain ⟨adA, BA, cA, rfl, hcellA, a1, a2, a3, a4⟩ := hro.slice hx
                  have hua : Hid (Sl Ty.int wr (.slice BA x.length cA) x) := ⟨BA, cA, rfl, a1, a2, a3, a4⟩
                  have hxm := List.mem_of_getElem? hx
                  have hinA := HH.out.2.1.2 al (List.mem_of_getElem? HAL.out) x hxm
                  have hnm := HH.out.2.1.1
                  have hin : Hid (∀ k ∈ x, k < 0 → -1 - k < c.alts.length) := fun k hk hk0 => by rcases hinA k hk with h | h <;> omega
                  have hsee : Hid (Seen c out0 (shStep out2 s x) s (j + 1)) := H3.out.2.out.step H1.out.2.out.1 HAL.out hx hin.out
                  have hsl2 : s < out2.length := by have := H3.out.1.len; omega
                  obtain ⟨m, hm⟩ := at_lt out2 hsl2
                  have hst : Hid (shStep out2 s x = out2.set s (min m (len9 out2 x))) := by
                    show _ = _
                    unfold shStep; rw [List.getD_eq_getElem?_getD, hm]; rfl
                  obtain ⟨q, hq⟩ : ∃ q, q = len9 out2 x := ⟨_, rfl⟩
                  rw [← hq] at hst
                  have HQ := Lib.hid hq
                  have HM := Lib.hid hm
                  clear hx hro a4 hxm hinA hnm hq hm
                  obtain ⟨wb, rfl⟩ : ∃ wb : World, wb = wr := ⟨_, rfl⟩
                  go_wp2
                  refine wp_region_growLast 12 (by kernel_rfl) (by kernel_rfl) (by kernel_rfl) (by kernel_rfl) (by kernel_rfl) (RShV (w.heap.size + 1) c.alts.length s (.agg #[.slice A1 c.toks.length c1, .slice A2 c.names.length c2, .slice (some ad3) c.alts.length c3]) (.slice BA x.length cA) m q) (fun _ _ _ _ h _ => h) ?_ ?_
                  · intro i hi o ho val w2 hB2 hd
                    have hS2 := H3.out.1.below hB2
                    have x0 := hS2.cb.cell 0 (v := .slice A1 c.toks.length c1) rfl
                    have x1 := hS2.cb.cell 1 (v := .slice A2 c.names.length c2) rfl
                    have x2 := hS2.cb.cell 2 (v := .slice (some ad3) c.alts.length c3) rfl
                    have hcm := hS2.cell HM.out
                    have : i = 0 ∨ i = 1 ∨ i = 2 ∨ i = 3 ∨ i = 4 ∨ i = 5 ∨ i = 6 ∨ i = 7 ∨ i = 8 ∨ i = 9 ∨ i = 10 ∨ i = 11 := by omega
                    rcases this with rfl | rfl | rfl | rfl | rfl | rfl | rfl | rfl | rfl | rfl | rfl | rfl <;> cases ho
                    · exact does_value (exec_move (.inl rfl) rfl) ⟨Below.refl _ _, rfl⟩
                    · exact does_value (exec_move (.inl rfl) rfl) ⟨Below.refl _ _, rfl⟩
                    · exact does_value (exec_move (.inl rfl) rfl) ⟨Below.refl _ _, rfl⟩
                    · exact does_value (exec_move (.inl rfl) rfl) ⟨Below.refl _ _, rfl⟩
                    · have e2 : val 2 = .slice (some ⟨w.heap.size + 1, 0, none⟩) c.alts.length c.alts.length := hd 2 ⟨⟨2, .data⟩, by simp, rfl, rfl⟩
                      have e3 : val 3 = .int .i64 s := hd 3 ⟨⟨3, .data⟩, by simp, rfl, rfl⟩
                      exact does_value (v := .pointer (some ⟨w.heap.size + 1, s, none⟩)) (w := w2) (exec_indexAddr rfl e2 e3 (by go_simp)) ⟨Below.refl _ _, rfl⟩
                    · have e4 : val 4 = .pointer (some ⟨w.heap.size + 1, s, none⟩) := hd 4 ⟨⟨4, .data⟩, by simp, rfl, rfl⟩
                      exact does_value (exec_load rfl e4 (by go_simp)) ⟨Below.refl _ _, rfl⟩
                    · exact does_value (exec_load rfl rfl (by go_simp)) ⟨Below.refl _ _, rfl⟩
                    · exact does_value (exec_move (.inl rfl) rfl) ⟨Below.refl _ _, rfl⟩
                    · exact does_value (exec_move (.inl rfl) rfl) ⟨Below.refl _ _, rfl⟩
                    · have e6 : val 6 = .agg #[.slice A1 c.toks.length c1, .slice A2 c.names.length c2, .slice (some ad3) c.alts.length c3] := hd 6 ⟨⟨6, .data⟩, by simp, rfl, rfl⟩
                      have e7 : val 7 = .slice BA x.length cA := hd 7 ⟨⟨7, .data⟩, by simp, rfl, rfl⟩
                      have e8 : val 8 = .slice (some ⟨w.heap.size + 1, 0, none⟩) c.alts.length c.alts.length := hd 8 ⟨⟨8, .data⟩, by simp, rfl, rfl⟩
                      refine does_enter (f := 60) (args := #[.agg #[.slice A1 c.toks.length c1, .slice A2 c.names.length c2, .slice (some ad3) c.alts.length c3], .slice BA x.length cA, .slice (some ⟨w.heap.size + 1, 0, none⟩) c.alts.length c.alts.length]) (w := w2) (exec_call rfl rfl (by simp only [List.map_toArray, List.map_cons, List.map_nil]; exact args3 e6 e7 e8) Try.func60 (by decide) rfl) ?_
                      refine (length_calls c x out2 _ _ _ w2 (HH.out.1.below hS2.bl) (hua.out.below hB2) (hS2.sl (by omega) (shI64 H3.out.2.out.1.inv)) H3.out.2.out.1.inv (by omega)).mono ?_
                      rintro e w' ⟨rfl, hb⟩
                      rw [← HQ.out]
                      exact ⟨_, rfl, hb, rfl⟩
                    · have e5 : val 5 = .int .i64 m := hd 5 ⟨⟨5, .data⟩, by simp, rfl, rfl⟩
                      have e9 : val 9 = .int .i64 q := hd 9 ⟨⟨9, .data⟩, by simp, rfl, rfl⟩
                      exact does_value (exec_min rfl e5 e9) ⟨Below.refl _ _, rfl⟩
                    · have e0 : val 0 = .slice (some ⟨w.heap.size + 1, 0, none⟩) c.alts.length c.alts.length := hd 0 ⟨⟨0, .data⟩, by simp, rfl, rfl⟩
                      have e1 : val 1 = .int .i64 s := hd 1 ⟨⟨1, .data⟩, by simp, rfl, rfl⟩
                      exact does_value (v := .pointer (some ⟨w.heap.size + 1, s, none⟩)) (w := w2) (exec_indexAddr rfl e0 e1 (by go_simp)) ⟨Below.refl _ _, rfl⟩
                  · intro o ho val w2 hB2 hV
                    cases ho
                    have e10 : val 10 = .int .i64 (min m q) := hV 10 (by decide)
                    have e11 : val 11 = .pointer (some ⟨w.heap.size + 1, s, none⟩) := hV 11 (by decide)
                    have hS2 := H3.out.1.below hB2
                    have hcm := hS2.cell HM.out
                    have hfr := hS2.ob.frozen s
                    clear hV
                    refine does_skip (w := w2.setCell ⟨w.heap.size + 1, s, none⟩ (.int .i64 (min m q))) (exec_store rfl e11 e10 (by go_simp)) ?_
                    simp [fillAll, List.range, List.range.loop, dstOf, Act.put]
                    go_wp2
                    have h : shStep out2 s x = _ := hst
                    refine ⟨⟨j + 1, shStep out2 s x, by omega, by simp, by rw [h]; exact hS2.set s _, hsee⟩, by simp [intOf]; omega⟩
                · have hje : j = al.length := by omega
                  subst hje
                  go_wp2
                  exact ⟨⟨s + 1, out2, by omega, by simp, H3.out.1, H3.out.2.out.next HAL.out⟩, by simp [intOf]; omega⟩
            · have hse : s = c.alts.length := by omega
              subst hse
              go_wp2
              exact ⟨⟨j1 + 1, out1, by omega, by simp, H2.out.1, H1.out.2.out.round H2.out.2.out⟩, by simp [intOf]; omega⟩
        · have hje : j1 = c.alts.length := by omega
          subst hje
          go_wp2
          go_ret
          exact ⟨_, out0, rfl, H1.out.1.ob, H1.out.2.out.all, H1.out.1.bl, by omega⟩
end Go.Proofs.Ytigbfankkmmnbaa
