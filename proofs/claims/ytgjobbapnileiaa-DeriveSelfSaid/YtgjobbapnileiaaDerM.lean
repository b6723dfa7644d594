/- Derivations, and what a chart that stands says of them. -/
import Derived.Test.YtgjobbapnileiaaThrM
set_option linter.unusedVariables false
set_option linter.unusedSimpArgs false
namespace Go.Proofs.Ytgjobbapnileiaa
open Go.RowKit Gk

/-- tokens that a list of numbers may stand for -/
inductive Gen (c : Cfg) : List Int → List Int → Prop
  | nil : Gen c [] []
  | tok {k : Int} {s x : List Int} : 0 ≤ k → Gen c s x → Gen c (k :: s) (k :: x)
  | rule {k : Int} {s x y a : List Int} {al : List (List Int)} : k < 0 → c.alts[(-1 - k).toNat]? = some al → a ∈ al → Gen c a x → Gen c s y → Gen c (k :: s) (x ++ y)
/-- .. between two places of a list -/
inductive Dp (c : Cfg) (toks : List Int) : List Int → Int → Int → Prop
  | nil (i : Int) : Dp c toks [] i i
  | tok {k : Int} {s : List Int} {i j : Int} : 0 ≤ k → 0 ≤ i → toks[i.toNat]? = some k → Dp c toks s (i + 1) j → Dp c toks (k :: s) i j
  | rule {k : Int} {s a : List Int} {i m j : Int} {al : List (List Int)} : k < 0 → c.alts[(-1 - k).toNat]? = some al → a ∈ al → Dp c toks a i m → Dp c toks s m j → Dp c toks (k :: s) i j
theorem Gen.append {c : Cfg} {s x : List Int} (h : Gen c s x) {t y : List Int} (k : Gen c t y) : Gen c (s ++ t) (x ++ y) := by
  induction h with
  | nil => exact k
  | tok h1 _ ih => exact .tok h1 ih
  | rule h1 h2 h3 h4 _ _ ih => rw [List.append_assoc]; exact .rule h1 h2 h3 h4 ih
theorem Gen.split {c : Cfg} : ∀ {s t z : List Int}, Gen c (s ++ t) z → ∃ x y, z = x ++ y ∧ Gen c s x ∧ Gen c t y := by
  intro s
  induction s with
  | nil => intro t z h; exact ⟨[], z, rfl, .nil, h⟩
  | cons k s ih =>
    intro t z h
    rw [List.cons_append] at h
    cases h with
    | tok h1 h2 => obtain ⟨x, y, rfl, h3, h4⟩ := ih h2; exact ⟨k :: x, y, rfl, .tok h1 h3, h4⟩
    | rule h1 h2 h3 h4 h5 => obtain ⟨x, y, rfl, h6, h7⟩ := ih h5; exact ⟨_, y, by rw [List.append_assoc], .rule h1 h2 h3 h4 h6, h7⟩
theorem Dp.append {c : Cfg} {toks s : List Int} {i m : Int} (h : Dp c toks s i m) {t : List Int} {j : Int} (k : Dp c toks t m j) : Dp c toks (s ++ t) i j := by
  induction h with
  | nil i => exact k
  | tok h1 h2 h3 _ ih => exact .tok h1 h2 h3 (ih k)
  | rule h1 h2 h3 h4 _ _ ih => exact .rule h1 h2 h3 h4 (ih k)
theorem Gen.dp {c : Cfg} {s x : List Int} (h : Gen c s x) : ∀ p q : List Int, Dp c (p ++ x ++ q) s p.length (p.length + x.length) := by
  induction h with
  | nil => intro p q; simpa using Dp.nil _
  | @tok k s x h1 _ ih =>
    intro p q
    have := ih (p ++ [k]) q
    refine .tok h1 (by omega) (by simp) ?_
    have e : p ++ k :: x ++ q = p ++ [k] ++ x ++ q := by simp
    rw [e]
    simpa [Int.add_assoc, Int.add_comm, Int.add_left_comm] using this
  | @rule k s x y a al h1 h2 h3 _ _ ih1 ih2 =>
    intro p q
    have e1 := ih1 p (y ++ q)
    have e2 := ih2 (p ++ x) q
    refine .rule h1 h2 h3 (m := p.length + x.length) ?_ ?_
    · simpa using e1
    · simpa [Int.add_assoc] using e2
theorem Dp.gen {c : Cfg} {toks s : List Int} {i j : Int} (h : Dp c toks s i j) : 0 ≤ i → i ≤ toks.length → i ≤ j ∧ j ≤ toks.length ∧ Gen c s ((toks.drop i.toNat).take (j - i).toNat) := by
  induction h with
  | nil i => intro h1 h2; exact ⟨Int.le_refl _, h2, by simpa using Gen.nil⟩
  | @tok k s i j h1 h2 h3 _ ih =>
    intro h4 h5
    have hlt := (List.getElem?_eq_some_iff.1 h3).1
    obtain ⟨h6, h7, h8⟩ := ih (by omega) (by omega)
    refine ⟨by omega, h7, ?_⟩
    have e1 : toks.drop i.toNat = k :: toks.drop (i.toNat + 1) := by
      rw [List.drop_eq_getElem_cons hlt]
      have := List.getElem?_eq_getElem hlt
      rw [h3] at this; injection this with this; rw [← this]
    have e2 : (j - i).toNat = (j - (i + 1)).toNat + 1 := by omega
    have e3 : (i + 1).toNat = i.toNat + 1 := by omega
    rw [e1, e2, List.take_succ_cons]
    rw [e3] at h8
    exact .tok h1 h8
  | @rule k s a i m j al h1 h2 h3 _ _ ih1 ih2 =>
    intro h4 h5
    obtain ⟨h6, h7, h8⟩ := ih1 h4 h5
    obtain ⟨h9, h10, h11⟩ := ih2 (by omega) h7
    refine ⟨by omega, h10, ?_⟩
    have e : (toks.drop i.toNat).take (j - i).toNat = (toks.drop i.toNat).take (m - i).toNat ++ (toks.drop m.toNat).take (j - m).toNat := by
      have e1 : (j - i).toNat = (m - i).toNat + (j - m).toNat := by omega
      have e2 : toks.drop m.toNat = (toks.drop i.toNat).drop (m - i).toNat := by rw [List.drop_drop]; congr 1; omega
      rw [e1, e2, List.take_add]
    rw [e]
    exact .rule h1 h2 h3 h8 h11
/-- all the tokens -/
theorem gen_iff {c : Cfg} {toks s : List Int} : Gen c s toks ↔ Dp c toks s 0 toks.length := by
  constructor
  · intro h; have := h.dp [] []; simpa using this
  · intro h; obtain ⟨_, _, h3⟩ := h.gen (Int.le_refl _) (by omega); simpa using h3

/-- what is known is so -/
def Sound (c : Cfg) (toks : List Int) (σ : St) : Prop := ∀ p ∈ σ.W, ∀ j ∈ σ.S p, ∃ al a, c.alts[p.1.toNat]? = some al ∧ a ∈ al ∧ Dp c toks a p.2 j
theorem thr_sound {c : Cfg} {toks : List Int} {σ : St} (h : Sound c toks σ) (seq : List Int) (X : Int → Prop) : ∀ j, thr c toks σ seq X j → ∃ i, X i ∧ Dp c toks seq i j := by
  induction seq generalizing X with
  | nil => intro j hj; exact ⟨j, hj, .nil j⟩
  | cons k s ih =>
    intro j hj
    obtain ⟨m, ⟨i, hi, ho⟩, hd⟩ := ih (stepP c toks σ k X) j hj
    refine ⟨i, hi, ?_⟩
    rcases ho with ⟨h1, h2, h3, rfl⟩ | ⟨h1, h2, h3, h4⟩
    · exact .tok h1 h2 h3 hd
    · obtain ⟨al, a, h5, h6, h7⟩ := h _ h3 _ h4
      exact .rule h1 h5 h6 h7 hd
theorem askd_cons {c : Cfg} {toks : List Int} {σ : St} {k : Int} {s : List Int} {X : Int → Prop} {q : Pl} (h : askd c toks σ s (stepP c toks σ k X) q) : askd c toks σ (k :: s) X q := by
  obtain ⟨n, k', i, h1, h2, h3, h4, h5⟩ := h
  exact ⟨n + 1, k', i, by simpa using h1, h2, h3, by simpa [thr] using h4, h5⟩
/-- nothing more is to be found -/
structure Closed (c : Cfg) (toks : List Int) (σ : St) : Prop where
  ends : ∀ p ∈ σ.W, ∀ al a, c.alts[p.1.toNat]? = some al → a ∈ al → ∀ j, thr c toks σ a (· = p.2) j → j ∈ σ.S p
  asks : ∀ p ∈ σ.W, ∀ al a, c.alts[p.1.toNat]? = some al → a ∈ al → ∀ q, askd c toks σ a (· = p.2) q → q ∈ σ.W
theorem thr_complete {c : Cfg} {toks : List Int} {σ : St} (h : Closed c toks σ) {s : List Int} {i j : Int} (hd : Dp c toks s i j) : ∀ X : Int → Prop, X i → (∀ q, askd c toks σ s X q → q ∈ σ.W) → thr c toks σ s X j := by
  induction hd with
  | nil i => intro X hX _; exact hX
  | @tok k s i j h1 h2 h3 _ ih =>
    intro X hX ha
    exact ih (stepP c toks σ k X) ⟨i, hX, .inl ⟨h1, h2, h3, rfl⟩⟩ fun q hq => ha q (askd_cons hq)
  | @rule k s a i m j al h1 h2 h3 _ _ ih1 ih2 =>
    intro X hX ha
    have hlt := (List.getElem?_eq_some_iff.1 h2).1
    have hW : ((-1 - k, i) : Pl) ∈ σ.W := ha _ ⟨0, k, i, rfl, h1, by omega, hX, rfl⟩
    have hm := h.ends _ hW al a h2 h3 m (ih1 (· = i) rfl fun q hq => h.asks _ hW al a h2 h3 q hq)
    exact ih2 (stepP c toks σ k X) ⟨i, hX, .inr ⟨h1, by omega, hW, hm⟩⟩ fun q hq => ha q (askd_cons hq)
end Go.Proofs.Ytgjobbapnileiaa
