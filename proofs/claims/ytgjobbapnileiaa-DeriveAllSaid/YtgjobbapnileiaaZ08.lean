/- through: what it reckons, without a program; Derivations, and what a chart that stands says of them; The order of sentences, and lists in that order: without a program; All short sentences: what is reckoned, without a program. -/
import Derived.Test.YtgjobbapnileiaaZ07
set_option linter.unusedVariables false
set_option linter.unusedSimpArgs false
namespace Go.Proofs.Ytgjobbapnileiaa
open Go.RowKit Gk

def St.ends (σ : St) (p : Pl) (j : Int) : Prop := p ∈ σ.W ∧ j ∈ σ.S p
/-- where a number leads from a place -/
def one (c : Cfg) (toks : List Int) (σ : St) (k i j : Int) : Prop :=
  (0 ≤ k ∧ 0 ≤ i ∧ toks[i.toNat]? = some k ∧ j = i + 1) ∨ (k < 0 ∧ -1 - k < c.alts.length ∧ σ.ends (-1 - k, i) j)
def stepP (c : Cfg) (toks : List Int) (σ : St) (k : Int) (X : Int → Prop) : Int → Prop := fun j => ∃ i, X i ∧ one c toks σ k i j
def thr (c : Cfg) (toks : List Int) (σ : St) (seq : List Int) (X : Int → Prop) : Int → Prop := seq.foldl (fun X k => stepP c toks σ k X) X
def askd (c : Cfg) (toks : List Int) (σ : St) (seq : List Int) (X : Int → Prop) (p : Pl) : Prop :=
  ∃ (n : Nat) (k i : Int), seq[n]? = some k ∧ k < 0 ∧ -1 - k < c.alts.length ∧ thr c toks σ (seq.take n) X i ∧ p = (-1 - k, i)
/-- more places, of which nothing is known -/
structure Ext0 (σ σ' : St) : Prop where
  pre : ∃ l, σ'.W = σ.W ++ l
  same : ∀ p ∈ σ.W, σ'.S p = σ.S p
  new : ∀ p ∈ σ'.W, p ∉ σ.W → σ'.S p = []
theorem Ext0.refl (σ : St) : Ext0 σ σ := ⟨⟨[], by simp⟩, fun _ _ => rfl, fun p h1 h2 => absurd h1 h2⟩
theorem Ext0.mem {σ σ' : St} (h : Ext0 σ σ') {p : Pl} (hp : p ∈ σ.W) : p ∈ σ'.W := by obtain ⟨l, e⟩ := h.pre; rw [e]; simp [hp]
theorem Ext0.trans {a b c : St} (h : Ext0 a b) (k : Ext0 b c) : Ext0 a c := by
  refine ⟨?_, fun p hp => by rw [k.same p (h.mem hp), h.same p hp], fun p h1 h2 => ?_⟩
  · obtain ⟨l, e⟩ := h.pre; obtain ⟨m, e2⟩ := k.pre; exact ⟨l ++ m, by rw [e2, e, List.append_assoc]⟩
  · by_cases hb : p ∈ b.W
    · rw [k.same p hb]; exact h.new p hb h2
    · exact k.new p h1 hb
theorem Ext0.want (σ : St) (p : Pl) : Ext0 σ (σ.want p) := by
  unfold St.want
  split
  · exact Ext0.refl σ
  · rename_i hp
    refine ⟨⟨[p], rfl⟩, fun q hq => ?_, fun q h1 h2 => ?_⟩
    · have : q ≠ p := fun e => hp (e ▸ hq)
      simp [this]
    · have : q = p := by simpa [h2] using h1
      simp [this]
theorem want_mem (σ : St) (p : Pl) : p ∈ (σ.want p).W := by unfold St.want; split <;> simp_all
theorem want_W {σ : St} {p q : Pl} (h : q ∈ (σ.want p).W) : q ∈ σ.W ∨ q = p := by
  unfold St.want at h; split at h
  · exact .inl h
  · simpa using h
theorem Ext0.ends {σ σ' : St} (h : Ext0 σ σ') (p : Pl) (j : Int) : σ'.ends p j ↔ σ.ends p j := by
  unfold St.ends
  constructor
  · rintro ⟨h1, h2⟩
    by_cases hp : p ∈ σ.W
    · rw [h.same p hp] at h2; exact ⟨hp, h2⟩
    · rw [h.new p h1 hp] at h2; simp at h2
  · rintro ⟨h1, h2⟩; exact ⟨h.mem h1, by rw [h.same p h1]; exact h2⟩
theorem want_S {σ σ0 : St} (h : Ext0 σ0 σ) (p : Pl) (j : Int) : j ∈ (σ.want p).S p ↔ σ0.ends p j := by
  rw [← (h.trans (Ext0.want σ p)).ends p j]
  unfold St.ends
  simp [want_mem]
/-- what is known is in range -/
structure StOk (c : Cfg) (L : Nat) (σ : St) : Prop where
  r : ∀ p ∈ σ.W, 0 ≤ p.1 ∧ p.1 < c.alts.length ∧ 0 ≤ p.2 ∧ p.2 ≤ L
  s : ∀ p ∈ σ.W, ∀ j ∈ σ.S p, 0 ≤ j ∧ j ≤ L
  n : σ.W.Nodup
theorem StOk.want {c : Cfg} {L : Nat} {σ : St} (h : StOk c L σ) {p : Pl} (hp : 0 ≤ p.1 ∧ p.1 < c.alts.length ∧ 0 ≤ p.2 ∧ p.2 ≤ L) : StOk c L (σ.want p) := by
  by_cases hm : p ∈ σ.W
  · have : σ.want p = σ := by unfold St.want; rw [if_pos hm]
    rw [this]; exact h
  · have : σ.want p = ⟨σ.W ++ [p], fun q => if q = p then [] else σ.S q⟩ := by unfold St.want; rw [if_neg hm]
    rw [this]
    refine ⟨fun q hq => ?_, fun q hq j hj => ?_, nodup_snoc h.n hm⟩
    · rcases List.mem_append.1 hq with hq | hq
      · exact h.r q hq
      · simp at hq; subst hq; exact hp
    · rcases List.mem_append.1 hq with hq | hq
      · have : q ≠ p := fun e => hm (e ▸ hq)
        simp [this] at hj; exact h.s q hq j hj
      · simp at hq; subst hq; simp at hj
theorem one_range {c : Cfg} {toks : List Int} {σ : St} (h : StOk c toks.length σ) {k i j : Int} (ho : one c toks σ k i j) : 0 ≤ j ∧ j ≤ toks.length := by
  rcases ho with ⟨_, h2, h3, rfl⟩ | ⟨_, _, h3, h4⟩
  · have := (List.getElem?_eq_some_iff.1 h3).1; omega
  · exact h.s _ h3 _ h4
theorem thr_snoc (c : Cfg) (toks : List Int) (σ : St) (s : List Int) (k : Int) (X : Int → Prop) : thr c toks σ (s ++ [k]) X = stepP c toks σ k (thr c toks σ s X) := by simp [thr, List.foldl_append]
theorem askd_snoc {c : Cfg} {toks : List Int} {σ : St} {s : List Int} {k : Int} {X : Int → Prop} {p : Pl} :
    askd c toks σ (s ++ [k]) X p ↔ askd c toks σ s X p ∨ (k < 0 ∧ -1 - k < c.alts.length ∧ ∃ i, thr c toks σ s X i ∧ p = (-1 - k, i)) := by
  constructor
  · rintro ⟨n, k', i, h1, h2, h3, h4, h5⟩
    by_cases hn : n < s.length
    · rw [List.getElem?_append_left hn] at h1
      rw [List.take_append_of_le_length (by omega)] at h4
      exact .inl ⟨n, k', i, h1, h2, h3, h4, h5⟩
    · have hlt := (List.getElem?_eq_some_iff.1 h1).1
      have : n = s.length := by simp at hlt; omega
      subst this
      simp at h1; subst h1
      rw [List.take_append_of_le_length (by omega), List.take_length] at h4
      exact .inr ⟨h2, h3, i, h4, h5⟩
  · rintro (⟨n, k', i, h1, h2, h3, h4, h5⟩ | ⟨h2, h3, i, h4, h5⟩)
    · have hn := (List.getElem?_eq_some_iff.1 h1).1
      exact ⟨n, k', i, by rw [List.getElem?_append_left hn]; exact h1, h2, h3, by rw [List.take_append_of_le_length (by omega)]; exact h4, h5⟩
    · exact ⟨s.length, k, i, by simp, h2, h3, by rw [List.take_append_of_le_length (by omega), List.take_length]; exact h4, h5⟩
def plAll (n L : Nat) : List Pl := (List.range n).flatMap fun a : Nat => (List.range (L + 1)).map fun b : Nat => ((Int.ofNat a, Int.ofNat b) : Int × Int)
theorem places_le {c : Cfg} {L : Nat} {σ : St} (h : StOk c L σ) : σ.W.length ≤ c.alts.length * (L + 1) := by
  have h1 : σ.W.length ≤ (plAll c.alts.length L).length := by
    refine nodup_le _ _ h.n fun p hp => ?_
    obtain ⟨p1, p2, p3, p4⟩ := h.r p hp
    unfold plAll
    rw [List.mem_flatMap]
    refine ⟨p.1.toNat, List.mem_range.2 (by omega), ?_⟩
    rw [List.mem_map]
    exact ⟨p.2.toNat, List.mem_range.2 (by omega), Prod.ext (Int.toNat_of_nonneg p1) (Int.toNat_of_nonneg p3)⟩
  have h2 := flatMap_le (fun a : Nat => (List.range (L + 1)).map fun b : Nat => ((Int.ofNat a, Int.ofNat b) : Int × Int)) (L + 1) (List.range c.alts.length) (fun x _ => by simp)
  rw [List.length_range] at h2
  exact Nat.le_trans h1 h2
theorem ends_le {L : Nat} {K : List Int} (h : K.Nodup) (hr : ∀ j ∈ K, 0 ≤ j ∧ j ≤ L) : K.length ≤ L + 1 := by
  have h1 : K.length ≤ ((List.range (L + 1)).map fun b : Nat => (b : Int)).length := by
    refine nodup_le _ _ h fun j hj => ?_
    have := hr j hj
    rw [List.mem_map]
    exact ⟨j.toNat, List.mem_range.2 (by omega), by omega⟩
  simpa using h1
end Go.Proofs.Ytgjobbapnileiaa
set_option linter.unusedVariables false
set_option linter.unusedSimpArgs false
namespace Go.Proofs.Ytgjobbapnileiaa
open Go.RowKit Gk

/-- tokens that a list of numbers may stand for -/
inductive Gen (c : Cfg) : List Int → List Int → Prop
  | nil : Gen c [] []
  | tok {k : Int} {s x : List Int} : 0 ≤ k → Gen c s x → Gen c (k :: s) (k :: x)
  | rule {k : Int} {s x y a : List Int} {al : List (List Int)} : k < 0 → c.alts[(-1 - k).toNat]? = some al → a ∈ al → Gen c a x → Gen c s y → Gen c (k :: s) (x ++ y)
/-- .. between two places of a list -/
inductive Dp (c : Cfg) (toks : List Int) : List Int → Int → Int → Prop
  | nil (i : Int) : Dp c toks [] i i
  | tok {k : Int} {s : List Int} {i j : Int} : 0 ≤ k → 0 ≤ i → toks[i.toNat]? = some k → Dp c toks s (i + 1) j → Dp c toks (k :: s) i j
  | rule {k : Int} {s a : List Int} {i m j : Int} {al : List (List Int)} : k < 0 → c.alts[(-1 - k).toNat]? = some al → a ∈ al → Dp c toks a i m → Dp c toks s m j → Dp c toks (k :: s) i j
theorem Gen.append {c : Cfg} {s x : List Int} (h : Gen c s x) {t y : List Int} (k : Gen c t y) : Gen c (s ++ t) (x ++ y) := by
  induction h with
  | nil => exact k
  | tok h1 _ ih => exact .tok h1 ih
  | rule h1 h2 h3 h4 _ _ ih => rw [List.append_assoc]; exact .rule h1 h2 h3 h4 ih
theorem Gen.split {c : Cfg} : ∀ {s t z : List Int}, Gen c (s ++ t) z → ∃ x y, z = x ++ y ∧ Gen c s x ∧ Gen c t y := by
  intro s
  induction s with
  | nil => intro t z h; exact ⟨[], z, rfl, .nil, h⟩
  | cons k s ih =>
    intro t z h
    rw [List.cons_append] at h
    cases h with
    | tok h1 h2 => obtain ⟨x, y, rfl, h3, h4⟩ := ih h2; exact ⟨k :: x, y, rfl, .tok h1 h3, h4⟩
    | rule h1 h2 h3 h4 h5 => obtain ⟨x, y, rfl, h6, h7⟩ := ih h5; exact ⟨_, y, by rw [List.append_assoc], .rule h1 h2 h3 h4 h6, h7⟩
theorem Dp.append {c : Cfg} {toks s : List Int} {i m : Int} (h : Dp c toks s i m) {t : List Int} {j : Int} (k : Dp c toks t m j) : Dp c toks (s ++ t) i j := by
  induction h with
  | nil i => exact k
  | tok h1 h2 h3 _ ih => exact .tok h1 h2 h3 (ih k)
  | rule h1 h2 h3 h4 _ _ ih => exact .rule h1 h2 h3 h4 (ih k)
theorem Gen.dp {c : Cfg} {s x : List Int} (h : Gen c s x) : ∀ p q : List Int, Dp c (p ++ x ++ q) s p.length (p.length + x.length) := by
  induction h with
  | nil => intro p q; simpa using Dp.nil _
  | @tok k s x h1 _ ih =>
    intro p q
    have := ih (p ++ [k]) q
    refine .tok h1 (by omega) (by simp) ?_
    have e : p ++ k :: x ++ q = p ++ [k] ++ x ++ q := by simp
    rw [e]
    simpa [Int.add_assoc, Int.add_comm, Int.add_left_comm] using this
  | @rule k s x y a al h1 h2 h3 _ _ ih1 ih2 =>
    intro p q
    have e1 := ih1 p (y ++ q)
    have e2 := ih2 (p ++ x) q
    refine .rule h1 h2 h3 (m := p.length + x.length) ?_ ?_
    · simpa using e1
    · simpa [Int.add_assoc] using e2
theorem Dp.gen {c : Cfg} {toks s : List Int} {i j : Int} (h : Dp c toks s i j) : 0 ≤ i → i ≤ toks.length → i ≤ j ∧ j ≤ toks.length ∧ Gen c s ((toks.drop i.toNat).take (j - i).toNat) := by
  induction h with
  | nil i => intro h1 h2; exact ⟨Int.le_refl _, h2, by simpa using Gen.nil⟩
  | @tok k s i j h1 h2 h3 _ ih =>
    intro h4 h5
    have hlt := (List.getElem?_eq_some_iff.1 h3).1
    obtain ⟨h6, h7, h8⟩ := ih (by omega) (by omega)
    refine ⟨by omega, h7, ?_⟩
    have e1 : toks.drop i.toNat = k :: toks.drop (i.toNat + 1) := by
      rw [List.drop_eq_getElem_cons hlt]
      have := List.getElem?_eq_getElem hlt
      rw [h3] at this; injection this with this; rw [← this]
    have e2 : (j - i).toNat = (j - (i + 1)).toNat + 1 := by omega
    have e3 : (i + 1).toNat = i.toNat + 1 := by omega
    rw [e1, e2, List.take_succ_cons]
    rw [e3] at h8
    exact .tok h1 h8
  | @rule k s a i m j al h1 h2 h3 _ _ ih1 ih2 =>
    intro h4 h5
    obtain ⟨h6, h7, h8⟩ := ih1 h4 h5
    obtain ⟨h9, h10, h11⟩ := ih2 (by omega) h7
    refine ⟨by omega, h10, ?_⟩
    have e : (toks.drop i.toNat).take (j - i).toNat = (toks.drop i.toNat).take (m - i).toNat ++ (toks.drop m.toNat).take (j - m).toNat := by
      have e1 : (j - i).toNat = (m - i).toNat + (j - m).toNat := by omega
      have e2 : toks.drop m.toNat = (toks.drop i.toNat).drop (m - i).toNat := by rw [List.drop_drop]; congr 1; omega
      rw [e1, e2, List.take_add]
    rw [e]
    exact .rule h1 h2 h3 h8 h11
/-- all the tokens -/
theorem gen_iff {c : Cfg} {toks s : List Int} : Gen c s toks ↔ Dp c toks s 0 toks.length := by
  constructor
  · intro h; have := h.dp [] []; simpa using this
  · intro h; obtain ⟨_, _, h3⟩ := h.gen (Int.le_refl _) (by omega); simpa using h3

/-- what is known is so -/
def Sound (c : Cfg) (toks : List Int) (σ : St) : Prop := ∀ p ∈ σ.W, ∀ j ∈ σ.S p, ∃ al a, c.alts[p.1.toNat]? = some al ∧ a ∈ al ∧ Dp c toks a p.2 j
theorem thr_sound {c : Cfg} {toks : List Int} {σ : St} (h : Sound c toks σ) (seq : List Int) (X : Int → Prop) : ∀ j, thr c toks σ seq X j → ∃ i, X i ∧ Dp c toks seq i j := by
  induction seq generalizing X with
  | nil => intro j hj; exact ⟨j, hj, .nil j⟩
  | cons k s ih =>
    intro j hj
    obtain ⟨m, ⟨i, hi, ho⟩, hd⟩ := ih (stepP c toks σ k X) j hj
    refine ⟨i, hi, ?_⟩
    rcases ho with ⟨h1, h2, h3, rfl⟩ | ⟨h1, h2, h3, h4⟩
    · exact .tok h1 h2 h3 hd
    · obtain ⟨al, a, h5, h6, h7⟩ := h _ h3 _ h4
      exact .rule h1 h5 h6 h7 hd
theorem askd_cons {c : Cfg} {toks : List Int} {σ : St} {k : Int} {s : List Int} {X : Int → Prop} {q : Pl} (h : askd c toks σ s (stepP c toks σ k X) q) : askd c toks σ (k :: s) X q := by
  obtain ⟨n, k', i, h1, h2, h3, h4, h5⟩ := h
  exact ⟨n + 1, k', i, by simpa using h1, h2, h3, by simpa [thr] using h4, h5⟩
/-- nothing more is to be found -/
structure Closed (c : Cfg) (toks : List Int) (σ : St) : Prop where
  ends : ∀ p ∈ σ.W, ∀ al a, c.alts[p.1.toNat]? = some al → a ∈ al → ∀ j, thr c toks σ a (· = p.2) j → j ∈ σ.S p
  asks : ∀ p ∈ σ.W, ∀ al a, c.alts[p.1.toNat]? = some al → a ∈ al → ∀ q, askd c toks σ a (· = p.2) q → q ∈ σ.W
theorem thr_complete {c : Cfg} {toks : List Int} {σ : St} (h : Closed c toks σ) {s : List Int} {i j : Int} (hd : Dp c toks s i j) : ∀ X : Int → Prop, X i → (∀ q, askd c toks σ s X q → q ∈ σ.W) → thr c toks σ s X j := by
  induction hd with
  | nil i => intro X hX _; exact hX
  | @tok k s i j h1 h2 h3 _ ih =>
    intro X hX ha
    exact ih (stepP c toks σ k X) ⟨i, hX, .inl ⟨h1, h2, h3, rfl⟩⟩ fun q hq => ha q (askd_cons hq)
  | @rule k s a i m j al h1 h2 h3 _ _ ih1 ih2 =>
    intro X hX ha
    have hlt := (List.getElem?_eq_some_iff.1 h2).1
    have hW : ((-1 - k, i) : Pl) ∈ σ.W := ha _ ⟨0, k, i, rfl, h1, by omega, hX, rfl⟩
    have hm := h.ends _ hW al a h2 h3 m (ih1 (· = i) rfl fun q hq => h.asks _ hW al a h2 h3 q hq)
    exact ih2 (stepP c toks σ k X) ⟨i, hX, .inr ⟨h1, by omega, hW, hm⟩⟩ fun q hq => ha q (askd_cons hq)
end Go.Proofs.Ytgjobbapnileiaa
set_option linter.unusedVariables false
set_option linter.unusedSimpArgs false
namespace Go.Proofs.Ytgjobbapnileiaa
open Go.RowKit Gk

def cmpI (a b : Int) : Int := if a < b then -1 else if b < a then 1 else 0
def cmpL : List Int → List Int → Int
  | [], [] => 0
  | [], _ :: _ => -1
  | _ :: _, [] => 1
  | x :: xs, y :: ys => if x < y then -1 else if y < x then 1 else cmpL xs ys
def ordP (a b : List Int) : Int := if a.length < b.length then -1 else if b.length < a.length then 1 else cmpL a b
def lessP (a b : List Int) : Bool := decide (ordP a b < 0)
theorem cmpL_self : ∀ a : List Int, cmpL a a = 0
  | [] => rfl
  | x :: xs => by simp [cmpL, cmpL_self xs]
theorem cmpL_zero : ∀ {a b : List Int}, cmpL a b = 0 → a = b
  | [], [], _ => rfl
  | [], _ :: _, h => by simp [cmpL] at h
  | _ :: _, [], h => by simp [cmpL] at h
  | x :: xs, y :: ys, h => by
    unfold cmpL at h
    split at h
    · simp at h
    · split at h
      · simp at h
      · rw [cmpL_zero h, show x = y by omega]
theorem cmpL_anti : ∀ a b : List Int, cmpL b a = - cmpL a b
  | [], [] => rfl
  | [], _ :: _ => rfl
  | _ :: _, [] => rfl
  | x :: xs, y :: ys => by
    unfold cmpL
    by_cases h1 : x < y
    · rw [if_pos h1, if_neg (by omega), if_pos h1]; rfl
    · by_cases h2 : y < x
      · simp [h1, h2]
      · rw [if_neg h1, if_neg h2, if_neg h2, if_neg h1, cmpL_anti xs ys]
theorem cmpL_trans : ∀ {a b c : List Int}, cmpL a b < 0 → cmpL b c < 0 → cmpL a c < 0
  | [], [], c, h, _ => by simp [cmpL] at h
  | [], y :: ys, [], _, h => by simp [cmpL] at h
  | [], y :: ys, z :: zs, _, _ => by simp [cmpL]
  | x :: xs, [], c, h, _ => by simp [cmpL] at h
  | x :: xs, y :: ys, [], _, h => by simp [cmpL] at h
  | x :: xs, y :: ys, z :: zs, h, k => by
    unfold cmpL at h k ⊢
    by_cases h1 : x < y
    · by_cases h2 : z < y
      · rw [if_neg (by omega), if_pos h2] at k; omega
      · rw [if_pos (by omega)]; omega
    · by_cases h2 : y < x
      · rw [if_neg h1, if_pos h2] at h; omega
      · rw [if_neg h1, if_neg h2] at h
        obtain rfl : x = y := by omega
        by_cases h3 : x < z
        · rw [if_pos h3]; omega
        · by_cases h4 : z < x
          · rw [if_neg h3, if_pos h4] at k; omega
          · rw [if_neg h3, if_neg h4] at k ⊢
            exact cmpL_trans h k
theorem ordP_zero {a b : List Int} : ordP a b = 0 ↔ a = b := by
  unfold ordP
  constructor
  · intro h
    split at h
    · simp at h
    · split at h
      · simp at h
      · exact cmpL_zero h
  · rintro rfl; simp [cmpL_self]
theorem ordP_anti (a b : List Int) : ordP b a = - ordP a b := by
  unfold ordP
  by_cases h1 : a.length < b.length
  · rw [if_pos h1, if_neg (by omega), if_pos h1]; rfl
  · by_cases h2 : b.length < a.length
    · simp [h1, h2]
    · rw [if_neg h1, if_neg h2, if_neg h2, if_neg h1, cmpL_anti]
theorem ordP_trans {a b c : List Int} (h : ordP a b < 0) (k : ordP b c < 0) : ordP a c < 0 := by
  unfold ordP at h k ⊢
  by_cases h1 : a.length < b.length
  · by_cases h2 : c.length < b.length
    · rw [if_neg (by omega), if_pos h2] at k; omega
    · rw [if_pos (by omega)]; omega
  · by_cases h2 : b.length < a.length
    · rw [if_neg h1, if_pos h2] at h; omega
    · rw [if_neg h1, if_neg h2] at h
      by_cases h3 : b.length < c.length
      · rw [if_pos (by omega)]; omega
      · by_cases h4 : c.length < b.length
        · rw [if_neg h3, if_pos h4] at k; omega
        · rw [if_neg h3, if_neg h4] at k
          rw [if_neg (by omega), if_neg (by omega)]
          exact cmpL_trans h k
theorem lessP_irr (a : List Int) : lessP a a = false := by simp [lessP, ordP_zero.2 rfl]
theorem lessP_trans {a b c : List Int} (h : lessP a b = true) (k : lessP b c = true) : lessP a c = true := by
  simp only [lessP, decide_eq_true_eq] at h k ⊢; exact ordP_trans h k
theorem lessP_tri (a b : List Int) : lessP a b = true ∨ a = b ∨ lessP b a = true := by
  simp only [lessP, decide_eq_true_eq]
  have := ordP_anti a b
  by_cases h : ordP a b = 0
  · exact .inr (.inl (ordP_zero.1 h))
  · omega
theorem lessP_len {a b : List Int} (h : lessP a b = true) : a.length ≤ b.length := by
  simp only [lessP, decide_eq_true_eq] at h
  unfold ordP at h
  split at h
  · omega
  · split at h <;> omega
/-- in order, each once -/
abbrev Srt (l : List (List Int)) : Prop := l.Pairwise (fun a b => lessP a b = true)
theorem of_takeWhile {α : Type} {p : α → Bool} : ∀ {l : List α} {y : α}, y ∈ l.takeWhile p → p y = true
  | [], _, h => by simp at h
  | a :: l, y, h => by
    rw [List.takeWhile_cons] at h
    split at h
    · rcases List.mem_cons.1 h with rfl | h
      · assumption
      · exact of_takeWhile h
    · simp at h
/-- how many are ahead of one -/
def posP (l : List (List Int)) (x : List Int) : Nat := (l.takeWhile (fun y => lessP y x)).length
/-- with one, in order -/
def insS (l : List (List Int)) (x : List Int) : List (List Int) := if x ∈ l then l else l.takeWhile (fun y => lessP y x) ++ x :: l.dropWhile (fun y => lessP y x)
theorem mem_insS {l : List (List Int)} {x y : List Int} : y ∈ insS l x ↔ y ∈ l ∨ y = x := by
  unfold insS
  split
  · constructor
    · exact .inl
    · rintro (h | rfl) <;> assumption
  · have h : y ∈ l ↔ y ∈ l.takeWhile (fun y => lessP y x) ∨ y ∈ l.dropWhile (fun y => lessP y x) := by
      rw [← List.mem_append, List.takeWhile_append_dropWhile]
    rw [h]
    simp only [List.mem_append, List.mem_cons]
    constructor
    · rintro (h | rfl | h)
      · exact .inl (.inl h)
      · exact .inr rfl
      · exact .inl (.inr h)
    · rintro ((h | h) | rfl)
      · exact .inl h
      · exact .inr (.inr h)
      · exact .inr (.inl rfl)
theorem length_insS {l : List (List Int)} {x : List Int} : (insS l x).length = if x ∈ l then l.length else l.length + 1 := by
  unfold insS
  split
  · rfl
  · have h : l.length = (l.takeWhile (fun y => lessP y x)).length + (l.dropWhile (fun y => lessP y x)).length := by
      rw [← List.length_append, List.takeWhile_append_dropWhile]
    simp only [List.length_append, List.length_cons]; omega
theorem insS_ge {l : List (List Int)} {x : List Int} : l.length ≤ (insS l x).length ∧ (insS l x).length ≤ l.length + 1 := by
  rw [length_insS]; split <;> omega
theorem posP_le (l : List (List Int)) (x : List Int) : posP l x ≤ l.length := (List.takeWhile_sublist _).length_le
theorem takeWhile_pos (l : List (List Int)) (x : List Int) : l.takeWhile (fun y => lessP y x) = l.take (posP l x) := by
  have h := congrArg (List.take (posP l x)) (List.takeWhile_append_dropWhile (p := fun y => lessP y x) (l := l))
  rw [← h]; exact List.take_left.symm
theorem dropWhile_pos (l : List (List Int)) (x : List Int) : l.dropWhile (fun y => lessP y x) = l.drop (posP l x) := by
  have h := congrArg (List.drop (posP l x)) (List.takeWhile_append_dropWhile (p := fun y => lessP y x) (l := l))
  rw [← h]; exact List.drop_left.symm
theorem insS_new {l : List (List Int)} {x : List Int} (h : x ∉ l) : insS l x = l.take (posP l x) ++ x :: l.drop (posP l x) := by
  unfold insS; rw [if_neg h, takeWhile_pos, dropWhile_pos]
theorem insS_old {l : List (List Int)} {x : List Int} (h : x ∈ l) : insS l x = l := by unfold insS; rw [if_pos h]
theorem less_before {l : List (List Int)} {x : List Int} {i : Nat} {y : List Int} (hi : i < posP l x) (hy : l[i]? = some y) : lessP y x = true := by
  have h : (l.take (posP l x))[i]? = some y := by rw [List.getElem?_take, if_pos hi]; exact hy
  rw [← takeWhile_pos] at h
  exact of_takeWhile (p := fun y => lessP y x) (List.mem_of_getElem? h)
theorem notless_at {l : List (List Int)} {x y : List Int} (hy : l[posP l x]? = some y) : lessP y x = false := by
  have h : (l.drop (posP l x))[0]? = some y := by rw [List.getElem?_drop]; exact hy
  rw [← dropWhile_pos] at h
  cases hd : l.dropWhile (fun y => lessP y x) with
  | nil => rw [hd] at h; simp at h
  | cons a t =>
    rw [hd] at h; simp at h; subst h
    have := List.head_dropWhile_not (fun y => lessP y x) (l := l) (by rw [hd]; simp)
    simp only [hd, List.head_cons] at this
    simpa using this
theorem srt_at {l : List (List Int)} (h : Srt l) {i j : Nat} {a b : List Int} (hij : i < j) (ha : l[i]? = some a) (hb : l[j]? = some b) : lessP a b = true := by
  obtain ⟨h1, e1⟩ := List.getElem?_eq_some_iff.1 ha
  obtain ⟨h2, e2⟩ := List.getElem?_eq_some_iff.1 hb
  subst e1 e2
  exact (List.pairwise_iff_getElem.1 h) i j h1 h2 hij
/-- from the place on nothing is ahead -/
theorem notless_from {l : List (List Int)} (h : Srt l) {x y : List Int} {i : Nat} (hi : posP l x ≤ i) (hy : l[i]? = some y) : lessP y x = false := by
  have hlt := (List.getElem?_eq_some_iff.1 hy).1
  have hp : posP l x < l.length := by omega
  have h0 := notless_at (l := l) (x := x) (List.getElem?_eq_getElem hp)
  rcases Nat.lt_or_eq_of_le hi with h1 | h1
  · have h2 := srt_at h h1 (List.getElem?_eq_getElem hp) hy
    cases h3 : lessP y x with
    | false => rfl
    | true => rw [lessP_trans h2 h3] at h0; cases h0
  · subst h1
    rw [List.getElem?_eq_getElem hp] at hy; injection hy with hy; rw [← hy]; exact h0
theorem pos_eq {l : List (List Int)} (h : Srt l) {x : List Int} {i : Nat} (hi : i ≤ l.length) (h1 : ∀ j y, j < i → l[j]? = some y → lessP y x = true) (h2 : ∀ j y, i ≤ j → l[j]? = some y → lessP y x = false) : posP l x = i := by
  have hp := posP_le l x
  rcases Nat.lt_trichotomy (posP l x) i with h3 | h3 | h3
  · have := h1 _ _ h3 (List.getElem?_eq_getElem (by omega))
    have h4 := notless_from h (Nat.le_refl _) (List.getElem?_eq_getElem (by omega : posP l x < l.length))
    rw [this] at h4; cases h4
  · exact h3
  · have := h2 _ _ (Nat.le_refl _) (List.getElem?_eq_getElem (by omega : i < l.length))
    have h4 := less_before h3 (List.getElem?_eq_getElem (by omega : i < l.length))
    rw [this] at h4; cases h4
theorem mem_at {l : List (List Int)} (h : Srt l) {x : List Int} : x ∈ l ↔ l[posP l x]? = some x := by
  constructor
  · intro hm
    obtain ⟨i, hi, e⟩ := List.mem_iff_getElem.1 hm
    have : posP l x = i := pos_eq h (by omega) (fun j y hj hy => by
      have := srt_at h hj hy (List.getElem?_eq_getElem hi); rwa [e] at this) (fun j y hj hy => by
      rcases Nat.lt_or_eq_of_le hj with h1 | h1
      · have := srt_at h h1 (List.getElem?_eq_getElem hi) hy
        rw [e] at this
        cases h3 : lessP y x with
        | false => rfl
        | true => have := lessP_trans this h3; rw [lessP_irr] at this; cases this
      · subst h1; rw [List.getElem?_eq_getElem hi, e] at hy; injection hy with hy; rw [← hy]; exact lessP_irr _)
    rw [this, List.getElem?_eq_getElem hi, e]
  · intro h1; exact List.mem_of_getElem? h1
theorem srt_insS {l : List (List Int)} (h : Srt l) (x : List Int) : Srt (insS l x) := by
  by_cases hm : x ∈ l
  · rw [insS_old hm]; exact h
  · rw [insS_new hm]
    have ht : Srt (l.take (posP l x)) := h.sublist (List.take_sublist _ _)
    have hd : Srt (l.drop (posP l x)) := h.sublist (List.drop_sublist _ _)
    have hx : ∀ y ∈ l.drop (posP l x), lessP x y = true := fun y hy => by
      obtain ⟨i, hi⟩ := List.mem_iff_getElem?.1 hy
      rw [List.getElem?_drop] at hi
      have h1 := notless_from h (x := x) (Nat.le_add_right _ _) hi
      rcases lessP_tri x y with h2 | h2 | h2
      · exact h2
      · subst h2; exact absurd (List.mem_of_getElem? hi) hm
      · rw [h1] at h2; cases h2
    have hb : ∀ y ∈ l.take (posP l x), lessP y x = true := fun y hy => by
      obtain ⟨i, hi⟩ := List.mem_iff_getElem?.1 hy
      rw [List.getElem?_take] at hi
      split at hi
      · rename_i h1; exact less_before h1 hi
      · cases hi
    refine List.pairwise_append.2 ⟨ht, List.pairwise_cons.2 ⟨hx, hd⟩, fun a ha b hb' => ?_⟩
    rcases List.mem_cons.1 hb' with rfl | hb'
    · exact hb a ha
    · exact lessP_trans (hb a ha) (hx b hb')
end Go.Proofs.Ytgjobbapnileiaa
set_option linter.unusedVariables false
set_option linter.unusedSimpArgs false
namespace Go.Proofs.Ytgjobbapnileiaa
open Go.RowKit Gk

abbrev Sents := List (List Int)
/-- how much a number adds, as the program reckons -/
def morP (short : List Int) (k : Int) : Int := if k < 0 then match short[(-1 - k).toNat]? with | some s => min s 100 | none => 1 else 1
def leastP (short : List Int) (s : List Int) : Int := s.foldl (fun n k => min (n + morP short k) 100) 0
theorem leastP_snoc (short s : List Int) (k : Int) : leastP short (s ++ [k]) = min (leastP short s + morP short k) 100 := by simp [leastP, List.foldl_append]
theorem morP_nn {short : List Int} (h : ∀ s ∈ short, 0 ≤ s) (k : Int) : 0 ≤ morP short k ∧ morP short k ≤ 100 := by
  unfold morP
  split
  · split
    · rename_i s hs; have := h s (List.mem_of_getElem? hs); omega
    · omega
  · omega
theorem leastP_nn {short : List Int} (h : ∀ s ∈ short, 0 ≤ s) (s : List Int) : 0 ≤ leastP short s ∧ leastP short s ≤ 100 := by
  have : ∀ (s : List Int) (n : Int), 0 ≤ n ∧ n ≤ 100 → 0 ≤ s.foldl (fun n k => min (n + morP short k) 100) n ∧ s.foldl (fun n k => min (n + morP short k) 100) n ≤ 100 := by
    intro s
    induction s with
    | nil => intro n hn; exact hn
    | cons k s ih => intro n hn; have := morP_nn h k; exact ih (min (n + morP short k) 100) (by omega)
  exact this s 0 (by omega)
/-- the sentences of one number -/
def partsP (rules : List Sents) (k : Int) : Sents := if 0 ≤ k then [[k]] else (rules[(-1 - k).toNat]?).getD []
def stepY (rest long : Int) (x : List Int) (parts next : Sents) : Sents := parts.foldl (fun nx y => if (x.length : Int) + y.length + rest ≤ long then insS nx (x ++ y) else nx) next
def stepX (rest long : Int) (parts : Sents) : Sents → Sents → Option Sents
  | [], next => some next
  | x :: xs, next => if 3600 < (stepY rest long x parts next).length then none else stepX rest long parts xs (stepY rest long x parts next)
def madeS (restF : List Int → Int) (rules : List Sents) (long : Int) : List Int → Sents → Option Sents
  | [], out => some out
  | k :: s, out => match stepX (restF s) long (partsP rules k) out [] with | none => none | some nx => madeS restF rules long s nx
theorem stepY_cons (rest long : Int) (x y : List Int) (parts next : Sents) : stepY rest long x (y :: parts) next = stepY rest long x parts (if (x.length : Int) + y.length + rest ≤ long then insS next (x ++ y) else next) := rfl
/-- what holds of what is made -/
def Shrt (long : Int) (l : Sents) : Prop := ∀ x ∈ l, (x.length : Int) ≤ long
theorem stepY_ok {rest long : Int} (hr : 0 ≤ rest) {x : List Int} : ∀ (parts next : Sents), Srt next → Shrt long next → Srt (stepY rest long x parts next) ∧ Shrt long (stepY rest long x parts next) ∧ (stepY rest long x parts next).length ≤ next.length + parts.length ∧ next.length ≤ (stepY rest long x parts next).length := by
  intro parts
  induction parts with
  | nil => intro next h1 h2; exact ⟨h1, h2, by simp [stepY], by simp [stepY]⟩
  | cons y parts ih =>
    intro next h1 h2
    rw [stepY_cons]
    split
    · rename_i hl
      obtain ⟨h3, h4, h5, h6⟩ := ih (insS next (x ++ y)) (srt_insS h1 _) (fun z hz => by
        rcases mem_insS.1 hz with hz | rfl
        · exact h2 z hz
        · simp only [List.length_append]; omega)
      have := insS_ge (l := next) (x := x ++ y)
      exact ⟨h3, h4, by simp only [List.length_cons]; omega, by omega⟩
    · obtain ⟨h3, h4, h5, h6⟩ := ih next h1 h2
      exact ⟨h3, h4, by simp only [List.length_cons]; omega, h6⟩
theorem stepX_ok {rest long : Int} (hr : 0 ≤ rest) {parts : Sents} : ∀ (xs next : Sents) {out : Sents}, stepX rest long parts xs next = some out → Srt next → Shrt long next → next.length ≤ 3600 → Srt out ∧ Shrt long out ∧ out.length ≤ 3600 := by
  intro xs
  induction xs with
  | nil => intro next out h h1 h2 h3; simp only [stepX, Option.some.injEq] at h; subst h; exact ⟨h1, h2, h3⟩
  | cons x xs ih =>
    intro next out h h1 h2 h3
    unfold stepX at h
    split at h
    · cases h
    · obtain ⟨h4, h5, _, _⟩ := stepY_ok hr (x := x) parts next h1 h2
      exact ih _ h h4 h5 (by omega)
theorem madeS_ok {restF : List Int → Int} (hr : ∀ s, 0 ≤ restF s) {rules : List Sents} {long : Int} (hl : 0 ≤ long) : ∀ (s : List Int) (out : Sents) {res : Sents}, madeS restF rules long s out = some res → Srt out → Shrt long out → out.length ≤ 3600 → Srt res ∧ Shrt long res ∧ res.length ≤ 3600 := by
  intro s
  induction s with
  | nil => intro out res h h1 h2 h3; simp only [madeS, Option.some.injEq] at h; subst h; exact ⟨h1, h2, h3⟩
  | cons k s ih =>
    intro out res h h1 h2 h3
    unfold madeS at h
    split at h
    · cases h
    · rename_i nx hx
      obtain ⟨h4, h5, h6⟩ := stepX_ok (hr s) _ _ hx List.Pairwise.nil (by intro z hz; simp at hz) (by simp)
      exact ih nx h h4 h5 h6
/-- one alternative of one rule; none: they are too many -/
def altS (madeF : List Sents → List Int → Option Sents) (S : List Sents × Bool) (s : Nat) (a : List Int) : Option (List Sents × Bool) :=
  match madeF S.1 a with
  | none => none
  | some l => if l.length ≤ 400 ∧ (l.foldl insS (S.1.getD s [])).length ≤ 400 then some (S.1.set s (l.foldl insS (S.1.getD s [])), S.2 || decide ((S.1.getD s []).length < (l.foldl insS (S.1.getD s [])).length)) else none
def ruleS (madeF : List Sents → List Int → Option Sents) (s : Nat) : List (List Int) → List Sents × Bool → Option (List Sents × Bool)
  | [], S => some S
  | a :: al, S => match altS madeF S s a with | none => none | some S' => ruleS madeF s al S'
def roundS (madeF : List Sents → List Int → Option Sents) : Nat → List (List (List Int)) → List Sents × Bool → Option (List Sents × Bool)
  | _, [], S => some S
  | s, al :: als, S => match ruleS madeF s al S with | none => none | some S' => roundS madeF (s + 1) als S'
def loopS (madeF : List Sents → List Int → Option Sents) (alts : List (List (List Int))) : Nat → List Sents → Option (Option (List Sents))
  | 0, _ => none
  | n + 1, R => match roundS madeF 0 alts (R, false) with
    | none => some none
    | some (R', true) => loopS madeF alts n R'
    | some (R', false) => some (some R')
theorem loopS_more {madeF : List Sents → List Int → Option Sents} {alts : List (List (List Int))} : ∀ (n m : Nat) (R : List Sents) {r : Option (List Sents)}, loopS madeF alts n R = some r → n ≤ m → loopS madeF alts m R = some r := by
  intro n
  induction n with
  | zero => intro m R r h; simp [loopS] at h
  | succ n ih =>
    intro m R r h hm
    obtain ⟨m, rfl⟩ : ∃ k, m = k + 1 := ⟨m - 1, by omega⟩
    unfold loopS at h ⊢
    split at h
    · exact h
    · exact ih m _ h (by omega)
    · exact h
theorem loopS_one {madeF : List Sents → List Int → Option Sents} {alts : List (List (List Int))} {n m : Nat} {R : List Sents} {r r' : Option (List Sents)} (h : loopS madeF alts n R = some r) (h' : loopS madeF alts m R = some r') : r = r' := by
  have h1 := loopS_more n (n + m) R h (by omega)
  have h2 := loopS_more m (n + m) R h' (by omega)
  rw [h1] at h2; injection h2
/-- how many are known -/
def total (R : List Sents) : Nat := (R.map List.length).sum
theorem total_set : ∀ (R : List Sents) (s : Nat) (l : Sents), s < R.length → total (R.set s l) + (R.getD s []).length = total R + l.length := by
  intro R
  induction R with
  | nil => intro s l h; simp at h
  | cons a R ih =>
    intro s l h
    cases s with
    | zero => simp [total]; omega
    | succ s =>
      have := ih s l (by simpa using h)
      simp only [total, List.set_cons_succ, List.map_cons, List.sum_cons, List.getD_cons_succ] at this ⊢
      omega
theorem foldl_ins : ∀ (l : Sents) (R : Sents), R.length ≤ (l.foldl insS R).length ∧ (l.foldl insS R).length ≤ R.length + l.length := by
  intro l
  induction l with
  | nil => intro R; simp
  | cons x l ih =>
    intro R
    have := insS_ge (l := R) (x := x)
    have h := ih (insS R x)
    simp only [List.foldl_cons, List.length_cons]; omega
theorem foldl_srt : ∀ (l R : Sents), Srt R → Srt (l.foldl insS R) := by
  intro l
  induction l with
  | nil => intro R h; exact h
  | cons x l ih => intro R h; exact ih _ (srt_insS h x)
theorem foldl_mem : ∀ (l R : Sents) (y : List Int), y ∈ l.foldl insS R ↔ y ∈ R ∨ y ∈ l := by
  intro l
  induction l with
  | nil => intro R y; simp
  | cons x l ih => intro R y; rw [List.foldl_cons, ih, mem_insS, List.mem_cons, or_assoc]
/-- what holds of all that is known, in a round -/
structure SOk (long : Int) (n : Nat) (R : List Sents) : Prop where
  len : R.length = n
  srt : ∀ l ∈ R, Srt l
  shrt : ∀ l ∈ R, Shrt long l
  few : ∀ l ∈ R, l.length ≤ 400
theorem getD_mem {R : List Sents} {s : Nat} (h : s < R.length) : R.getD s [] ∈ R := by
  rw [List.getD_eq_getElem?_getD, List.getElem?_eq_getElem h]; exact List.getElem_mem h
theorem mem_set_or {α : Type} {l : List α} {i : Nat} {a b : α} (h : b ∈ l.set i a) : b ∈ l ∨ b = a := List.mem_or_eq_of_mem_set h
structure StepOk (R : List Sents) (b : Bool) (R' : List Sents) (b' : Bool) : Prop where
  le : total R ≤ total R'
  lt : b' = true → b = true ∨ total R < total R'
theorem StepOk.trans {R R' R'' : List Sents} {b b' b'' : Bool} (h : StepOk R b R' b') (k : StepOk R' b' R'' b'') : StepOk R b R'' b'' := by
  refine ⟨Nat.le_trans h.le k.le, fun e => ?_⟩
  have h1 := h.le
  have h2 := k.le
  rcases k.lt e with h3 | h3
  · rcases h.lt h3 with h4 | h4
    · exact .inl h4
    · exact .inr (by omega)
  · exact .inr (by omega)
theorem altS_ok {madeF : List Sents → List Int → Option Sents} {long : Int} {n : Nat} (hm : ∀ R a l, SOk long n R → madeF R a = some l → Shrt long l) {S S' : List Sents × Bool} {s : Nat} {a : List Int} (h : altS madeF S s a = some S') (hs : s < n) (hS : SOk long n S.1) : SOk long n S'.1 ∧ StepOk S.1 S.2 S'.1 S'.2 := by
  unfold altS at h
  split at h
  · cases h
  · rename_i l hl
    split at h
    · rename_i hc
      injection h with h
      subst h
      have hln := hS.len
      have hmem := getD_mem (R := S.1) (s := s) (by omega)
      have hf := foldl_ins l (S.1.getD s [])
      refine ⟨⟨by simpa using hln, fun x hx => ?_, fun x hx => ?_, fun x hx => ?_⟩, ?_⟩
      · rcases mem_set_or hx with hx | rfl
        · exact hS.srt x hx
        · exact foldl_srt _ _ (hS.srt _ hmem)
      · rcases mem_set_or hx with hx | rfl
        · exact hS.shrt x hx
        · intro y hy
          rcases (foldl_mem _ _ _).1 hy with hy | hy
          · exact hS.shrt _ hmem y hy
          · exact hm _ _ _ hS hl y hy
      · rcases mem_set_or hx with hx | rfl
        · exact hS.few x hx
        · exact hc.2
      · have ht := total_set S.1 s (l.foldl insS (S.1.getD s [])) (by omega)
        refine ⟨by show total S.1 ≤ total (S.1.set s _); omega, fun e => ?_⟩
        simp only [Bool.or_eq_true, decide_eq_true_eq] at e
        rcases e with e | e
        · exact .inl e
        · exact .inr (by show total S.1 < total (S.1.set s _); omega)
    · cases h
theorem total_le {long : Int} {n : Nat} {R : List Sents} (h : SOk long n R) : total R ≤ n * 400 := by
  have : ∀ R : List Sents, (∀ l ∈ R, l.length ≤ 400) → total R ≤ R.length * 400 := by
    intro R
    induction R with
    | nil => intro _; simp [total]
    | cons a R ih =>
      intro h
      have h1 := h a (by simp)
      have h2 := ih fun l hl => h l (by simp [hl])
      simp only [total, List.map_cons, List.sum_cons, List.length_cons] at h2 ⊢
      omega
  have := this R h.few
  rw [h.len] at this; exact this
/-- the same run, whatever reckons the rests -/
theorem stepY_eq {r r' long : Int} (hl : long ≤ 8) (h : r = r' ∨ (8 < r ∧ 8 < r')) (x : List Int) (parts next : Sents) : stepY r long x parts next = stepY r' long x parts next := by
  rcases h with rfl | ⟨h1, h2⟩
  · rfl
  · induction parts generalizing next with
    | nil => rfl
    | cons y parts ih => rw [stepY_cons, stepY_cons, if_neg (by omega), if_neg (by omega)]; exact ih next
theorem stepX_eq {r r' long : Int} (hl : long ≤ 8) (h : r = r' ∨ (8 < r ∧ 8 < r')) (parts : Sents) : ∀ xs next : Sents, stepX r long parts xs next = stepX r' long parts xs next := by
  intro xs
  induction xs with
  | nil => intro next; rfl
  | cons x xs ih => intro next; unfold stepX; rw [stepY_eq hl h x parts next, ih]
theorem madeS_eq {f g : List Int → Int} {long : Int} (hl : long ≤ 8) {rules : List Sents} : ∀ (s : List Int) (out : Sents), (∀ t, t.length ≤ s.length → (∀ k ∈ t, k ∈ s) → f t = g t ∨ (8 < f t ∧ 8 < g t)) → madeS f rules long s out = madeS g rules long s out := by
  intro s
  induction s with
  | nil => intro out _; rfl
  | cons k s ih =>
    intro out h
    unfold madeS
    rw [stepX_eq hl (h s (by simp) (fun k hk => by simp [hk])) (partsP rules k) out []]
    split
    · rfl
    · exact ih _ fun t ht hk => h t (by simp; omega) (fun k hk' => by simp [hk k hk'])
end Go.Proofs.Ytgjobbapnileiaa
