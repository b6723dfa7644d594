/- Derives: states that grow. -/
import Derived.Test.YtgjobbapnileiaaDerM
import Derived.Test.YtgjobbapnileiaaThr
set_option linter.unusedVariables false
set_option linter.unusedSimpArgs false
namespace Go.Proofs.Ytgjobbapnileiaa
open Go.RowKit Gk

/-- one more end -/
def St.add (σ : St) (p : Pl) (j : Int) : St := ⟨σ.W, fun q => if q = p then insK j (σ.S p) else σ.S q⟩
/-- nothing is lost -/
structure Grow (σ σ' : St) : Prop where
  W : ∃ l, σ'.W = σ.W ++ l
  S : ∀ p ∈ σ.W, ∃ l, σ'.S p = σ.S p ++ l
theorem Grow.refl (σ : St) : Grow σ σ := ⟨⟨[], by simp⟩, fun p _ => ⟨[], by simp⟩⟩
theorem Grow.mem {σ σ' : St} (h : Grow σ σ') {p : Pl} (hp : p ∈ σ.W) : p ∈ σ'.W := by obtain ⟨l, e⟩ := h.W; rw [e]; simp [hp]
theorem Grow.trans {a b c : St} (h : Grow a b) (k : Grow b c) : Grow a c := by
  refine ⟨?_, fun p hp => ?_⟩
  · obtain ⟨l, e⟩ := h.W; obtain ⟨m, e2⟩ := k.W; exact ⟨l ++ m, by rw [e2, e, List.append_assoc]⟩
  · obtain ⟨l, e⟩ := h.S p hp; obtain ⟨m, e2⟩ := k.S p (h.mem hp); exact ⟨l ++ m, by rw [e2, e, List.append_assoc]⟩
theorem Ext0.grow {σ σ' : St} (h : Ext0 σ σ') : Grow σ σ' := ⟨h.pre, fun p hp => ⟨[], by rw [h.same p hp]; simp⟩⟩
theorem insK_pre (j : Int) (K : List Int) : ∃ l, insK j K = K ++ l := by
  unfold insK; split
  · exact ⟨[], by simp⟩
  · exact ⟨[j], rfl⟩
theorem Grow.add (σ : St) (p : Pl) (j : Int) : Grow σ (σ.add p j) := ⟨⟨[], by simp [St.add]⟩, fun q hq => by
  unfold St.add
  by_cases e : q = p
  · subst e; simpa using insK_pre j (σ.S q)
  · exact ⟨[], by simp [e]⟩⟩
theorem Grow.ends {σ σ' : St} (h : Grow σ σ') {p : Pl} {j : Int} (he : σ.ends p j) : σ'.ends p j := by
  obtain ⟨h1, h2⟩ := he
  obtain ⟨l, e⟩ := h.S p h1
  exact ⟨h.mem h1, by rw [e]; simp [h2]⟩
theorem Grow.one {c : Cfg} {toks : List Int} {σ σ' : St} (h : Grow σ σ') {k i j : Int} (ho : one c toks σ k i j) : one c toks σ' k i j := by
  rcases ho with h1 | ⟨h1, h2, h3⟩
  · exact .inl h1
  · exact .inr ⟨h1, h2, h.ends h3⟩
theorem Grow.thr {c : Cfg} {toks : List Int} {σ σ' : St} (h : Grow σ σ') (s : List Int) : ∀ (X Y : Int → Prop), (∀ j, X j → Y j) → ∀ j, thr c toks σ s X j → Go.Proofs.Ytgjobbapnileiaa.thr c toks σ' s Y j := by
  induction s with
  | nil => intro X Y hXY j hj; exact hXY j hj
  | cons k s ih =>
    intro X Y hXY j hj
    exact ih (stepP c toks σ k X) (stepP c toks σ' k Y) (fun m ⟨i, hi, ho⟩ => ⟨i, hXY i hi, h.one ho⟩) j hj
theorem Grow.askd {c : Cfg} {toks : List Int} {σ σ' : St} (h : Grow σ σ') {s : List Int} {X : Int → Prop} {q : Pl} (ha : askd c toks σ s X q) : Go.Proofs.Ytgjobbapnileiaa.askd c toks σ' s X q := by
  obtain ⟨n, k, i, h1, h2, h3, h4, h5⟩ := ha
  exact ⟨n, k, i, h1, h2, h3, h.thr _ _ _ (fun _ h => h) _ h4, h5⟩
def sumL (f : Pl → Nat) (l : List Pl) : Nat := (l.map f).sum
/-- how much is known -/
def St.count (σ : St) : Nat := σ.W.length + sumL (fun p => (σ.S p).length) σ.W
theorem sumL_le {f g : Pl → Nat} : ∀ l : List Pl, (∀ p ∈ l, f p ≤ g p) → sumL f l ≤ sumL g l := by
  intro l
  induction l with
  | nil => intro _; simp [sumL]
  | cons a l ih =>
    intro h
    have h1 := h a (by simp)
    have h2 := ih fun p hp => h p (by simp [hp])
    simp only [sumL, List.map_cons, List.sum_cons] at h2 ⊢; omega
theorem sumL_eq {f g : Pl → Nat} : ∀ l : List Pl, (∀ p ∈ l, f p ≤ g p) → sumL g l ≤ sumL f l → ∀ p ∈ l, f p = g p := by
  intro l
  induction l with
  | nil => intro _ _ p hp; simp at hp
  | cons a l ih =>
    intro h hs p hp
    have h1 := h a (by simp)
    have h2 := sumL_le l fun p hp => h p (by simp [hp])
    simp only [sumL, List.map_cons, List.sum_cons] at hs h2
    rcases List.mem_cons.1 hp with rfl | hp
    · omega
    · exact ih (fun p hp => h p (by simp [hp])) (by simp only [sumL]; omega) p hp
theorem sumL_append (f : Pl → Nat) (a b : List Pl) : sumL f (a ++ b) = sumL f a + sumL f b := by simp [sumL]
/-- as much as before: the same as before -/
theorem Grow.still {σ σ' : St} (h : Grow σ σ') (hc : σ'.count = σ.count) : σ'.W = σ.W ∧ ∀ p ∈ σ.W, σ'.S p = σ.S p := by
  obtain ⟨l, e⟩ := h.W
  have hle : ∀ p ∈ σ.W, (σ.S p).length ≤ (σ'.S p).length := fun p hp => by obtain ⟨m, e2⟩ := h.S p hp; rw [e2]; simp
  unfold St.count at hc
  rw [e, sumL_append, List.length_append] at hc
  have h1 := sumL_le σ.W hle
  have hl : l = [] := by
    cases l with
    | nil => rfl
    | cons a t => simp only [List.length_cons] at hc; omega
  subst hl
  simp only [List.length_nil, sumL, List.map_nil, List.sum_nil] at hc
  refine ⟨by simpa using e, fun p hp => ?_⟩
  have h2 := sumL_eq σ.W hle (by simp only [sumL] at hc ⊢; omega) p hp
  obtain ⟨m, e2⟩ := h.S p hp
  rw [e2, List.length_append] at h2
  have : m = [] := List.eq_nil_of_length_eq_zero (by omega)
  rw [e2, this]; simp
theorem Grow.count_le {σ σ' : St} (h : Grow σ σ') : σ.count ≤ σ'.count := by
  obtain ⟨l, e⟩ := h.W
  have h1 := sumL_le (f := fun p => (σ.S p).length) (g := fun p => (σ'.S p).length) σ.W fun p hp => by obtain ⟨m, e2⟩ := h.S p hp; simp only [e2, List.length_append]; omega
  unfold St.count
  rw [e, sumL_append, List.length_append]; omega
theorem StOk.add {c : Cfg} {L : Nat} {σ : St} (h : StOk c L σ) {p : Pl} {j : Int} (hj : 0 ≤ j ∧ j ≤ L) : StOk c L (σ.add p j) := by
  refine ⟨h.r, fun q hq i hi => ?_, h.n⟩
  unfold St.add at hi hq
  by_cases e : q = p
  · subst e
    simp only [if_true] at hi
    rcases mem_insK.1 hi with hi | rfl
    · exact h.s q hq i hi
    · exact hj
  · simp only [e, if_false] at hi; exact h.s q hq i hi
theorem Sound.add {c : Cfg} {toks : List Int} {σ : St} (h : Sound c toks σ) {p : Pl} {j : Int} {al : List (List Int)} {a : List Int} (h1 : c.alts[p.1.toNat]? = some al) (h2 : a ∈ al) (h3 : Dp c toks a p.2 j) : Sound c toks (σ.add p j) := by
  intro q hq i hi
  unfold St.add at hi hq
  by_cases e : q = p
  · subst e
    simp only [if_true] at hi
    rcases mem_insK.1 hi with hi | rfl
    · exact h q hq i hi
    · exact ⟨al, a, h1, h2, h3⟩
  · simp only [e, if_false] at hi; exact h q hq i hi
theorem Sound.ext {c : Cfg} {toks : List Int} {σ σ' : St} (h : Sound c toks σ) (k : Ext0 σ σ') : Sound c toks σ' := by
  intro q hq i hi
  by_cases hm : q ∈ σ.W
  · rw [k.same q hm] at hi; exact h q hm i hi
  · rw [k.new q hq hm] at hi; simp at hi
end Go.Proofs.Ytgjobbapnileiaa
