/- through: what it reckons, without a program. -/
import Derived.Test.YtgjobbapnileiaaOf
set_option linter.unusedVariables false
set_option linter.unusedSimpArgs false
namespace Go.Proofs.Ytgjobbapnileiaa
open Go.RowKit Gk

def St.ends (σ : St) (p : Pl) (j : Int) : Prop := p ∈ σ.W ∧ j ∈ σ.S p
/-- where a number leads from a place -/
def one (c : Cfg) (toks : List Int) (σ : St) (k i j : Int) : Prop :=
  (0 ≤ k ∧ 0 ≤ i ∧ toks[i.toNat]? = some k ∧ j = i + 1) ∨ (k < 0 ∧ -1 - k < c.alts.length ∧ σ.ends (-1 - k, i) j)
def stepP (c : Cfg) (toks : List Int) (σ : St) (k : Int) (X : Int → Prop) : Int → Prop := fun j => ∃ i, X i ∧ one c toks σ k i j
def thr (c : Cfg) (toks : List Int) (σ : St) (seq : List Int) (X : Int → Prop) : Int → Prop := seq.foldl (fun X k => stepP c toks σ k X) X
def askd (c : Cfg) (toks : List Int) (σ : St) (seq : List Int) (X : Int → Prop) (p : Pl) : Prop :=
  ∃ (n : Nat) (k i : Int), seq[n]? = some k ∧ k < 0 ∧ -1 - k < c.alts.length ∧ thr c toks σ (seq.take n) X i ∧ p = (-1 - k, i)
/-- more places, of which nothing is known -/
structure Ext0 (σ σ' : St) : Prop where
  pre : ∃ l, σ'.W = σ.W ++ l
  same : ∀ p ∈ σ.W, σ'.S p = σ.S p
  new : ∀ p ∈ σ'.W, p ∉ σ.W → σ'.S p = []
theorem Ext0.refl (σ : St) : Ext0 σ σ := ⟨⟨[], by simp⟩, fun _ _ => rfl, fun p h1 h2 => absurd h1 h2⟩
theorem Ext0.mem {σ σ' : St} (h : Ext0 σ σ') {p : Pl} (hp : p ∈ σ.W) : p ∈ σ'.W := by obtain ⟨l, e⟩ := h.pre; rw [e]; simp [hp]
theorem Ext0.trans {a b c : St} (h : Ext0 a b) (k : Ext0 b c) : Ext0 a c := by
  refine ⟨?_, fun p hp => by rw [k.same p (h.mem hp), h.same p hp], fun p h1 h2 => ?_⟩
  · obtain ⟨l, e⟩ := h.pre; obtain ⟨m, e2⟩ := k.pre; exact ⟨l ++ m, by rw [e2, e, List.append_assoc]⟩
  · by_cases hb : p ∈ b.W
    · rw [k.same p hb]; exact h.new p hb h2
    · exact k.new p h1 hb
theorem Ext0.want (σ : St) (p : Pl) : Ext0 σ (σ.want p) := by
  unfold St.want
  split
  · exact Ext0.refl σ
  · rename_i hp
    refine ⟨⟨[p], rfl⟩, fun q hq => ?_, fun q h1 h2 => ?_⟩
    · have : q ≠ p := fun e => hp (e ▸ hq)
      simp [this]
    · have : q = p := by simpa [h2] using h1
      simp [this]
theorem want_mem (σ : St) (p : Pl) : p ∈ (σ.want p).W := by unfold St.want; split <;> simp_all
theorem want_W {σ : St} {p q : Pl} (h : q ∈ (σ.want p).W) : q ∈ σ.W ∨ q = p := by
  unfold St.want at h; split at h
  · exact .inl h
  · simpa using h
theorem Ext0.ends {σ σ' : St} (h : Ext0 σ σ') (p : Pl) (j : Int) : σ'.ends p j ↔ σ.ends p j := by
  unfold St.ends
  constructor
  · rintro ⟨h1, h2⟩
    by_cases hp : p ∈ σ.W
    · rw [h.same p hp] at h2; exact ⟨hp, h2⟩
    · rw [h.new p h1 hp] at h2; simp at h2
  · rintro ⟨h1, h2⟩; exact ⟨h.mem h1, by rw [h.same p h1]; exact h2⟩
theorem want_S {σ σ0 : St} (h : Ext0 σ0 σ) (p : Pl) (j : Int) : j ∈ (σ.want p).S p ↔ σ0.ends p j := by
  rw [← (h.trans (Ext0.want σ p)).ends p j]
  unfold St.ends
  simp [want_mem]
/-- what is known is in range -/
structure StOk (c : Cfg) (L : Nat) (σ : St) : Prop where
  r : ∀ p ∈ σ.W, 0 ≤ p.1 ∧ p.1 < c.alts.length ∧ 0 ≤ p.2 ∧ p.2 ≤ L
  s : ∀ p ∈ σ.W, ∀ j ∈ σ.S p, 0 ≤ j ∧ j ≤ L
  n : σ.W.Nodup
theorem StOk.want {c : Cfg} {L : Nat} {σ : St} (h : StOk c L σ) {p : Pl} (hp : 0 ≤ p.1 ∧ p.1 < c.alts.length ∧ 0 ≤ p.2 ∧ p.2 ≤ L) : StOk c L (σ.want p) := by
  by_cases hm : p ∈ σ.W
  · have : σ.want p = σ := by unfold St.want; rw [if_pos hm]
    rw [this]; exact h
  · have : σ.want p = ⟨σ.W ++ [p], fun q => if q = p then [] else σ.S q⟩ := by unfold St.want; rw [if_neg hm]
    rw [this]
    refine ⟨fun q hq => ?_, fun q hq j hj => ?_, nodup_snoc h.n hm⟩
    · rcases List.mem_append.1 hq with hq | hq
      · exact h.r q hq
      · simp at hq; subst hq; exact hp
    · rcases List.mem_append.1 hq with hq | hq
      · have : q ≠ p := fun e => hm (e ▸ hq)
        simp [this] at hj; exact h.s q hq j hj
      · simp at hq; subst hq; simp at hj
theorem one_range {c : Cfg} {toks : List Int} {σ : St} (h : StOk c toks.length σ) {k i j : Int} (ho : one c toks σ k i j) : 0 ≤ j ∧ j ≤ toks.length := by
  rcases ho with ⟨_, h2, h3, rfl⟩ | ⟨_, _, h3, h4⟩
  · have := (List.getElem?_eq_some_iff.1 h3).1; omega
  · exact h.s _ h3 _ h4
theorem thr_snoc (c : Cfg) (toks : List Int) (σ : St) (s : List Int) (k : Int) (X : Int → Prop) : thr c toks σ (s ++ [k]) X = stepP c toks σ k (thr c toks σ s X) := by simp [thr, List.foldl_append]
theorem askd_snoc {c : Cfg} {toks : List Int} {σ : St} {s : List Int} {k : Int} {X : Int → Prop} {p : Pl} :
    askd c toks σ (s ++ [k]) X p ↔ askd c toks σ s X p ∨ (k < 0 ∧ -1 - k < c.alts.length ∧ ∃ i, thr c toks σ s X i ∧ p = (-1 - k, i)) := by
  constructor
  · rintro ⟨n, k', i, h1, h2, h3, h4, h5⟩
    by_cases hn : n < s.length
    · rw [List.getElem?_append_left hn] at h1
      rw [List.take_append_of_le_length (by omega)] at h4
      exact .inl ⟨n, k', i, h1, h2, h3, h4, h5⟩
    · have hlt := (List.getElem?_eq_some_iff.1 h1).1
      have : n = s.length := by simp at hlt; omega
      subst this
      simp at h1; subst h1
      rw [List.take_append_of_le_length (by omega), List.take_length] at h4
      exact .inr ⟨h2, h3, i, h4, h5⟩
  · rintro (⟨n, k', i, h1, h2, h3, h4, h5⟩ | ⟨h2, h3, i, h4, h5⟩)
    · have hn := (List.getElem?_eq_some_iff.1 h1).1
      exact ⟨n, k', i, by rw [List.getElem?_append_left hn]; exact h1, h2, h3, by rw [List.take_append_of_le_length (by omega)]; exact h4, h5⟩
    · exact ⟨s.length, k, i, by simp, h2, h3, by rw [List.take_append_of_le_length (by omega), List.take_length]; exact h4, h5⟩
def plAll (n L : Nat) : List Pl := (List.range n).flatMap fun a : Nat => (List.range (L + 1)).map fun b : Nat => ((Int.ofNat a, Int.ofNat b) : Int × Int)
theorem places_le {c : Cfg} {L : Nat} {σ : St} (h : StOk c L σ) : σ.W.length ≤ c.alts.length * (L + 1) := by
  have h1 : σ.W.length ≤ (plAll c.alts.length L).length := by
    refine nodup_le _ _ h.n fun p hp => ?_
    obtain ⟨p1, p2, p3, p4⟩ := h.r p hp
    unfold plAll
    rw [List.mem_flatMap]
    refine ⟨p.1.toNat, List.mem_range.2 (by omega), ?_⟩
    rw [List.mem_map]
    exact ⟨p.2.toNat, List.mem_range.2 (by omega), Prod.ext (Int.toNat_of_nonneg p1) (Int.toNat_of_nonneg p3)⟩
  have h2 := flatMap_le (fun a : Nat => (List.range (L + 1)).map fun b : Nat => ((Int.ofNat a, Int.ofNat b) : Int × Int)) (L + 1) (List.range c.alts.length) (fun x _ => by simp)
  rw [List.length_range] at h2
  exact Nat.le_trans h1 h2
theorem ends_le {L : Nat} {K : List Int} (h : K.Nodup) (hr : ∀ j ∈ K, 0 ≤ j ∧ j ≤ L) : K.length ≤ L + 1 := by
  have h1 : K.length ≤ ((List.range (L + 1)).map fun b : Nat => (b : Int)).length := by
    refine nodup_le _ _ h fun j hj => ?_
    have := hr j hj
    rw [List.mem_map]
    exact ⟨j.toNat, List.mem_range.2 (by omega), by omega⟩
  simpa using h1
end Go.Proofs.Ytgjobbapnileiaa
