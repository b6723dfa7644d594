/- Nullable: without a program. -/
import Derived.Test.YtgjobbapnileiaaDerM
set_option linter.unusedVariables false
set_option linter.unusedSimpArgs false
namespace Go.Proofs.Ytgjobbapnileiaa
open Go.RowKit Gk

def isN (out : List Bool) (k : Int) : Bool := decide (k < 0) && (out[(-1 - k).toNat]?).getD false
def emptyP (out : List Bool) (a : List Int) : Bool := a.all (isN out)
def NulI (c : Cfg) (out : List Bool) : Prop := out.length = c.alts.length ∧ ∀ r : Nat, out[r]? = some true → ∃ al a, c.alts[r]? = some al ∧ a ∈ al ∧ Gen c a []
def NulC (c : Cfg) (out : List Bool) : Prop := ∀ (r : Nat) al a, c.alts[r]? = some al → a ∈ al → emptyP out a = true → out[r]? = some true
theorem isN_at {out : List Bool} {k : Int} (h : isN out k = true) : k < 0 ∧ out[(-1 - k).toNat]? = some true := by
  unfold isN at h
  rw [Bool.and_eq_true, decide_eq_true_eq] at h
  refine ⟨h.1, ?_⟩
  cases e : out[(-1 - k).toNat]? with
  | none => rw [e] at h; simp at h
  | some b => rw [e] at h; simpa using h.2
theorem empty_sound {c : Cfg} {out : List Bool} (h : NulI c out) : ∀ a : List Int, emptyP out a = true → Gen c a [] := by
  intro a
  induction a with
  | nil => intro _; exact .nil
  | cons k a ih =>
    intro he
    unfold emptyP at he
    rw [List.all_cons, Bool.and_eq_true] at he
    obtain ⟨hk, hr⟩ := isN_at he.1
    obtain ⟨al, a', h1, h2, h3⟩ := h.2 _ hr
    have := Gen.rule hk h1 h2 h3 (ih he.2)
    simpa using this
theorem empty_complete {c : Cfg} {out : List Bool} (h : NulC c out) {s x : List Int} (hg : Gen c s x) : x = [] → emptyP out s = true := by
  induction hg with
  | nil => intro _; rfl
  | tok _ _ _ => intro e; cases e
  | @rule k s x y a al h1 h2 h3 _ _ ih1 ih2 =>
    intro e
    obtain ⟨e1, e2⟩ := List.append_eq_nil_iff.1 e
    have h4 := h _ al a h2 h3 (ih1 e1)
    unfold emptyP
    rw [List.all_cons, Bool.and_eq_true]
    refine ⟨?_, ih2 e2⟩
    unfold isN
    rw [h4]; simp [h1]
theorem nul_iff {c : Cfg} {out : List Bool} (h : NulI c out) (hc : NulC c out) {r : Nat} (hr : r < c.alts.length) : Gen c [-1 - (r : Int)] [] ↔ out[r]? = some true := by
  have hk : (-1 - (-1 - (r : Int))).toNat = r := by omega
  constructor
  · intro hg
    have := empty_complete hc hg rfl
    unfold emptyP at this
    rw [List.all_cons, Bool.and_eq_true] at this
    have := (isN_at this.1).2
    rwa [hk] at this
  · intro ho
    refine empty_sound h _ ?_
    unfold emptyP isN
    rw [List.all_cons, hk, ho]
    simp; omega
def cntT (out : List Bool) : Nat := out.countP id
theorem cnt_le (out : List Bool) : cntT out ≤ out.length := List.countP_le_length
theorem cnt_all {out : List Bool} (h : out.length ≤ cntT out) : ∀ r : Nat, r < out.length → out[r]? = some true := by
  have h2 : cntT out = out.length := Nat.le_antisymm (cnt_le out) h
  have h3 := List.countP_eq_length.1 h2
  intro r hr
  have := h3 out[r] (List.getElem_mem hr)
  rw [List.getElem?_eq_getElem hr]; simpa using this
theorem cnt_set : ∀ (out : List Bool) (r : Nat), out[r]? = some false → cntT (out.set r true) = cntT out + 1 := by
  intro out
  induction out with
  | nil => intro r h; simp at h
  | cons b out ih =>
    intro r h
    cases r with
    | zero => simp at h; subst h; simp [cntT]
    | succ r =>
      have := ih r (by simpa using h)
      unfold cntT at this ⊢
      rw [List.set_cons_succ, List.countP_cons, List.countP_cons, this]; omega
/-- one step -/
def nulStep (out : List Bool) (r : Nat) (a : List Int) : List Bool := out.set r ((out[r]?).getD false || emptyP out a)
theorem nulStep_inv {c : Cfg} {out : List Bool} (h : NulI c out) {r : Nat} {al : List (List Int)} {a : List Int} (hal : c.alts[r]? = some al) (ha : a ∈ al) : NulI c (nulStep out r a) := by
  have hr : r < out.length := by rw [h.1]; exact (List.getElem?_eq_some_iff.1 hal).1
  refine ⟨by unfold nulStep; simpa using h.1, fun r' hr' => ?_⟩
  unfold nulStep at hr'
  by_cases e : r' = r
  · subst e
    rw [List.getElem?_set_self hr] at hr'
    injection hr' with hr'
    rw [Bool.or_eq_true] at hr'
    rcases hr' with h1 | h1
    · rw [List.getElem?_eq_getElem hr] at h1
      exact h.2 r' (by rw [List.getElem?_eq_getElem hr]; simpa using h1)
    · exact ⟨al, a, hal, ha, empty_sound h a h1⟩
  · rw [List.getElem?_set_ne (fun e' => e e'.symm)] at hr'
    exact h.2 r' hr'
/-- a step that finds nothing leaves all, a step that finds something counts -/
theorem nulStep_cases {out : List Bool} {r : Nat} {a : List Int} (hr : r < out.length) : (nulStep out r a = out ∧ (emptyP out a = true → out[r]? = some true)) ∨ cntT (nulStep out r a) = cntT out + 1 := by
  unfold nulStep
  have hg := List.getElem?_eq_getElem hr
  cases hb : out[r] with
  | true =>
    refine .inl ⟨?_, fun _ => by rw [hg, hb]⟩
    rw [hg, hb]
    apply List.ext_getElem?
    intro i
    by_cases e : i = r
    · subst e; rw [List.getElem?_set_self hr, hg, hb]; rfl
    · rw [List.getElem?_set_ne (fun e' => e e'.symm)]
  | false =>
    rw [hg, hb]
    cases he : emptyP out a with
    | true => exact .inr (cnt_set out r (by rw [hg, hb]))
    | false =>
      refine .inl ⟨?_, fun h => by cases h⟩
      apply List.ext_getElem?
      intro i
      by_cases e : i = r
      · subst e; rw [List.getElem?_set_self hr, hg, hb]; rfl
      · rw [List.getElem?_set_ne (fun e' => e e'.symm)]
theorem gen_toks {c : Cfg} : ∀ (s : List Int), (∀ k ∈ s, 0 ≤ k) → ∀ x, Gen c s x ↔ x = s := by
  intro s
  induction s with
  | nil =>
    intro _ x
    constructor
    · intro h; cases h; rfl
    · rintro rfl; exact .nil
  | cons k s ih =>
    intro h x
    have hk := h k (by simp)
    constructor
    · intro hg
      cases hg with
      | tok _ h2 => rw [(ih (fun k hk => h k (by simp [hk])) _).1 h2]
      | rule h1 _ _ _ _ => omega
    · rintro rfl
      exact .tok hk ((ih (fun k hk => h k (by simp [hk])) s).2 rfl)
end Go.Proofs.Ytgjobbapnileiaa
