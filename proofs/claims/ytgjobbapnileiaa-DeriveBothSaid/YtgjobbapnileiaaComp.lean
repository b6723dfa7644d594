/- What Sentences tells is so, and is all: without a program. -/
import Derived.Test.YtgjobbapnileiaaSenM
import Derived.Test.YtgjobbapnileiaaShM
set_option linter.unusedVariables false
set_option linter.unusedSimpArgs false
namespace Go.Proofs.Ytgjobbapnileiaa
open Go.RowKit Gk

theorem stepY_mem {rest long : Int} {x : List Int} : ∀ (parts next : Sents) (z : List Int), z ∈ stepY rest long x parts next → z ∈ next ∨ ∃ y ∈ parts, z = x ++ y := by
  intro parts
  induction parts with
  | nil => intro next z h; exact .inl h
  | cons y parts ih =>
    intro next z h
    rw [stepY_cons] at h
    rcases ih _ z h with h | ⟨y', hy, e⟩
    · split at h
      · rcases mem_insS.1 h with h | h
        · exact .inl h
        · exact .inr ⟨y, by simp, h⟩
      · exact .inl h
    · exact .inr ⟨y', by simp [hy], e⟩
theorem stepY_sub {rest long : Int} {x : List Int} : ∀ (parts next : Sents) (z : List Int), z ∈ next → z ∈ stepY rest long x parts next := by
  intro parts
  induction parts with
  | nil => intro next z h; exact h
  | cons y parts ih =>
    intro next z h
    rw [stepY_cons]
    refine ih _ z ?_
    split
    · exact mem_insS.2 (.inl h)
    · exact h
theorem stepY_has {rest long : Int} {x : List Int} : ∀ (parts next : Sents) (y : List Int), y ∈ parts → (x.length : Int) + y.length + rest ≤ long → x ++ y ∈ stepY rest long x parts next := by
  intro parts
  induction parts with
  | nil => intro next y h; simp at h
  | cons p parts ih =>
    intro next y h hl
    rw [stepY_cons]
    rcases List.mem_cons.1 h with rfl | h
    · rw [if_pos hl]; exact stepY_sub _ _ _ (mem_insS.2 (.inr rfl))
    · exact ih _ y h hl
theorem stepX_mem {rest long : Int} {parts : Sents} : ∀ (xs next : Sents) {out : Sents}, stepX rest long parts xs next = some out → ∀ z ∈ out, z ∈ next ∨ ∃ x ∈ xs, ∃ y ∈ parts, z = x ++ y := by
  intro xs
  induction xs with
  | nil => intro next out h z hz; simp only [stepX, Option.some.injEq] at h; subst h; exact .inl hz
  | cons x xs ih =>
    intro next out h z hz
    unfold stepX at h
    split at h
    · cases h
    · rcases ih _ h z hz with h1 | ⟨x', hx, y, hy, e⟩
      · rcases stepY_mem _ _ _ h1 with h2 | ⟨y, hy, e⟩
        · exact .inl h2
        · exact .inr ⟨x, by simp, y, hy, e⟩
      · exact .inr ⟨x', by simp [hx], y, hy, e⟩
theorem stepX_sub {rest long : Int} {parts : Sents} : ∀ (xs next : Sents) {out : Sents}, stepX rest long parts xs next = some out → ∀ z ∈ next, z ∈ out := by
  intro xs
  induction xs with
  | nil => intro next out h z hz; simp only [stepX, Option.some.injEq] at h; subst h; exact hz
  | cons x xs ih =>
    intro next out h z hz
    unfold stepX at h
    split at h
    · cases h
    · exact ih _ h z (stepY_sub _ _ _ hz)
theorem stepX_has {rest long : Int} {parts : Sents} : ∀ (xs next : Sents) {out : Sents}, stepX rest long parts xs next = some out → ∀ x ∈ xs, ∀ y ∈ parts, (x.length : Int) + y.length + rest ≤ long → x ++ y ∈ out := by
  intro xs
  induction xs with
  | nil => intro next out h x hx; simp at hx
  | cons x' xs ih =>
    intro next out h x hx y hy hl
    unfold stepX at h
    split at h
    · cases h
    · rcases List.mem_cons.1 hx with rfl | hx
      · exact stepX_sub _ _ h _ (stepY_has _ _ y hy hl)
      · exact ih _ h x hx y hy hl
/-- what is known is so -/
def SoundR (c : Cfg) (R : List Sents) : Prop := ∀ (s : Nat) l x, R[s]? = some l → x ∈ l → ∃ al a, c.alts[s]? = some al ∧ a ∈ al ∧ Gen c a x
theorem partsP_sound {c : Cfg} {R : List Sents} (h : SoundR c R) {k : Int} {y : List Int} (hy : y ∈ partsP R k) {s z : List Int} (hz : Gen c s z) : Gen c (k :: s) (y ++ z) := by
  unfold partsP at hy
  split at hy
  · rename_i hk
    simp at hy; subst hy
    exact .tok hk hz
  · rename_i hk
    cases hr : R[(-1 - k).toNat]? with
    | none => rw [hr] at hy; simp at hy
    | some l =>
      rw [hr] at hy
      obtain ⟨al, a, h1, h2, h3⟩ := h _ l y hr hy
      exact .rule (by omega) h1 h2 h3 hz
theorem madeS_sound {c : Cfg} {R : List Sents} (h : SoundR c R) {f : List Int → Int} {long : Int} : ∀ (s : List Int) (out : Sents) {res : Sents}, madeS f R long s out = some res → ∀ z ∈ res, ∃ x ∈ out, ∃ y, z = x ++ y ∧ Gen c s y := by
  intro s
  induction s with
  | nil => intro out res hm z hz; simp only [madeS, Option.some.injEq] at hm; subst hm; exact ⟨z, hz, [], by simp, .nil⟩
  | cons k s ih =>
    intro out res hm z hz
    unfold madeS at hm
    split at hm
    · cases hm
    · rename_i nx hx
      obtain ⟨x, hx1, y, rfl, hy⟩ := ih nx hm z hz
      rcases stepX_mem _ _ hx x hx1 with h1 | ⟨x0, hx0, y0, hy0, rfl⟩
      · simp at h1
      · exact ⟨x0, hx0, y0 ++ y, by rw [List.append_assoc], partsP_sound h hy0 hy⟩
theorem altS_sound {c : Cfg} {f : List Int → Int} {long : Int} {S S' : List Sents × Bool} {s : Nat} {al : List (List Int)} {a : List Int} (hal : c.alts[s]? = some al) (ha : a ∈ al) (h : altS (fun R a => madeS f R long a [[]]) S s a = some S') (hS : SoundR c S.1) : SoundR c S'.1 := by
  unfold altS at h
  split at h
  · cases h
  · rename_i l hl
    split at h
    · injection h with h
      subst h
      intro r l' x hr hx
      by_cases e : r = s
      · subst e
        have hr2 : r < S.1.length := by have := (List.getElem?_eq_some_iff.1 hr).1; simpa using this
        rw [List.getElem?_set_self hr2] at hr
        injection hr with hr; subst hr
        rcases (foldl_mem _ _ _).1 hx with hx | hx
        · exact hS r _ x (by rw [List.getD_eq_getElem?_getD, List.getElem?_eq_getElem hr2]; rfl) hx
        · obtain ⟨x0, h0, y, rfl, hy⟩ := madeS_sound hS _ _ hl x hx
          simp at h0; subst h0
          exact ⟨al, a, hal, ha, by simpa using hy⟩
      · rw [List.getElem?_set_ne (fun e' => e e'.symm)] at hr
        exact hS r l' x hr hx
    · cases h
theorem ruleS_sound {c : Cfg} {f : List Int → Int} {long : Int} {s : Nat} {al : List (List Int)} (hal : c.alts[s]? = some al) : ∀ (l : List (List Int)) (S S' : List Sents × Bool), (∀ a ∈ l, a ∈ al) → ruleS (fun R a => madeS f R long a [[]]) s l S = some S' → SoundR c S.1 → SoundR c S'.1 := by
  intro l
  induction l with
  | nil => intro S S' _ h hS; simp only [ruleS, Option.some.injEq] at h; subst h; exact hS
  | cons a l ih =>
    intro S S' hl h hS
    unfold ruleS at h
    split at h
    · cases h
    · rename_i S1 h1
      exact ih S1 S' (fun a ha => hl a (by simp [ha])) h (altS_sound hal (hl a (by simp)) h1 hS)
theorem roundS_sound {c : Cfg} {f : List Int → Int} {long : Int} : ∀ (l : List (List (List Int))) (s : Nat) (S S' : List Sents × Bool), c.alts.drop s = l → roundS (fun R a => madeS f R long a [[]]) s l S = some S' → SoundR c S.1 → SoundR c S'.1 := by
  intro l
  induction l with
  | nil => intro s S S' _ h hS; simp only [roundS, Option.some.injEq] at h; subst h; exact hS
  | cons al l ih =>
    intro s S S' hd h hS
    have hal : c.alts[s]? = some al := by
      have := congrArg (fun l => l[0]?) hd
      simpa using this
    unfold roundS at h
    split at h
    · cases h
    · rename_i S1 h1
      refine ih (s + 1) S1 S' ?_ h (ruleS_sound hal al S S1 (fun a ha => ha) h1 hS)
      have := congrArg List.tail hd
      simpa using this
theorem foldl_same : ∀ (l A : Sents), (l.foldl insS A).length = A.length → l.foldl insS A = A ∧ ∀ x ∈ l, x ∈ A := by
  intro l
  induction l with
  | nil => intro A _; exact ⟨rfl, by simp⟩
  | cons x l ih =>
    intro A h
    have h1 := insS_ge (l := A) (x := x)
    have h2 := (foldl_ins l (insS A x)).1
    simp only [List.foldl_cons] at h ⊢
    have hx : x ∈ A := by
      refine Decidable.byContradiction fun hn => ?_
      have := length_insS (l := A) (x := x)
      rw [if_neg hn] at this; omega
    rw [insS_old hx] at h ⊢
    obtain ⟨e, h3⟩ := ih A h
    exact ⟨e, fun y hy => (List.mem_cons.1 hy).elim (fun e => e ▸ hx) (fun hy => h3 y hy)⟩
theorem set_getD' {R : List Sents} {s : Nat} : R.set s (R.getD s []) = R := by
  apply List.ext_getElem?
  intro i
  by_cases h : i = s
  · subst h
    by_cases hi : i < R.length
    · rw [List.getElem?_set_self hi, List.getD_eq_getElem?_getD, List.getElem?_eq_getElem hi]; rfl
    · rw [List.getElem?_eq_none (by simpa using hi), List.getElem?_eq_none (by omega)]
  · rw [List.getElem?_set_ne (fun e => h e.symm)]
theorem altS_still {mf : List Sents → List Int → Option Sents} {R R' : List Sents} {b : Bool} {s : Nat} {a : List Int} (h : altS mf (R, b) s a = some (R', false)) : b = false ∧ R' = R ∧ ∃ l, mf R a = some l ∧ ∀ x ∈ l, x ∈ R.getD s [] := by
  unfold altS at h
  simp only at h
  split at h
  · cases h
  · rename_i l hl
    split at h
    · injection h with h
      injection h with h1 h2
      rw [Bool.or_eq_false_iff, decide_eq_false_iff_not] at h2
      have h3 := (foldl_ins l (R.getD s [])).1
      obtain ⟨e, h4⟩ := foldl_same l (R.getD s []) (by omega)
      rw [e, set_getD'] at h1
      exact ⟨h2.1, h1.symm, l, hl, h4⟩
    · cases h
theorem ruleS_still {mf : List Sents → List Int → Option Sents} {s : Nat} : ∀ (al : List (List Int)) (R R' : List Sents) (b : Bool), ruleS mf s al (R, b) = some (R', false) → b = false ∧ R' = R ∧ ∀ a ∈ al, ∃ l, mf R a = some l ∧ ∀ x ∈ l, x ∈ R.getD s [] := by
  intro al
  induction al with
  | nil => intro R R' b h; simp only [ruleS, Option.some.injEq, Prod.mk.injEq] at h; exact ⟨h.2, h.1.symm, by simp⟩
  | cons a al ih =>
    intro R R' b h
    unfold ruleS at h
    split at h
    · cases h
    · rename_i S1 h1
      obtain ⟨R1, b1⟩ := S1
      obtain ⟨e1, e2, h2⟩ := ih R1 R' b1 h
      subst e1
      obtain ⟨e3, e4, h3⟩ := altS_still h1
      subst e4 e2
      exact ⟨e3, rfl, fun a' ha' => (List.mem_cons.1 ha').elim (fun e => e ▸ h3) (fun ha' => h2 a' ha')⟩
theorem roundS_still {mf : List Sents → List Int → Option Sents} : ∀ (als : List (List (List Int))) (s : Nat) (R R' : List Sents) (b : Bool), roundS mf s als (R, b) = some (R', false) → b = false ∧ R' = R ∧ ∀ i al, als[i]? = some al → ∀ a ∈ al, ∃ l, mf R a = some l ∧ ∀ x ∈ l, x ∈ R.getD (s + i) [] := by
  intro als
  induction als with
  | nil => intro s R R' b h; simp only [roundS, Option.some.injEq, Prod.mk.injEq] at h; exact ⟨h.2, h.1.symm, by simp⟩
  | cons al als ih =>
    intro s R R' b h
    unfold roundS at h
    split at h
    · cases h
    · rename_i S1 h1
      obtain ⟨R1, b1⟩ := S1
      obtain ⟨e1, e2, h2⟩ := ih (s + 1) R1 R' b1 h
      subst e1
      obtain ⟨e3, e4, h3⟩ := ruleS_still _ _ _ _ h1
      subst e4 e2
      refine ⟨e3, rfl, fun i al' hi a ha => ?_⟩
      cases i with
      | zero => simp at hi; subst hi; simpa using h3 a ha
      | succ i => have := h2 i al' (by simpa using hi) a ha; rwa [show s + 1 + i = s + (i + 1) by omega] at this
theorem loopS_end {c : Cfg} {f : List Int → Int} {long : Int} : ∀ (n : Nat) (R R' : List Sents), loopS (fun R a => madeS f R long a [[]]) c.alts n R = some (some R') → SoundR c R → SoundR c R' ∧ ∀ (s : Nat) al a, c.alts[s]? = some al → a ∈ al → ∃ l, madeS f R' long a [[]] = some l ∧ ∀ x ∈ l, x ∈ R'.getD s [] := by
  intro n
  induction n with
  | zero => intro R R' h; simp [loopS] at h
  | succ n ih =>
    intro R R' h hS
    unfold loopS at h
    split at h
    · cases h
    · rename_i R1 h1
      exact ih R1 R' h (roundS_sound c.alts 0 (R, false) (R1, true) rfl h1 hS)
    · rename_i R1 h1
      injection h with h; injection h with h; subst h
      obtain ⟨_, e, h2⟩ := roundS_still _ _ _ _ _ h1
      subst e
      exact ⟨hS, fun s al a hal ha => by have := h2 s al hal a ha; simpa using this⟩
/-- no sentence is shorter than is reckoned -/
theorem leastP_le {c : Cfg} {short : List Int} (hs : ShortOk c short) {s y : List Int} (h : Gen c s y) : leastP short s ≤ y.length := by
  have key : ∀ {s y : List Int}, Gen c s y → ∀ n : Int, s.foldl (fun n k => min (n + morP short k) 100) n ≤ n + y.length := by
    intro s y h
    induction h with
    | nil => intro n; simp
    | @tok k s x h1 _ ih =>
      intro n
      have e : morP short k = 1 := by unfold morP; rw [if_neg (by omega)]
      have := ih (min (n + morP short k) 100)
      simp only [List.foldl_cons, List.length_cons]; omega
    | @rule k s x y a al h1 h2 h3 h4 _ _ ih2 =>
      intro n
      have hlt := (List.getElem?_eq_some_iff.1 h2).1
      have hl2 : (-1 - k).toNat < short.length := by rw [hs.1]; exact hlt
      have e : morP short k = min short[(-1 - k).toNat] 100 := by unfold morP; rw [if_pos h1, List.getElem?_eq_getElem hl2]
      have hm := (hs.2 _ _ (List.getElem?_eq_getElem hl2)).lb al a x h2 h3 h4
      have := ih2 (min (n + morP short k) 100)
      simp only [List.foldl_cons, List.length_append]; omega
  have := key h 0
  unfold leastP; omega
theorem madeS_has {c : Cfg} {short : List Int} (hs : ShortOk c short) {R : List Sents} {long : Int} (hc : ∀ (s : Nat) al a, c.alts[s]? = some al → a ∈ al → ∃ l, madeS (leastP short) R long a [[]] = some l ∧ ∀ x ∈ l, x ∈ R.getD s []) {s y : List Int} (h : Gen c s y) :
    ∀ (out : Sents) {res : Sents}, madeS (leastP short) R long s out = some res → ∀ x ∈ out, (x.length : Int) + y.length ≤ long → x ++ y ∈ res := by
  induction h with
  | nil => intro out res hm x hx _; simp only [madeS, Option.some.injEq] at hm; subst hm; simpa using hx
  | @tok k s y h1 h2 ih =>
    intro out res hm x hx hl
    unfold madeS at hm
    split at hm
    · cases hm
    · rename_i nx hnx
      have hle := leastP_le hs h2
      simp only [List.length_cons] at hl
      have hp : [k] ∈ partsP R k := by unfold partsP; rw [if_pos h1]; simp
      have h3 := stepX_has _ _ hnx x hx [k] hp (by simp only [List.length_cons, List.length_nil]; omega)
      have := ih nx hm (x ++ [k]) h3 (by simp only [List.length_append, List.length_cons, List.length_nil]; omega)
      simpa using this
  | @rule k s x1 y a al h1 h2 h3 h4 h5 ih1 ih2 =>
    intro out res hm x hx hl
    unfold madeS at hm
    split at hm
    · cases hm
    · rename_i nx hnx
      have hle := leastP_le hs h5
      simp only [List.length_append] at hl
      obtain ⟨l, hl1, hl2⟩ := hc _ al a h2 h3
      have h6 := ih1 [[]] hl1 [] (by simp) (by simp only [List.length_nil]; omega)
      have h7 := hl2 _ h6
      have hp : x1 ∈ partsP R k := by
        unfold partsP; rw [if_neg (by omega)]
        rw [List.getD_eq_getElem?_getD] at h7; simpa using h7
      have h8 := stepX_has _ _ hnx x hx x1 hp (by omega)
      have := ih2 nx hm (x ++ x1) h8 (by simp only [List.length_append]; omega)
      rw [List.append_assoc] at this; exact this
/-- all short sentences of a rule, and no others -/
theorem sen_iff {c : Cfg} {short : List Int} (hs : ShortOk c short) {long : Int} {n : Nat} {R : List Sents} (h : loopS (fun R a => madeS (leastP short) R long a [[]]) c.alts n (List.replicate c.alts.length []) = some (some R)) (hok : SOk long c.alts.length R) {r : Nat} (hr : r < c.alts.length) (x : List Int) :
    x ∈ R.getD r [] ↔ (x.length : Int) ≤ long ∧ Gen c [-1 - (r : Int)] x := by
  obtain ⟨hS, hc⟩ := loopS_end n _ R h (fun s l x hl hx => by
    rw [List.getElem?_replicate] at hl
    split at hl
    · injection hl with hl; subst hl; simp at hx
    · cases hl)
  have hrl : r < R.length := by rw [hok.len]; exact hr
  have hget : R[r]? = some (R.getD r []) := by rw [List.getD_eq_getElem?_getD, List.getElem?_eq_getElem hrl]; rfl
  have hk : (-1 - (-1 - (r : Int))).toNat = r := by omega
  constructor
  · intro hx
    obtain ⟨al, a, h1, h2, h3⟩ := hS r _ x hget hx
    refine ⟨hok.shrt _ (List.mem_of_getElem? hget) x hx, ?_⟩
    have := Gen.rule (k := -1 - (r : Int)) (s := []) (y := []) (by omega) (by rw [hk]; exact h1) h2 h3 .nil
    simpa using this
  · rintro ⟨hl, hg⟩
    generalize hs1 : [-1 - (r : Int)] = s1 at hg
    cases hg with
    | nil => cases hs1
    | tok h1 _ => injection hs1 with e1 e2; omega
    | @rule k s x1 y a al h1 h2 h3 h4 h5 =>
      injection hs1 with e1 e2
      subst e1 e2
      cases h5
      rw [hk] at h2
      obtain ⟨l, hl1, hl2⟩ := hc r al a h2 h3
      have := madeS_has hs hc h4 [[]] hl1 [] (by simp) (by simp at hl ⊢; omega)
      simpa using hl2 _ this
end Go.Proofs.Ytgjobbapnileiaa
