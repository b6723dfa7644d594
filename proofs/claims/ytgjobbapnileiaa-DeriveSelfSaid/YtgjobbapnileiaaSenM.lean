/- All short sentences: what is reckoned, without a program. -/
import Derived.Test.YtgjobbapnileiaaOrdM
set_option linter.unusedVariables false
set_option linter.unusedSimpArgs false
namespace Go.Proofs.Ytgjobbapnileiaa
open Go.RowKit Gk

abbrev Sents := List (List Int)
/-- how much a number adds, as the program reckons -/
def morP (short : List Int) (k : Int) : Int := if k < 0 then match short[(-1 - k).toNat]? with | some s => min s 100 | none => 1 else 1
def leastP (short : List Int) (s : List Int) : Int := s.foldl (fun n k => min (n + morP short k) 100) 0
theorem leastP_snoc (short s : List Int) (k : Int) : leastP short (s ++ [k]) = min (leastP short s + morP short k) 100 := by simp [leastP, List.foldl_append]
theorem morP_nn {short : List Int} (h : ∀ s ∈ short, 0 ≤ s) (k : Int) : 0 ≤ morP short k ∧ morP short k ≤ 100 := by
  unfold morP
  split
  · split
    · rename_i s hs; have := h s (List.mem_of_getElem? hs); omega
    · omega
  · omega
theorem leastP_nn {short : List Int} (h : ∀ s ∈ short, 0 ≤ s) (s : List Int) : 0 ≤ leastP short s ∧ leastP short s ≤ 100 := by
  have : ∀ (s : List Int) (n : Int), 0 ≤ n ∧ n ≤ 100 → 0 ≤ s.foldl (fun n k => min (n + morP short k) 100) n ∧ s.foldl (fun n k => min (n + morP short k) 100) n ≤ 100 := by
    intro s
    induction s with
    | nil => intro n hn; exact hn
    | cons k s ih => intro n hn; have := morP_nn h k; exact ih (min (n + morP short k) 100) (by omega)
  exact this s 0 (by omega)
/-- the sentences of one number -/
def partsP (rules : List Sents) (k : Int) : Sents := if 0 ≤ k then [[k]] else (rules[(-1 - k).toNat]?).getD []
def stepY (rest long : Int) (x : List Int) (parts next : Sents) : Sents := parts.foldl (fun nx y => if (x.length : Int) + y.length + rest ≤ long then insS nx (x ++ y) else nx) next
def stepX (rest long : Int) (parts : Sents) : Sents → Sents → Option Sents
  | [], next => some next
  | x :: xs, next => if 3600 < (stepY rest long x parts next).length then none else stepX rest long parts xs (stepY rest long x parts next)
def madeS (restF : List Int → Int) (rules : List Sents) (long : Int) : List Int → Sents → Option Sents
  | [], out => some out
  | k :: s, out => match stepX (restF s) long (partsP rules k) out [] with | none => none | some nx => madeS restF rules long s nx
theorem stepY_cons (rest long : Int) (x y : List Int) (parts next : Sents) : stepY rest long x (y :: parts) next = stepY rest long x parts (if (x.length : Int) + y.length + rest ≤ long then insS next (x ++ y) else next) := rfl
/-- what holds of what is made -/
def Shrt (long : Int) (l : Sents) : Prop := ∀ x ∈ l, (x.length : Int) ≤ long
theorem stepY_ok {rest long : Int} (hr : 0 ≤ rest) {x : List Int} : ∀ (parts next : Sents), Srt next → Shrt long next → Srt (stepY rest long x parts next) ∧ Shrt long (stepY rest long x parts next) ∧ (stepY rest long x parts next).length ≤ next.length + parts.length ∧ next.length ≤ (stepY rest long x parts next).length := by
  intro parts
  induction parts with
  | nil => intro next h1 h2; exact ⟨h1, h2, by simp [stepY], by simp [stepY]⟩
  | cons y parts ih =>
    intro next h1 h2
    rw [stepY_cons]
    split
    · rename_i hl
      obtain ⟨h3, h4, h5, h6⟩ := ih (insS next (x ++ y)) (srt_insS h1 _) (fun z hz => by
        rcases mem_insS.1 hz with hz | rfl
        · exact h2 z hz
        · simp only [List.length_append]; omega)
      have := insS_ge (l := next) (x := x ++ y)
      exact ⟨h3, h4, by simp only [List.length_cons]; omega, by omega⟩
    · obtain ⟨h3, h4, h5, h6⟩ := ih next h1 h2
      exact ⟨h3, h4, by simp only [List.length_cons]; omega, h6⟩
theorem stepX_ok {rest long : Int} (hr : 0 ≤ rest) {parts : Sents} : ∀ (xs next : Sents) {out : Sents}, stepX rest long parts xs next = some out → Srt next → Shrt long next → next.length ≤ 3600 → Srt out ∧ Shrt long out ∧ out.length ≤ 3600 := by
  intro xs
  induction xs with
  | nil => intro next out h h1 h2 h3; simp only [stepX, Option.some.injEq] at h; subst h; exact ⟨h1, h2, h3⟩
  | cons x xs ih =>
    intro next out h h1 h2 h3
    unfold stepX at h
    split at h
    · cases h
    · obtain ⟨h4, h5, _, _⟩ := stepY_ok hr (x := x) parts next h1 h2
      exact ih _ h h4 h5 (by omega)
theorem madeS_ok {restF : List Int → Int} (hr : ∀ s, 0 ≤ restF s) {rules : List Sents} {long : Int} (hl : 0 ≤ long) : ∀ (s : List Int) (out : Sents) {res : Sents}, madeS restF rules long s out = some res → Srt out → Shrt long out → out.length ≤ 3600 → Srt res ∧ Shrt long res ∧ res.length ≤ 3600 := by
  intro s
  induction s with
  | nil => intro out res h h1 h2 h3; simp only [madeS, Option.some.injEq] at h; subst h; exact ⟨h1, h2, h3⟩
  | cons k s ih =>
    intro out res h h1 h2 h3
    unfold madeS at h
    split at h
    · cases h
    · rename_i nx hx
      obtain ⟨h4, h5, h6⟩ := stepX_ok (hr s) _ _ hx List.Pairwise.nil (by intro z hz; simp at hz) (by simp)
      exact ih nx h h4 h5 h6
/-- one alternative of one rule; none: they are too many -/
def altS (madeF : List Sents → List Int → Option Sents) (S : List Sents × Bool) (s : Nat) (a : List Int) : Option (List Sents × Bool) :=
  match madeF S.1 a with
  | none => none
  | some l => if l.length ≤ 400 ∧ (l.foldl insS (S.1.getD s [])).length ≤ 400 then some (S.1.set s (l.foldl insS (S.1.getD s [])), S.2 || decide ((S.1.getD s []).length < (l.foldl insS (S.1.getD s [])).length)) else none
def ruleS (madeF : List Sents → List Int → Option Sents) (s : Nat) : List (List Int) → List Sents × Bool → Option (List Sents × Bool)
  | [], S => some S
  | a :: al, S => match altS madeF S s a with | none => none | some S' => ruleS madeF s al S'
def roundS (madeF : List Sents → List Int → Option Sents) : Nat → List (List (List Int)) → List Sents × Bool → Option (List Sents × Bool)
  | _, [], S => some S
  | s, al :: als, S => match ruleS madeF s al S with | none => none | some S' => roundS madeF (s + 1) als S'
def loopS (madeF : List Sents → List Int → Option Sents) (alts : List (List (List Int))) : Nat → List Sents → Option (Option (List Sents))
  | 0, _ => none
  | n + 1, R => match roundS madeF 0 alts (R, false) with
    | none => some none
    | some (R', true) => loopS madeF alts n R'
    | some (R', false) => some (some R')
theorem loopS_more {madeF : List Sents → List Int → Option Sents} {alts : List (List (List Int))} : ∀ (n m : Nat) (R : List Sents) {r : Option (List Sents)}, loopS madeF alts n R = some r → n ≤ m → loopS madeF alts m R = some r := by
  intro n
  induction n with
  | zero => intro m R r h; simp [loopS] at h
  | succ n ih =>
    intro m R r h hm
    obtain ⟨m, rfl⟩ : ∃ k, m = k + 1 := ⟨m - 1, by omega⟩
    unfold loopS at h ⊢
    split at h
    · exact h
    · exact ih m _ h (by omega)
    · exact h
theorem loopS_one {madeF : List Sents → List Int → Option Sents} {alts : List (List (List Int))} {n m : Nat} {R : List Sents} {r r' : Option (List Sents)} (h : loopS madeF alts n R = some r) (h' : loopS madeF alts m R = some r') : r = r' := by
  have h1 := loopS_more n (n + m) R h (by omega)
  have h2 := loopS_more m (n + m) R h' (by omega)
  rw [h1] at h2; injection h2
/-- how many are known -/
def total (R : List Sents) : Nat := (R.map List.length).sum
theorem total_set : ∀ (R : List Sents) (s : Nat) (l : Sents), s < R.length → total (R.set s l) + (R.getD s []).length = total R + l.length := by
  intro R
  induction R with
  | nil => intro s l h; simp at h
  | cons a R ih =>
    intro s l h
    cases s with
    | zero => simp [total]; omega
    | succ s =>
      have := ih s l (by simpa using h)
      simp only [total, List.set_cons_succ, List.map_cons, List.sum_cons, List.getD_cons_succ] at this ⊢
      omega
theorem foldl_ins : ∀ (l : Sents) (R : Sents), R.length ≤ (l.foldl insS R).length ∧ (l.foldl insS R).length ≤ R.length + l.length := by
  intro l
  induction l with
  | nil => intro R; simp
  | cons x l ih =>
    intro R
    have := insS_ge (l := R) (x := x)
    have h := ih (insS R x)
    simp only [List.foldl_cons, List.length_cons]; omega
theorem foldl_srt : ∀ (l R : Sents), Srt R → Srt (l.foldl insS R) := by
  intro l
  induction l with
  | nil => intro R h; exact h
  | cons x l ih => intro R h; exact ih _ (srt_insS h x)
theorem foldl_mem : ∀ (l R : Sents) (y : List Int), y ∈ l.foldl insS R ↔ y ∈ R ∨ y ∈ l := by
  intro l
  induction l with
  | nil => intro R y; simp
  | cons x l ih => intro R y; rw [List.foldl_cons, ih, mem_insS, List.mem_cons, or_assoc]
/-- what holds of all that is known, in a round -/
structure SOk (long : Int) (n : Nat) (R : List Sents) : Prop where
  len : R.length = n
  srt : ∀ l ∈ R, Srt l
  shrt : ∀ l ∈ R, Shrt long l
  few : ∀ l ∈ R, l.length ≤ 400
theorem getD_mem {R : List Sents} {s : Nat} (h : s < R.length) : R.getD s [] ∈ R := by
  rw [List.getD_eq_getElem?_getD, List.getElem?_eq_getElem h]; exact List.getElem_mem h
theorem mem_set_or {α : Type} {l : List α} {i : Nat} {a b : α} (h : b ∈ l.set i a) : b ∈ l ∨ b = a := List.mem_or_eq_of_mem_set h
structure StepOk (R : List Sents) (b : Bool) (R' : List Sents) (b' : Bool) : Prop where
  le : total R ≤ total R'
  lt : b' = true → b = true ∨ total R < total R'
theorem StepOk.trans {R R' R'' : List Sents} {b b' b'' : Bool} (h : StepOk R b R' b') (k : StepOk R' b' R'' b'') : StepOk R b R'' b'' := by
  refine ⟨Nat.le_trans h.le k.le, fun e => ?_⟩
  have h1 := h.le
  have h2 := k.le
  rcases k.lt e with h3 | h3
  · rcases h.lt h3 with h4 | h4
    · exact .inl h4
    · exact .inr (by omega)
  · exact .inr (by omega)
theorem altS_ok {madeF : List Sents → List Int → Option Sents} {long : Int} {n : Nat} (hm : ∀ R a l, SOk long n R → madeF R a = some l → Shrt long l) {S S' : List Sents × Bool} {s : Nat} {a : List Int} (h : altS madeF S s a = some S') (hs : s < n) (hS : SOk long n S.1) : SOk long n S'.1 ∧ StepOk S.1 S.2 S'.1 S'.2 := by
  unfold altS at h
  split at h
  · cases h
  · rename_i l hl
    split at h
    · rename_i hc
      injection h with h
      subst h
      have hln := hS.len
      have hmem := getD_mem (R := S.1) (s := s) (by omega)
      have hf := foldl_ins l (S.1.getD s [])
      refine ⟨⟨by simpa using hln, fun x hx => ?_, fun x hx => ?_, fun x hx => ?_⟩, ?_⟩
      · rcases mem_set_or hx with hx | rfl
        · exact hS.srt x hx
        · exact foldl_srt _ _ (hS.srt _ hmem)
      · rcases mem_set_or hx with hx | rfl
        · exact hS.shrt x hx
        · intro y hy
          rcases (foldl_mem _ _ _).1 hy with hy | hy
          · exact hS.shrt _ hmem y hy
          · exact hm _ _ _ hS hl y hy
      · rcases mem_set_or hx with hx | rfl
        · exact hS.few x hx
        · exact hc.2
      · have ht := total_set S.1 s (l.foldl insS (S.1.getD s [])) (by omega)
        refine ⟨by show total S.1 ≤ total (S.1.set s _); omega, fun e => ?_⟩
        simp only [Bool.or_eq_true, decide_eq_true_eq] at e
        rcases e with e | e
        · exact .inl e
        · exact .inr (by show total S.1 < total (S.1.set s _); omega)
    · cases h
theorem total_le {long : Int} {n : Nat} {R : List Sents} (h : SOk long n R) : total R ≤ n * 400 := by
  have : ∀ R : List Sents, (∀ l ∈ R, l.length ≤ 400) → total R ≤ R.length * 400 := by
    intro R
    induction R with
    | nil => intro _; simp [total]
    | cons a R ih =>
      intro h
      have h1 := h a (by simp)
      have h2 := ih fun l hl => h l (by simp [hl])
      simp only [total, List.map_cons, List.sum_cons, List.length_cons] at h2 ⊢
      omega
  have := this R h.few
  rw [h.len] at this; exact this
/-- the same run, whatever reckons the rests -/
theorem stepY_eq {r r' long : Int} (hl : long ≤ 8) (h : r = r' ∨ (8 < r ∧ 8 < r')) (x : List Int) (parts next : Sents) : stepY r long x parts next = stepY r' long x parts next := by
  rcases h with rfl | ⟨h1, h2⟩
  · rfl
  · induction parts generalizing next with
    | nil => rfl
    | cons y parts ih => rw [stepY_cons, stepY_cons, if_neg (by omega), if_neg (by omega)]; exact ih next
theorem stepX_eq {r r' long : Int} (hl : long ≤ 8) (h : r = r' ∨ (8 < r ∧ 8 < r')) (parts : Sents) : ∀ xs next : Sents, stepX r long parts xs next = stepX r' long parts xs next := by
  intro xs
  induction xs with
  | nil => intro next; rfl
  | cons x xs ih => intro next; unfold stepX; rw [stepY_eq hl h x parts next, ih]
theorem madeS_eq {f g : List Int → Int} {long : Int} (hl : long ≤ 8) {rules : List Sents} : ∀ (s : List Int) (out : Sents), (∀ t, t.length ≤ s.length → (∀ k ∈ t, k ∈ s) → f t = g t ∨ (8 < f t ∧ 8 < g t)) → madeS f rules long s out = madeS g rules long s out := by
  intro s
  induction s with
  | nil => intro out _; rfl
  | cons k s ih =>
    intro out h
    unfold madeS
    rw [stepX_eq hl (h s (by simp) (fun k hk => by simp [hk])) (partsP rules k) out []]
    split
    · rfl
    · exact ih _ fun t ht hk => h t (by simp; omega) (fun k hk' => by simp [hk k hk'])
end Go.Proofs.Ytgjobbapnileiaa
