/- The sets of a grammar: without a program; The shortest sentences: what they are; The two grammars of live, without a program; A region whose operations but the last only read; A region whose operations only read what is old and lay what is new. -/
import Derived.Test.YtigbfankkmmnbaaZ06
import Derived.Test.YtigbfankkmmnbaaZ04
set_option linter.unusedVariables false
set_option linter.unusedSimpArgs false
namespace Go.Proofs.Ytigbfankkmmnbaa
open Go.RowKit Gk

/-- a token that a list's sentences may begin with -/
inductive Ldp (c : Cfg) : List Int → Int → Prop
  | tok {k : Int} {s : List Int} : 0 ≤ k → Ldp c (k :: s) k
  | rule {k : Int} {s a : List Int} {al : List (List Int)} {t : Int} : k < 0 → c.alts[(-1 - k).toNat]? = some al → a ∈ al → Ldp c a t → Ldp c (k :: s) t
  | skip {k : Int} {s : List Int} {t : Int} : k < 0 → Gen c [k] [] → Ldp c s t → Ldp c (k :: s) t
/-- .. that stands behind a rule -/
inductive Flw (c : Cfg) : Nat → Int → Prop
  | start : 0 < c.alts.length → Flw c 0 c.toks.length
  | lead {r : Nat} {al : List (List Int)} {p s : List Int} {k t : Int} : c.alts[r]? = some al → (p ++ k :: s) ∈ al → k < 0 → Ldp c s t → Flw c (-1 - k).toNat t
  | pass {r : Nat} {al : List (List Int)} {p s : List Int} {k t : Int} : c.alts[r]? = some al → (p ++ k :: s) ∈ al → k < 0 → Gen c s [] → Flw c r t → Flw c (-1 - k).toNat t
/-- .. that a rule's sentences begin with -/
def Frs (c : Cfg) (r : Nat) (t : Int) : Prop := ∃ al a, c.alts[r]? = some al ∧ a ∈ al ∧ Ldp c a t
/-- what is known of what is empty -/
structure NulOk (c : Cfg) (nl : List Bool) : Prop where
  inv : NulI c nl
  cl : NulC c nl
theorem NulOk.one {c : Cfg} {a b : List Bool} (h : NulOk c a) (k : NulOk c b) : a = b := by
  apply List.ext_getElem?
  intro r
  by_cases hr : r < c.alts.length
  · have h1 := nul_iff h.inv h.cl hr
    have h2 := nul_iff k.inv k.cl hr
    have ha : r < a.length := by rw [h.inv.1]; exact hr
    have hb : r < b.length := by rw [k.inv.1]; exact hr
    rw [List.getElem?_eq_getElem ha] at h1 ⊢
    rw [List.getElem?_eq_getElem hb] at h2 ⊢
    cases ea : a[r] <;> cases eb : b[r]
    · rfl
    · rw [ea] at h1; rw [eb] at h2; exact absurd (h1.1 (h2.2 rfl)) (by simp)
    · rw [ea] at h1; rw [eb] at h2; exact absurd (h2.1 (h1.2 rfl)) (by simp)
    · rfl
  · rw [List.getElem?_eq_none (by rw [h.inv.1]; omega), List.getElem?_eq_none (by rw [k.inv.1]; omega)]
/-- what a list's sentences begin with, as it is gone through -/
def leadL (nl : List Bool) (fs : List (List Int)) : List Int → List Int
  | [] => []
  | k :: s => if k < 0 ∧ -1 - k < (nl.length : Int) then fs.getD (-1 - k).toNat [] ++ (if nl.getD (-1 - k).toNat false = true then leadL nl fs s else []) else if 0 ≤ k then [k] else []
def FrsI (c : Cfg) (fs : List (List Int)) : Prop := fs.length = c.alts.length ∧ ∀ (r : Nat) l, fs[r]? = some l → ∀ t ∈ l, Frs c r t
def FrsC (c : Cfg) (nl : List Bool) (fs : List (List Int)) : Prop := ∀ (r : Nat) al a, c.alts[r]? = some al → a ∈ al → ∀ t ∈ leadL nl fs a, t ∈ fs.getD r []
theorem getD_some {α : Type} {l : List α} {i : Nat} {x d : α} (h : l[i]? = some x) : l.getD i d = x := by
  rw [List.getD_eq_getElem?_getD, h]; rfl
theorem nul_at {c : Cfg} {nl : List Bool} (h : NulOk c nl) {k : Int} (hk : k < 0) (hr : -1 - k < (c.alts.length : Int)) : nl.getD (-1 - k).toNat false = true ↔ Gen c [k] [] := by
  have hl : (-1 - k).toNat < c.alts.length := by omega
  have h1 := nul_iff h.inv h.cl hl
  rw [show -1 - (((-1 - k).toNat : Nat) : Int) = k by omega] at h1
  rw [h1]
  have hn : (-1 - k).toNat < nl.length := by rw [h.inv.1]; exact hl
  rw [List.getD_eq_getElem?_getD, List.getElem?_eq_getElem hn]
  simp
theorem lead_sound {c : Cfg} {nl : List Bool} {fs : List (List Int)} (hn : NulOk c nl) (hf : FrsI c fs) : ∀ s t, t ∈ leadL nl fs s → Ldp c s t := by
  intro s
  induction s with
  | nil => intro t h; simp [leadL] at h
  | cons k s ih =>
    intro t h
    unfold leadL at h
    split at h
    · rename_i hk
      rw [hn.inv.1] at hk
      rcases List.mem_append.1 h with h | h
      · have hl : (-1 - k).toNat < fs.length := by rw [hf.1]; omega
        rw [getD_some (List.getElem?_eq_getElem hl)] at h
        obtain ⟨al, a, h1, h2, h3⟩ := hf.2 _ _ (List.getElem?_eq_getElem hl) t h
        exact .rule hk.1 h1 h2 h3
      · split at h
        · rename_i hnl
          exact .skip hk.1 ((nul_at hn hk.1 hk.2).1 hnl) (ih t h)
        · simp at h
    · split at h
      · simp at h; subst h; exact .tok (by assumption)
      · simp at h
theorem gen_head {c : Cfg} {k : Int} {s x : List Int} (h : Gen c (k :: s) x) (hk : k < 0) : ∃ al, c.alts[(-1 - k).toNat]? = some al := by
  generalize hs : k :: s = l at h
  cases h with
  | nil => cases hs
  | tok h1 _ => injection hs with e1 e2; omega
  | rule _ h2 _ _ _ => injection hs with e1 e2; subst e1; exact ⟨_, h2⟩
theorem lead_complete {c : Cfg} {nl : List Bool} {fs : List (List Int)} (hn : NulOk c nl) (hc : FrsC c nl fs) {s : List Int} {t : Int} (h : Ldp c s t) : t ∈ leadL nl fs s := by
  induction h with
  | tok h => unfold leadL; rw [if_neg (by omega), if_pos h]; simp
  | @rule k s a al t h1 h2 h3 _ ih =>
    have hl := (List.getElem?_eq_some_iff.1 h2).1
    unfold leadL
    rw [if_pos ⟨h1, by rw [hn.inv.1]; omega⟩]
    exact List.mem_append_left _ (hc _ al a h2 h3 t ih)
  | @skip k s t h1 h2 _ ih =>
    have hr : -1 - k < (c.alts.length : Int) := by
      obtain ⟨al, h3⟩ := gen_head h2 h1
      have := (List.getElem?_eq_some_iff.1 h3).1; omega
    unfold leadL
    rw [if_pos ⟨h1, by rw [hn.inv.1]; exact hr⟩, if_pos ((nul_at hn h1 hr).2 h2)]
    exact List.mem_append_right _ ih
theorem lead_iff {c : Cfg} {nl : List Bool} {fs : List (List Int)} (hn : NulOk c nl) (hf : FrsI c fs) (hc : FrsC c nl fs) (s : List Int) (t : Int) : t ∈ leadL nl fs s ↔ Ldp c s t := ⟨lead_sound hn hf s t, lead_complete hn hc⟩
theorem frs_iff {c : Cfg} {nl : List Bool} {fs : List (List Int)} (hn : NulOk c nl) (hf : FrsI c fs) (hc : FrsC c nl fs) {r : Nat} {l : List Int} (hl : fs[r]? = some l) (t : Int) : t ∈ l ↔ Frs c r t := by
  refine ⟨hf.2 r l hl t, fun ⟨al, a, h1, h2, h3⟩ => ?_⟩
  have := hc r al a h1 h2 t (lead_complete hn hc h3)
  rwa [getD_some hl] at this
theorem empty_iff {c : Cfg} {nl : List Bool} (hn : NulOk c nl) (s : List Int) : emptyP nl s = true ↔ Gen c s [] :=
  ⟨empty_sound hn.inv s, fun h => empty_complete hn.cl h rfl⟩
def FlwI (c : Cfg) (gs : List (List Int)) : Prop := gs.length = c.alts.length ∧ ∀ (r : Nat) l, gs[r]? = some l → ∀ t ∈ l, Flw c r t
/-- one place of one alternative is closed -/
def FlwAt (nl : List Bool) (fs gs : List (List Int)) (r : Nat) (k : Int) (s : List Int) : Prop :=
  k < 0 → (∀ t ∈ leadL nl fs s, t ∈ gs.getD (-1 - k).toNat []) ∧ (emptyP nl s = true → ∀ t ∈ gs.getD r [], t ∈ gs.getD (-1 - k).toNat [])
structure FlwC (c : Cfg) (nl : List Bool) (fs gs : List (List Int)) : Prop where
  start : 0 < c.alts.length → (c.toks.length : Int) ∈ gs.getD 0 []
  at_ : ∀ (r : Nat) al p k s, c.alts[r]? = some al → (p ++ k :: s) ∈ al → FlwAt nl fs gs r k s
theorem flw_complete {c : Cfg} {nl : List Bool} {fs gs : List (List Int)} (hn : NulOk c nl) (hf : FrsI c fs) (hc : FrsC c nl fs) (hg : FlwC c nl fs gs) {r : Nat} {t : Int} (h : Flw c r t) : t ∈ gs.getD r [] := by
  induction h with
  | start h => exact hg.start h
  | lead h1 h2 h3 h4 => exact ((hg.at_ _ _ _ _ _ h1 h2) h3).1 _ (lead_complete hn hc h4)
  | pass h1 h2 h3 h4 _ ih => exact ((hg.at_ _ _ _ _ _ h1 h2) h3).2 ((empty_iff hn _).2 h4) _ ih
theorem flw_iff {c : Cfg} {nl : List Bool} {fs gs : List (List Int)} (hn : NulOk c nl) (hf : FrsI c fs) (hc : FrsC c nl fs) (hi : FlwI c gs) (hg : FlwC c nl fs gs) {r : Nat} {l : List Int} (hl : gs[r]? = some l) (t : Int) : t ∈ l ↔ Flw c r t := by
  refine ⟨hi.2 r l hl t, fun h => ?_⟩
  have := flw_complete hn hf hc hg h
  rwa [getD_some hl] at this
/-! ### rising lists -/
abbrev Rising (l : List Int) : Prop := l.Pairwise (· < ·)
theorem rising_ext : ∀ {a b : List Int}, Rising a → Rising b → (∀ t, t ∈ a ↔ t ∈ b) → a = b := by
  intro a
  induction a with
  | nil =>
    intro b _ _ h
    cases b with
    | nil => rfl
    | cons y b => exact absurd ((h y).2 (by simp)) (by simp)
  | cons x a ih =>
    intro b ha hb h
    cases b with
    | nil => exact absurd ((h x).1 (by simp)) (by simp)
    | cons y b =>
      obtain ⟨ha1, ha2⟩ := List.pairwise_cons.1 ha
      obtain ⟨hb1, hb2⟩ := List.pairwise_cons.1 hb
      have e : x = y := by
        have h1 := (h x).1 (by simp)
        have h2 := (h y).2 (by simp)
        rcases List.mem_cons.1 h1 with h1 | h1
        · exact h1
        · rcases List.mem_cons.1 h2 with h2 | h2
          · exact h2.symm
          · have := ha1 y h2; have := hb1 x h1; omega
      subst e
      congr 1
      refine ih ha2 hb2 fun t => ?_
      have h1 := h t
      simp only [List.mem_cons] at h1
      constructor
      · intro ht
        rcases h1.1 (.inr ht) with e | e
        · have := ha1 t ht; omega
        · exact e
      · intro ht
        rcases h1.2 (.inr ht) with e | e
        · have := hb1 t ht; omega
        · exact e
/-- lists of sets that are told -/
def RisAll (n : Nat) (P : Nat → Int → Prop) (l : List (List Int)) : Prop := l.length = n ∧ ∀ (r : Nat) x, l[r]? = some x → Rising x ∧ ∀ t, t ∈ x ↔ P r t
theorem RisAll.one {n : Nat} {P : Nat → Int → Prop} {a b : List (List Int)} (h : RisAll n P a) (k : RisAll n P b) : a = b := by
  apply List.ext_getElem?
  intro r
  by_cases hr : r < n
  · have ha : r < a.length := by rw [h.1]; exact hr
    have hb : r < b.length := by rw [k.1]; exact hr
    rw [List.getElem?_eq_getElem ha, List.getElem?_eq_getElem hb]
    obtain ⟨h1, h2⟩ := h.2 r _ (List.getElem?_eq_getElem ha)
    obtain ⟨k1, k2⟩ := k.2 r _ (List.getElem?_eq_getElem hb)
    rw [rising_ext h1 k1 fun t => (h2 t).trans (k2 t).symm]
  · rw [List.getElem?_eq_none (by rw [h.1]; omega), List.getElem?_eq_none (by rw [k.1]; omega)]
/-! ### tokens are small -/
theorem ldp_tok {c : Cfg} (hok : CfgOk c) {s : List Int} {t : Int} (h : Ldp c s t) : 0 ≤ t ∧ ((∀ k ∈ s, k < c.toks.length) → t < c.toks.length) := by
  induction h with
  | tok h => exact ⟨h, fun hk => hk _ (by simp)⟩
  | @rule k s a al t h1 h2 h3 _ ih =>
    refine ⟨ih.1, fun _ => ih.2 fun k hk => ?_⟩
    have := hok.2 al (List.mem_of_getElem? h2) a h3 k hk
    rcases this with h | h <;> omega
  | skip h1 h2 _ ih => exact ⟨ih.1, fun hk => ih.2 fun k hk' => hk k (by simp [hk'])⟩
theorem frs_tok {c : Cfg} (hok : CfgOk c) {r : Nat} {t : Int} (h : Frs c r t) : 0 ≤ t ∧ t < c.toks.length := by
  obtain ⟨al, a, h1, h2, h3⟩ := h
  have := ldp_tok hok h3
  refine ⟨this.1, this.2 fun k hk => ?_⟩
  have := hok.2 al (List.mem_of_getElem? h1) a h2 k hk
  rcases this with h | h <;> omega
theorem flw_tok {c : Cfg} (hok : CfgOk c) {r : Nat} {t : Int} (h : Flw c r t) : 0 ≤ t ∧ t ≤ c.toks.length := by
  induction h with
  | start _ => omega
  | lead h1 h2 h3 h4 =>
    have := ldp_tok hok h4
    have h5 := this.2 fun k hk => by
      have := hok.2 _ (List.mem_of_getElem? h1) _ h2 k (by simp [hk])
      rcases this with h | h <;> omega
    omega
  | pass _ _ _ _ _ ih => exact ih
theorem nodup_small {l : List Int} {n : Nat} (h : l.Nodup) (hb : ∀ t ∈ l, 0 ≤ t ∧ t ≤ (n : Int)) : l.length ≤ n + 1 := by
  have := nodup_le (l.map Int.toNat) (List.range (n + 1)) ?_ ?_
  · simpa using this
  · refine (List.pairwise_map).2 (h.imp_of_mem fun {a b} ha hb' hne e => hne ?_)
    have := hb a ha; have := hb b hb'; omega
  · intro x hx
    obtain ⟨t, ht, rfl⟩ := List.mem_map.1 hx
    have := hb t ht
    exact List.mem_range.2 (by omega)
end Go.Proofs.Ytigbfankkmmnbaa
set_option linter.unusedVariables false
set_option linter.unusedSimpArgs false
namespace Go.Proofs.Ytigbfankkmmnbaa
open Go.RowKit Gk

def farI : Int := 2147483647
/-- m is how long a rule's shortest sentence is, or far -/
structure IsMin (c : Cfg) (r : Nat) (m : Int) : Prop where
  nn : 0 ≤ m
  le : m ≤ farI
  lb : ∀ al a x, c.alts[r]? = some al → a ∈ al → Gen c a x → m ≤ x.length
  at_ : m < farI → ∃ al a x, c.alts[r]? = some al ∧ a ∈ al ∧ Gen c a x ∧ (x.length : Int) = m
theorem IsMin.one {c : Cfg} {r : Nat} {m m' : Int} (h : IsMin c r m) (h' : IsMin c r m') : m = m' := by
  have h1 := h.le
  have h2 := h'.le
  by_cases e : m < farI
  · obtain ⟨al, a, x, h3, h4, h5, h6⟩ := h.at_ e
    have h7 := h'.lb al a x h3 h4 h5
    by_cases e' : m' < farI
    · obtain ⟨al', a', x', h3', h4', h5', h6'⟩ := h'.at_ e'
      have h7' := h.lb al' a' x' h3' h4' h5'
      omega
    · omega
  · by_cases e' : m' < farI
    · obtain ⟨al', a', x', h3', h4', h5', h6'⟩ := h'.at_ e'
      have h7' := h.lb al' a' x' h3' h4' h5'
      omega
    · omega
def ShortOk (c : Cfg) (short : List Int) : Prop := short.length = c.alts.length ∧ ∀ (r : Nat) m, short[r]? = some m → IsMin c r m
theorem ShortOk.one {c : Cfg} {s s' : List Int} (h : ShortOk c s) (h' : ShortOk c s') : s = s' := by
  apply List.ext_getElem?
  intro r
  by_cases hr : r < c.alts.length
  · have h1 : r < s.length := by rw [h.1]; exact hr
    have h2 : r < s'.length := by rw [h'.1]; exact hr
    have e1 := List.getElem?_eq_getElem h1
    have e2 := List.getElem?_eq_getElem h2
    rw [e1, e2, (h.2 r _ e1).one (h'.2 r _ e2)]
  · rw [List.getElem?_eq_none (by rw [h.1]; omega), List.getElem?_eq_none (by rw [h'.1]; omega)]
theorem ShortOk.nn {c : Cfg} {s : List Int} (h : ShortOk c s) : ∀ x ∈ s, 0 ≤ x := fun x hx => by
  obtain ⟨i, hi⟩ := List.mem_iff_getElem?.1 hx
  exact (h.2 i x hi).nn
/-- how much a number adds, by what is known -/
def mor9 (out : List Int) (k : Int) : Int := if k < 0 then (match out[(-1 - k).toNat]? with | some m => m | none => 1) else 1
def sum9 (out : List Int) : List Int → Int
  | [] => 0
  | k :: s => mor9 out k + sum9 out s
def len9 (out : List Int) (s : List Int) : Int := s.foldl (fun n k => min (n + mor9 out k) farI) 0
/-- what is known is so -/
def ShI (c : Cfg) (out : List Int) : Prop := out.length = c.alts.length ∧ ∀ (r : Nat) m, out[r]? = some m → 0 ≤ m ∧ m ≤ farI ∧ (m < farI → ∃ al a x, c.alts[r]? = some al ∧ a ∈ al ∧ Gen c a x ∧ (x.length : Int) = m)
theorem mor9_nn {c : Cfg} {out : List Int} (h : ShI c out) (k : Int) : 0 ≤ mor9 out k ∧ mor9 out k ≤ farI := by
  unfold mor9
  split
  · split
    · rename_i m hm; have := h.2 _ m hm; exact ⟨this.1, this.2.1⟩
    · unfold farI; omega
  · unfold farI; omega
theorem sum9_nn {c : Cfg} {out : List Int} (h : ShI c out) : ∀ s, 0 ≤ sum9 out s := by
  intro s
  induction s with
  | nil => simp [sum9]
  | cons k s ih => have := mor9_nn h k; simp only [sum9]; omega
theorem len9_eq {c : Cfg} {out : List Int} (h : ShI c out) (s : List Int) : len9 out s = min (sum9 out s) farI := by
  have : ∀ (s : List Int) (n : Int), 0 ≤ n → n ≤ farI → s.foldl (fun n k => min (n + mor9 out k) farI) n = min (n + sum9 out s) farI := by
    intro s
    induction s with
    | nil => intro n h0 h1; simp only [List.foldl_nil, sum9]; omega
    | cons k s ih =>
      intro n h0 h1
      have h2 := mor9_nn h k
      have h3 := sum9_nn h s
      rw [List.foldl_cons, ih (min (n + mor9 out k) farI) (by unfold farI at *; omega) (by omega)]
      simp only [sum9]; omega
  have h1 := this s 0 (by omega) (by unfold farI; omega)
  unfold len9; rw [h1]; congr 1; omega
theorem len9_snoc (out s : List Int) (k : Int) : len9 out (s ++ [k]) = min (len9 out s + mor9 out k) farI := by simp [len9, List.foldl_append]
theorem len9_range {c : Cfg} {out : List Int} (h : ShI c out) (s : List Int) : 0 ≤ len9 out s ∧ len9 out s ≤ farI := by
  rw [len9_eq h]; have := sum9_nn h s; unfold farI; omega
/-- a sentence as long as is reckoned -/
theorem sum9_sound {c : Cfg} {out : List Int} (h : ShI c out) : ∀ s : List Int, (∀ k ∈ s, k < 0 → -1 - k < c.alts.length) → sum9 out s < farI → ∃ x, Gen c s x ∧ (x.length : Int) = sum9 out s := by
  intro s
  induction s with
  | nil => intro _ _; exact ⟨[], .nil, rfl⟩
  | cons k s ih =>
    intro hin hlt
    simp only [sum9] at hlt
    have h1 := mor9_nn h k
    have h2 := sum9_nn h s
    obtain ⟨y, hy, hyl⟩ := ih (fun k hk => hin k (by simp [hk])) (by omega)
    by_cases hk : k < 0
    · have hr := hin k (by simp) hk
      have hlt2 : (-1 - k).toNat < out.length := by rw [h.1]; omega
      have e : mor9 out k = out[(-1 - k).toNat] := by unfold mor9; rw [if_pos hk, List.getElem?_eq_getElem hlt2]
      have h3 := h.2 _ _ (List.getElem?_eq_getElem hlt2)
      obtain ⟨al, a, x, e1, e2, e3, e4⟩ := h3.2.2 (by omega)
      refine ⟨x ++ y, .rule hk e1 e2 e3 hy, ?_⟩
      simp only [sum9, List.length_append]; omega
    · have e : mor9 out k = 1 := by unfold mor9; rw [if_neg hk]
      refine ⟨k :: y, .tok (by omega) hy, ?_⟩
      simp only [sum9, List.length_cons]; omega
/-- nothing gets shorter -/
def ShC (c : Cfg) (out : List Int) : Prop := ∀ (r : Nat) m al a, out[r]? = some m → c.alts[r]? = some al → a ∈ al → m ≤ len9 out a
theorem sum9_complete {c : Cfg} {out : List Int} (h : ShI c out) (hc : ShC c out) {s x : List Int} (hg : Gen c s x) : sum9 out s ≤ x.length := by
  induction hg with
  | nil => simp [sum9]
  | @tok k s x h1 _ ih =>
    have e : mor9 out k = 1 := by unfold mor9; rw [if_neg (by omega)]
    simp only [sum9, List.length_cons]; omega
  | @rule k s x y a al h1 h2 h3 _ _ ih1 ih2 =>
    have hlt := (List.getElem?_eq_some_iff.1 h2).1
    have hlt2 : (-1 - k).toNat < out.length := by rw [h.1]; exact hlt
    have e : mor9 out k = out[(-1 - k).toNat] := by unfold mor9; rw [if_pos h1, List.getElem?_eq_getElem hlt2]
    have h4 := hc _ _ al a (List.getElem?_eq_getElem hlt2) h2 h3
    rw [len9_eq h] at h4
    simp only [sum9, List.length_append]; omega
theorem short_ok {c : Cfg} {out : List Int} (h : ShI c out) (hc : ShC c out) : ShortOk c out := by
  refine ⟨h.1, fun r m hm => ⟨(h.2 r m hm).1, (h.2 r m hm).2.1, fun al a x h1 h2 h3 => ?_, (h.2 r m hm).2.2⟩⟩
  have h4 := hc r m al a hm h1 h2
  rw [len9_eq h] at h4
  have := sum9_complete h hc h3
  omega
theorem ShI.set {c : Cfg} {out : List Int} (h : ShI c out) {r : Nat} {al : List (List Int)} {a : List Int} (hal : c.alts[r]? = some al) (ha : a ∈ al) (hin : ∀ k ∈ a, k < 0 → -1 - k < c.alts.length) : ShI c (out.set r (len9 out a)) := by
  refine ⟨by simpa using h.1, fun r' m hm => ?_⟩
  by_cases e : r' = r
  · subst e
    have hlt : r' < out.length := by rw [h.1]; exact (List.getElem?_eq_some_iff.1 hal).1
    rw [List.getElem?_set_self hlt] at hm
    injection hm with hm; subst hm
    have h1 := len9_range h a
    refine ⟨h1.1, h1.2, fun hl => ?_⟩
    rw [len9_eq h] at hl ⊢
    obtain ⟨x, hx, hxl⟩ := sum9_sound h a hin (by omega)
    exact ⟨al, a, x, hal, ha, hx, by omega⟩
  · rw [List.getElem?_set_ne (fun e' => e e'.symm)] at hm
    exact h.2 r' m hm
theorem ShI.start (c : Cfg) : ShI c (List.replicate c.alts.length farI) := by
  refine ⟨by simp, fun r m hm => ?_⟩
  rw [List.getElem?_replicate] at hm
  split at hm
  · injection hm with hm; subst hm; exact ⟨by unfold farI; omega, Int.le_refl _, fun h => absurd h (by omega)⟩
  · cases hm
/-- how much is still to be had -/
def left9 (out : List Int) : Nat := (out.map Int.toNat).sum
theorem left9_set : ∀ (out : List Int) (r : Nat) (m n : Int), out[r]? = some m → 0 ≤ n → n < m → left9 (out.set r n) < left9 out := by
  intro out
  induction out with
  | nil => intro r m n h; simp at h
  | cons a out ih =>
    intro r m n h h0 h1
    cases r with
    | zero => simp at h; subst h; simp [left9]; omega
    | succ r =>
      have := ih r m n (by simpa using h) h0 h1
      simp only [left9, List.set_cons_succ, List.map_cons, List.sum_cons] at this ⊢
      omega
end Go.Proofs.Ytigbfankkmmnbaa
set_option linter.unusedVariables false
set_option linter.unusedSimpArgs false
namespace Go.Proofs.Ytigbfankkmmnbaa
open Go.RowKit Gk

def lg1 : Cfg := ⟨[⟨#[97]⟩, ⟨#[98]⟩], [⟨#[83]⟩], [[[0, -1, 1], []]]⟩
def lg2 : Cfg := ⟨[⟨#[97]⟩, ⟨#[99]⟩], [⟨#[83]⟩, ⟨#[65]⟩], [[[-2, 1]], [[0], []]]⟩
/-- where an alternative stands -/
theorem lg1_at {r : Nat} {al : List (List Int)} {a : List Int} (h : lg1.alts[r]? = some al) (ha : a ∈ al) : r = 0 ∧ (a = [0, -1, 1] ∨ a = []) := by
  match r, h with
  | 0, h => simp [lg1] at h; subst h; simpa using ha
  | r + 1, h => simp [lg1] at h
theorem lg2_at {r : Nat} {al : List (List Int)} {a : List Int} (h : lg2.alts[r]? = some al) (ha : a ∈ al) : (r = 0 ∧ a = [-2, 1]) ∨ (r = 1 ∧ (a = [0] ∨ a = [])) := by
  match r, h with
  | 0, h => simp [lg2] at h; subst h; simpa using ha
  | 1, h => simp [lg2] at h; subst h; simpa using ha
  | r + 2, h => simp [lg2] at h
theorem lg1_ok : CfgOk lg1 := by
  refine ⟨rfl, fun al hal a ha k hk => ?_⟩
  obtain ⟨r, hr⟩ := List.mem_iff_getElem?.1 hal
  obtain ⟨_, rfl | rfl⟩ := lg1_at hr ha
  · simp only [List.mem_cons, List.not_mem_nil, or_false] at hk
    rcases hk with rfl | rfl | rfl
    · exact .inl ⟨by decide, by decide⟩
    · exact .inr ⟨by decide, by decide⟩
    · exact .inl ⟨by decide, by decide⟩
  · simp at hk
theorem lg2_ok : CfgOk lg2 := by
  refine ⟨rfl, fun al hal a ha k hk => ?_⟩
  obtain ⟨r, hr⟩ := List.mem_iff_getElem?.1 hal
  rcases lg2_at hr ha with ⟨_, rfl⟩ | ⟨_, rfl | rfl⟩
  · simp only [List.mem_cons, List.not_mem_nil, or_false] at hk
    rcases hk with rfl | rfl
    · exact .inr ⟨by decide, by decide⟩
    · exact .inl ⟨by decide, by decide⟩
  · simp only [List.mem_cons, List.not_mem_nil, or_false] at hk
    subst hk
    exact .inl ⟨by decide, by decide⟩
  · simp at hk
theorem lg1_small : Small 200 lg1 := by
  refine ⟨by decide, fun al hal => ?_⟩
  simp only [lg1, List.mem_cons, List.not_mem_nil, or_false] at hal
  subst hal
  exact ⟨by decide, fun a ha => by
    simp only [List.mem_cons, List.not_mem_nil, or_false] at ha
    rcases ha with rfl | rfl <;> decide⟩
theorem lg2_small : Small 200 lg2 := by
  refine ⟨by decide, fun al hal => ?_⟩
  simp only [lg2, List.mem_cons, List.not_mem_nil, or_false] at hal
  rcases hal with rfl | rfl
  · exact ⟨by decide, fun a ha => by
      simp only [List.mem_cons, List.not_mem_nil, or_false] at ha
      subst ha; decide⟩
  · exact ⟨by decide, fun a ha => by
      simp only [List.mem_cons, List.not_mem_nil, or_false] at ha
      rcases ha with rfl | rfl <;> decide⟩
theorem lg1_nul : NulOk lg1 [true] := by
  refine ⟨⟨rfl, fun r hr => ?_⟩, fun r al a h ha _ => ?_⟩
  · match r, hr with
    | 0, _ => exact ⟨_, [], rfl, by simp, .nil⟩
    | r + 1, h => simp at h
  · obtain ⟨rfl, _⟩ := lg1_at h ha
    rfl
theorem lg2_nul : NulOk lg2 [false, true] := by
  refine ⟨⟨rfl, fun r hr => ?_⟩, fun r al a h ha hp => ?_⟩
  · match r, hr with
    | 0, h => simp at h
    | 1, _ => exact ⟨_, [], rfl, by simp, .nil⟩
    | r + 2, h => simp at h
  · rcases lg2_at h ha with ⟨rfl, rfl⟩ | ⟨rfl, _⟩
    · exact absurd hp (by decide)
    · rfl
theorem lg2_eps : Gen lg2 [-2] [] := by
  have := Gen.rule (c := lg2) (k := -2) (s := []) (x := []) (y := []) (a := []) (al := [[0], []]) (by decide) rfl (by simp) .nil .nil
  simpa using this
theorem lg1_frsI : FrsI lg1 [[0]] := by
  refine ⟨rfl, fun r l h t ht => ?_⟩
  match r, h with
  | 0, h => simp at h; subst h; simp at ht; subst ht; exact ⟨_, [0, -1, 1], rfl, by simp, .tok (by decide)⟩
  | r + 1, h => simp at h
theorem lg1_frsC : FrsC lg1 [true] [[0]] := fun r al a h ha t ht => by
  obtain ⟨rfl, rfl | rfl⟩ := lg1_at h ha
  · have e : leadL [true] [[0]] [0, -1, 1] = [0] := by decide
    rw [e] at ht; exact ht
  · simp [leadL] at ht
theorem lg2_frsI : FrsI lg2 [[0, 1], [0]] := by
  refine ⟨rfl, fun r l h t ht => ?_⟩
  match r, h with
  | 0, h =>
    simp at h; subst h
    simp at ht
    rcases ht with rfl | rfl
    · exact ⟨_, [-2, 1], rfl, by simp, .rule (by decide) (al := [[0], []]) rfl (a := [0]) (by simp) (.tok (by decide))⟩
    · exact ⟨_, [-2, 1], rfl, by simp, .skip (by decide) lg2_eps (.tok (by decide))⟩
  | 1, h => simp at h; subst h; simp at ht; subst ht; exact ⟨_, [0], rfl, by simp, .tok (by decide)⟩
  | r + 2, h => simp at h
theorem lg2_frsC : FrsC lg2 [false, true] [[0, 1], [0]] := fun r al a h ha t ht => by
  rcases lg2_at h ha with ⟨rfl, rfl⟩ | ⟨rfl, rfl | rfl⟩
  · have e : leadL [false, true] [[0, 1], [0]] [-2, 1] = [0, 1] := by decide
    rw [e] at ht; exact ht
  · have e : leadL [false, true] [[0, 1], [0]] [0] = [0] := by decide
    rw [e] at ht; exact ht
  · simp [leadL] at ht
theorem split3 {p s : List Int} {k a b c : Int} (h : p ++ k :: s = [a, b, c]) : (p = [] ∧ k = a ∧ s = [b, c]) ∨ (p = [a] ∧ k = b ∧ s = [c]) ∨ (p = [a, b] ∧ k = c ∧ s = []) := by
  match p, h with
  | [], h => simp at h; exact .inl ⟨rfl, h.1, h.2⟩
  | [x], h => simp at h; exact .inr (.inl ⟨by rw [h.1], h.2.1, h.2.2⟩)
  | [x, y], h => simp at h; exact .inr (.inr ⟨by rw [h.1, h.2.1], h.2.2.1, h.2.2.2⟩)
  | x :: y :: z :: p, h => have := congrArg List.length h; simp at this
theorem split2 {p s : List Int} {k a b : Int} (h : p ++ k :: s = [a, b]) : (p = [] ∧ k = a ∧ s = [b]) ∨ (p = [a] ∧ k = b ∧ s = []) := by
  match p, h with
  | [], h => simp at h; exact .inl ⟨rfl, h.1, h.2⟩
  | [x], h => simp at h; exact .inr ⟨by rw [h.1], h.2.1, h.2.2⟩
  | x :: y :: p, h => have := congrArg List.length h; simp at this
theorem split1 {p s : List Int} {k a : Int} (h : p ++ k :: s = [a]) : p = [] ∧ k = a ∧ s = [] := by
  match p, h with
  | [], h => simp at h; exact ⟨rfl, h.1, h.2⟩
  | x :: p, h => have := congrArg List.length h; simp at this
theorem lg1_flwI : FlwI lg1 [[1, 2]] := by
  refine ⟨rfl, fun r l h t ht => ?_⟩
  match r, h with
  | 0, h =>
    simp at h; subst h
    simp at ht
    rcases ht with rfl | rfl
    · exact Flw.lead (c := lg1) (r := 0) (al := [[0, -1, 1], []]) (p := [0]) (k := -1) (s := [1]) rfl (by simp) (by decide) (.tok (by decide))
    · exact Flw.start (c := lg1) (by decide)
  | r + 1, h => simp at h
theorem lg1_flwC : FlwC lg1 [true] [[0]] [[1, 2]] := by
  refine ⟨fun _ => by decide, fun r al p k s h ha hk => ?_⟩
  obtain ⟨rfl, e | e⟩ := lg1_at h ha
  · rcases split3 e with ⟨_, rfl, _⟩ | ⟨_, rfl, rfl⟩ | ⟨_, rfl, _⟩
    · omega
    · refine ⟨fun t ht => ?_, fun h => absurd h (by decide)⟩
      have e : leadL [true] [[0]] [1] = [1] := by decide
      rw [e] at ht; simp at ht; subst ht; decide
    · omega
  · simp at e
theorem lg2_flwI : FlwI lg2 [[2], [1]] := by
  refine ⟨rfl, fun r l h t ht => ?_⟩
  match r, h with
  | 0, h => simp at h; subst h; simp at ht; subst ht; exact Flw.start (c := lg2) (by decide)
  | 1, h =>
    simp at h; subst h; simp at ht; subst ht
    exact Flw.lead (c := lg2) (r := 0) (al := [[-2, 1]]) (p := []) (k := -2) (s := [1]) rfl (by simp) (by decide) (.tok (by decide))
  | r + 2, h => simp at h
theorem lg2_flwC : FlwC lg2 [false, true] [[0, 1], [0]] [[2], [1]] := by
  refine ⟨fun _ => by decide, fun r al p k s h ha hk => ?_⟩
  rcases lg2_at h ha with ⟨rfl, e⟩ | ⟨rfl, e | e⟩
  · rcases split2 e with ⟨_, rfl, rfl⟩ | ⟨_, rfl, _⟩
    · refine ⟨fun t ht => ?_, fun h => absurd h (by decide)⟩
      have e : leadL [false, true] [[0, 1], [0]] [1] = [1] := by decide
      rw [e] at ht; simp at ht; subst ht; decide
    · omega
  · obtain ⟨_, rfl, _⟩ := split1 e
    omega
  · simp at e
theorem ris_of {n : Nat} {P : Nat → Int → Prop} {ls : List (List Int)} (h : ls.length = n) (hr : ∀ l ∈ ls, Rising l) (hP : ∀ (r : Nat) l, ls[r]? = some l → ∀ t, t ∈ l ↔ P r t) : RisAll n P ls := ⟨h, fun r x hx => ⟨hr x (List.mem_of_getElem? hx), hP r x hx⟩⟩
theorem lg1_frs : RisAll 1 (Frs lg1) [[0]] := ris_of rfl (by simp [Rising]) fun r l h t => frs_iff lg1_nul lg1_frsI lg1_frsC h t
theorem lg2_frs : RisAll 2 (Frs lg2) [[0, 1], [0]] := ris_of rfl (by simp [Rising]) fun r l h t => frs_iff lg2_nul lg2_frsI lg2_frsC h t
theorem lg1_flw : RisAll 1 (Flw lg1) [[1, 2]] := ris_of rfl (by simp [Rising]) fun r l h t => flw_iff lg1_nul lg1_frsI lg1_frsC lg1_flwI lg1_flwC h t
theorem lg2_flw : RisAll 2 (Flw lg2) [[2], [1]] := ris_of rfl (by simp [Rising]) fun r l h t => flw_iff lg2_nul lg2_frsI lg2_frsC lg2_flwI lg2_flwC h t
theorem lg2_lead {ks : List Int} (hr : Rising ks) (h : ∀ t, t ∈ ks ↔ Ldp lg2 [-2] t) : ks = [0] := by
  refine rising_ext hr (by simp [Rising]) fun t => ?_
  rw [h t, ← lead_iff lg2_nul lg2_frsI lg2_frsC [-2] t]
  have e : leadL [false, true] [[0, 1], [0]] [-2] = [0] := by decide
  rw [e]
theorem lg2_one {s x : List Int} (h : Gen lg2 s x) : (1 : Int) ∈ s → x ≠ [] := by
  induction h with
  | nil => intro h; simp at h
  | tok _ _ _ => intro _ h; cases h
  | @rule k s x y a al h1 _ _ _ _ _ ih =>
    intro h e
    rcases List.mem_cons.1 h with e2 | h
    · omega
    · exact ih h (List.append_eq_nil_iff.1 e).2
theorem lg2_short : ShortOk lg2 [1, 0] := by
  refine ⟨rfl, fun r m hm => ?_⟩
  match r, hm with
  | 0, hm =>
    simp at hm; subst hm
    refine ⟨by omega, by unfold farI; omega, fun al a x h ha hg => ?_, fun _ => ⟨_, [-2, 1], [1], rfl, by simp, ?_, rfl⟩⟩
    · rcases lg2_at h ha with ⟨_, rfl⟩ | ⟨e, _⟩
      · have := lg2_one hg (by simp)
        cases x with
        | nil => exact absurd rfl this
        | cons a x => simp; omega
      · cases e
    · have := lg2_eps.append (t := [1]) (y := [1]) (.tok (by decide) .nil)
      simpa using this
  | 1, hm =>
    simp at hm; subst hm
    exact ⟨by omega, by unfold farI; omega, fun al a x _ _ _ => by omega, fun _ => ⟨_, [], [], rfl, by simp, .nil, rfl⟩⟩
  | r + 2, hm => simp at hm
end Go.Proofs.Ytigbfankkmmnbaa
set_option linter.unusedVariables false
set_option linter.unusedSimpArgs false
namespace Gk
open Go Go.RowKit
section
variable {P : Program} {ops : Array Oper} {Q : Exit → Act → World → Prop}
theorem opv_congr {n : Nat} (h : regOk ops n = true) {a0 : Act} {L : Nat → Bool} {val vals : Nat → Value} {i : Nat} {o : Oper} (hi : ops[i]? = some o) (hd : ∀ e ∈ o.after, Region.binds .any e = true → L e.on = true) (hv : ∀ j, L j = true → val j = vals j) :
    execOp (opv ops a0 val) o = execOp (opv ops a0 vals) o := by
  obtain ⟨h1, h2, h3, h4, h5, h6⟩ := regOk_at h hi
  refine execOp_congr o h5 fun x hx => ?_
  cases x with
  | tmp t =>
    unfold opv
    show (match dstIdx ops t with | some j => val j | none => a0.tmps.getD t undef) = (match dstIdx ops t with | some j => vals j | none => a0.tmps.getD t undef)
    split
    · rename_i j hj
      obtain ⟨e, he, hej, hb⟩ := h4 t j hx hj
      exact hv j (by rw [← hej]; exact hd e he hb)
    · rfl
  | const v => rfl
  | global g => rfl
  | func f => rfl
theorem fillAll_congr {val vals : Nat → Value} (a0 : Act) (h : ∀ j, j < ops.size → val j = vals j) : fillAll ops val a0 = fillAll ops vals a0 := by
  unfold fillAll
  have : ∀ (l : List Nat) (a : Act), (∀ j ∈ l, j < ops.size) → l.foldl (fun a j => a.put (dstOf ops j) (val j)) a = l.foldl (fun a j => a.put (dstOf ops j) (vals j)) a := by
    intro l
    induction l with
    | nil => intro a _; rfl
    | cons x l ih =>
      intro a hl
      simp only [List.foldl_cons]
      rw [h x (hl x (by simp))]
      exact ih _ fun j hj => hl j (by simp [hj])
  exact this _ _ fun j hj => List.mem_range.1 hj
def noGuards (l : List Oper) : Bool := l.all fun o => o.guard.isNone
def lastAll (l : List Oper) (n : Nat) : Bool := match l[n]? with | some o => (List.range n).all fun i => o.after.toList.any fun e => e.on == i && Region.binds .any e | none => false
structure LastI (n : Nat) (vals : Nat → Value) (w1 : World) (K : Value → World → Prop) (L : Nat → Bool) (val : Nat → Value) (w : World) : Prop where
  v : ∀ i, i < n → L i = true → val i = vals i
  pre : L n = false → w = w1
  post : L n = true → K (val n) w
  c : L n = true → ∀ i, i < n → L i = true
theorem guard_none {l : List Oper} (h : noGuards l = true) {i : Nat} {o : Oper} (hi : l[i]? = some o) : o.guard = none := by
  have := List.all_eq_true.1 h o (List.mem_of_getElem? hi)
  simpa using this
theorem wp_region_last {id : Nat} {l : List Oper} (n : Nat) {a0 : Act} {w : World} (hn : l.length = n + 1) (hm : P.follows .mixedOrders = true) (h : regOk l.toArray a0.tmps.size = true) (hng : noGuards l = true) (hlast : lastAll l n = true) (vals : Nat → Value)
    (hp : ∀ i, i < n → ∀ oi, l[i]? = some oi → (execOp (opv l.toArray a0 vals) oi).run P (w.drewN 1) = .ok (.value (vals i)) (w.drewN 1))
    (hl : ∀ oi, l[n]? = some oi → does P ((execOp (opv l.toArray a0 vals) oi).run P (w.drewN 1)) (fun v w' => Q .normal (fillAll l.toArray (upd vals n v) a0) w')) :
    (Code.region id l.toArray true).wp P Q a0 w := by
  refine wp_region_inv hm h (LastI n vals (w.drewN 1) (fun v w' => Q .normal (fillAll l.toArray (upd vals n v) a0) w')) (fun _ => undef) ⟨by simp, fun _ => rfl, by simp, by simp⟩ ?_ ?_
  · intro i hi o ho L val w2 hI hL hd
    have hol : l[i]? = some o := by simpa using ho
    rw [guard_none hng hol]
    rw [if_pos (by rfl)]
    by_cases hin : i < n
    · have hLn : L n = false := by
        rcases hx : L n with _ | _
        · rfl
        · have := hI.c hx i hin; rw [hL] at this; cases this
      have hw := hI.pre hLn
      subst hw
      have hv : ∀ j, L j = true → val j = vals j ∨ n < j := fun j hj => by
        by_cases hjn : j < n
        · exact .inl (hI.v j hjn hj)
        · rcases Nat.lt_or_eq_of_le (Nat.le_of_not_lt hjn) with h | h
          · exact .inr h
          · subst h; rw [hLn] at hj; cases hj
      have hcg : execOp (opv l.toArray a0 val) o = execOp (opv l.toArray a0 vals) o := by
        have : execOp (opv l.toArray a0 val) o = execOp (opv l.toArray a0 vals) o := by
          refine opv_congr (L := fun j => L j && decide (j < n)) h ho (fun e he hb => ?_) (fun j hj => ?_)
          · have hlt := (regOk_at h ho).2.1 e he
            simp [hd e he hb, show e.on < n by omega]
          · simp only [Bool.and_eq_true, decide_eq_true_eq] at hj
            exact hI.v j hj.2 hj.1
        exact this
      rw [hcg]
      refine does_value (hp i hin o hol) ⟨fun j hj hLj => ?_, fun _ => rfl, fun hx => ?_, fun hx => ?_⟩
      · by_cases e : j = i
        · subst e; simp [upd]
        · simp only [up, e, if_false] at hLj; simp [upd, e, hI.v j hj hLj]
      · simp only [up, show n ≠ i by omega, if_false] at hx; rw [hLn] at hx; cases hx
      · simp only [up, show n ≠ i by omega, if_false] at hx; rw [hLn] at hx; cases hx
    · have hil : i < l.length := hi
      have hin : i = n := by omega
      subst hin
      have hall : ∀ j, j < i → L j = true := fun j hj => by
        unfold lastAll at hlast
        rw [hol] at hlast
        have := List.all_eq_true.1 hlast j (List.mem_range.2 hj)
        obtain ⟨e, he, h2⟩ := List.any_eq_true.1 this
        simp at h2
        have := hd e (Array.mem_toList_iff.1 he) h2.2
        rw [h2.1] at this; exact this
      have hw := hI.pre hL
      subst hw
      have hcg : execOp (opv l.toArray a0 val) o = execOp (opv l.toArray a0 vals) o := by
        refine opv_congr (L := fun j => decide (j < i)) h ho (fun e he hb => ?_) (fun j hj => ?_)
        · have hlt := (regOk_at h ho).2.1 e he
          simpa using hlt
        · have hj : j < i := by simpa using hj
          exact hI.v j hj (hall j hj)
      rw [hcg]
      have hK := hl o hol
      generalize hr : (execOp (opv l.toArray a0 vals) o).run P (w.drewN 1) = r at hK
      have hfin : ∀ v w', Q .normal (fillAll l.toArray (upd vals i v) a0) w' → LastI i vals (w.drewN 1) (fun v w' => Q .normal (fillAll l.toArray (upd vals i v) a0) w') (up L i) (upd val i v) w' := fun v w' hq =>
        ⟨fun j hj _ => by simp [upd, show j ≠ i by omega, hI.v j hj (hall j hj)], fun hx => by simp [up] at hx, fun _ => by simpa [upd] using hq, fun _ j hj => by simp [up, hall j hj]⟩
      cases r with
      | ok nx w' =>
        cases nx <;> simp only [does] at hK ⊢
        case value v => exact hfin _ _ hK
        case skip => exact hfin _ _ hK
        case enter f args => exact hK.mono fun e w'' ⟨v, he, hq⟩ => ⟨v, he, hfin _ _ hq⟩
      | halt x w' => cases x <;> simp only [does] at hK
  · intro val w2 hI
    have hnl : n < l.length := by omega
    have := hI.post (by simp [hnl])
    have e : fillAll l.toArray (upd vals n (val n)) a0 = fillAll l.toArray val a0 := fillAll_congr a0 fun j hj => by
      have hj : j < l.length := by simpa using hj
      by_cases e : j = n
      · subst e; simp [upd]
      · simp [upd, e, hI.v j (by omega) (by simp [hj])]
    rw [e] at this; exact this
theorem exec_mapUpdate {ρ : Operand → Value} {o : Oper} {t : TypeId} {x y z : Operand} {vx vy vz : Value} {w w' : World} (ho : o.op = .mapUpdate t x y z) (hx : ρ x = vx) (hy : ρ y = vy) (hz : ρ z = vz) (hr : (Instr.mapUpdate t vx vy vz).run P w = .ok () w') : (execOp ρ o).run P w = .ok .skip w' := by
  unfold execOp
  simp only [ho, hx, hy, hz, Sem.run_bind, Sem.run_pure, Result.andThen_ok, hr]
theorem exec_buildSlice {ρ : Operand → Value} {o : Oper} {t : TypeId} {n : Nat} {ps : Array (Nat × Operand)} {A : Array (Nat × Value)} {v : Value} {w w' : World} (ho : o.op = .buildSlice t n ps) (hA : (ps.map fun (i, x) => (i, ρ x)) = A) (hr : (Instr.buildSlice t n A).run P w = .ok v w') : (execOp ρ o).run P w = .ok (.value v) w' := by
  unfold execOp
  simp only [ho, hA, Sem.run_bind, Sem.run_pure, Result.andThen_ok, hr]
theorem exec_lookup {ρ : Operand → Value} {o : Oper} {t : TypeId} {x y : Operand} {c : Bool} {vx vy v : Value} {w w' : World} (ho : o.op = .lookup t x y c) (hx : ρ x = vx) (hy : ρ y = vy) (hr : (Instr.lookup t vx vy c).run P w = .ok v w') : (execOp ρ o).run P w = .ok (.value v) w' := by
  unfold execOp
  simp only [ho, hx, hy, Sem.run_bind, Sem.run_pure, Result.andThen_ok, hr]
theorem exec_nilCheck {ρ : Operand → Value} {o : Oper} {x : Operand} {a : Addr} {w : World} (ho : o.op = .nilCheck x) (hx : ρ x = .pointer (some a)) : (execOp ρ o).run P w = .ok (.value (.pointer (some a))) w := by
  unfold execOp
  simp only [ho, hx, Sem.run_pure]
theorem exec_fieldAddr {ρ : Operand → Value} {o : Oper} {s : TypeId} {x : Operand} {f : Nat} {vx v : Value} {w w' : World} (ho : o.op = .fieldAddr s x f) (hx : ρ x = vx) (hr : (Instr.fieldAt s vx f).run P w = .ok v w') : (execOp ρ o).run P w = .ok (.value v) w' := by
  unfold execOp
  simp only [ho, hx, Sem.run_bind, Sem.run_pure, Result.andThen_ok, hr]
end
end Gk
set_option linter.unusedVariables false
set_option linter.unusedSimpArgs false
namespace Gk
open Go Go.RowKit
section
variable {P : Program} {Q : Exit → Act → World → Prop}
theorem does_mono {r : Result Next} {K K' : Value → World → Prop} (h : does P r K) (hk : ∀ v w, K v w → K' v w) : does P r K' := by
  cases r with
  | ok nx w' =>
    cases nx <;> simp only [does] at h ⊢
    case value v => exact hk _ _ h
    case skip => exact hk _ _ h
    case enter f args => exact h.mono fun e w'' ⟨v, he, hq⟩ => ⟨v, he, hk _ _ hq⟩
  | halt x w' => cases x <;> simp only [does] at h
theorem wp_region_grow {id : Nat} {l : List Oper} {a0 : Act} {w : World} (hm : P.follows .mixedOrders = true) (h : regOk l.toArray a0.tmps.size = true) (hng : noGuards l = true) (V : Nat → Value → World → Prop)
    (hV : ∀ i v w w', V i v w → Below w.heap.size w w' → V i v w')
    (hstep : ∀ i o, l[i]? = some o → ∀ (val : Nat → Value) (w2 : World), Below w.heap.size w w2 → (∀ j, (∃ e ∈ o.after.toList, e.on = j ∧ Region.binds .any e = true) → V j (val j) w2) → does P ((execOp (opv l.toArray a0 val) o).run P w2) (fun v w' => Below w2.heap.size w2 w' ∧ V i v w'))
    (hend : ∀ (val : Nat → Value) (w2 : World), Below w.heap.size w w2 → (∀ i, i < l.length → V i (val i) w2) → Q .normal (fillAll l.toArray val a0) w2) :
    (Code.region id l.toArray true).wp P Q a0 w := by
  refine wp_region_inv hm h (fun L val w2 => Below w.heap.size w w2 ∧ ∀ i, i < l.length → L i = true → V i (val i) w2) (fun _ => undef) ⟨below_drewN (Below.refl _ _) 1, fun i _ hL => by simp at hL⟩ ?_ ?_
  · intro i hi o ho L val w2 hI hL hd
    have hol : l[i]? = some o := by simpa using ho
    have hil : i < l.length := hi
    rw [guard_none hng hol, if_pos (by rfl)]
    refine does_mono (hstep i o hol val w2 hI.1 fun j hj => ?_) fun v w' hv => ?_
    · obtain ⟨e, he, rfl, hb⟩ := hj
      have hlt := (regOk_at h ho).2.1 e (Array.mem_toList_iff.1 he)
      exact hI.2 _ (by omega) (hd e (Array.mem_toList_iff.1 he) hb)
    · refine ⟨below2 hI.1 hv.1, fun j hj hLj => ?_⟩
      by_cases e : j = i
      · subst e; simpa [upd] using hv.2
      · simp only [up, e, if_false] at hLj
        have := hI.2 j hj hLj
        simpa [upd, e] using hV _ _ _ _ this hv.1
  · intro val w2 hI
    exact hend val w2 hI.1 fun i hi => hI.2 i hi (by simp [hi])
/-- the same, with guards -/
theorem wp_region_growG {id : Nat} {l : List Oper} {a0 : Act} {w : World} (hm : P.follows .mixedOrders = true) (h : regOk l.toArray a0.tmps.size = true) (V : Nat → Value → World → Prop)
    (hV : ∀ i v w w', V i v w → Below w.heap.size w w' → V i v w')
    (hstep : ∀ i o, l[i]? = some o → ∀ (val : Nat → Value) (w2 : World), Below w.heap.size w w2 → (∀ j, (∃ e ∈ o.after.toList, e.on = j ∧ Region.binds .any e = true) → V j (val j) w2) → if guardv val l.toArray o.guard = true then does P ((execOp (opv l.toArray a0 val) o).run P w2) (fun v w' => Below w2.heap.size w2 w' ∧ V i v w') else V i undef w2)
    (hend : ∀ (val : Nat → Value) (w2 : World), Below w.heap.size w w2 → (∀ i, i < l.length → V i (val i) w2) → Q .normal (fillAll l.toArray val a0) w2) :
    (Code.region id l.toArray true).wp P Q a0 w := by
  refine wp_region_inv hm h (fun L val w2 => Below w.heap.size w w2 ∧ ∀ i, i < l.length → L i = true → V i (val i) w2) (fun _ => undef) ⟨below_drewN (Below.refl _ _) 1, fun i _ hL => by simp at hL⟩ ?_ ?_
  · intro i hi o ho L val w2 hI hL hd
    have hol : l[i]? = some o := by simpa using ho
    have hil : i < l.length := hi
    have hs := hstep i o hol val w2 hI.1 fun j hj => by
      obtain ⟨e, he, rfl, hb⟩ := hj
      have hlt := (regOk_at h ho).2.1 e (Array.mem_toList_iff.1 he)
      exact hI.2 _ (by omega) (hd e (Array.mem_toList_iff.1 he) hb)
    split at hs
    · rename_i hg
      rw [if_pos hg]
      refine does_mono hs fun v w' hv => ⟨below2 hI.1 hv.1, fun j hj hLj => ?_⟩
      by_cases e : j = i
      · subst e; simpa [upd] using hv.2
      · simp only [up, e, if_false] at hLj
        have := hI.2 j hj hLj
        simpa [upd, e] using hV _ _ _ _ this hv.1
    · rename_i hg
      rw [if_neg hg]
      refine ⟨hI.1, fun j hj hLj => ?_⟩
      by_cases e : j = i
      · subst e; simpa [upd] using hs
      · simp only [up, e, if_false] at hLj
        have := hI.2 j hj hLj
        simpa [upd, e] using this
  · intro val w2 hI
    exact hend val w2 hI.1 fun i hi => hI.2 i hi (by simp [hi])
theorem exec_box {ρ : Operand → Value} {o : Oper} {t : TypeId} {x : Operand} {v u : Value} {w w' : World} (ho : o.op = .box t x) (hx : ρ x = v) (hr : (Instr.box t v).run P w = .ok u w') : (execOp ρ o).run P w = .ok (.value u) w' := by
  unfold execOp
  simp only [ho, hx, Sem.run_bind, Sem.run_pure, Result.andThen_ok, hr]
theorem exec_makeSlice {ρ : Operand → Value} {o : Oper} {t : TypeId} {x y : Operand} {vx vy u : Value} {w w' : World} (ho : o.op = .makeSlice t x y) (hx : ρ x = vx) (hy : ρ y = vy) (hr : (Instr.makeSlice t vx vy).run P w = .ok u w') : (execOp ρ o).run P w = .ok (.value u) w' := by
  unfold execOp
  simp only [ho, hx, hy, Sem.run_bind, Sem.run_pure, Result.andThen_ok, hr]
theorem exec_len {ρ : Operand → Value} {o : Oper} {x : Operand} {t : TypeId} {v u : Value} {w w' : World} (ho : o.op = .call { callee := .builtin .len, args := #[x], argTypes := #[t] }) (hx : ρ x = v) (hr : (Builtin.len_ #[t] o.type #[v]).run P w = .ok u w') : (execOp ρ o).run P w = .ok (.value u) w' := by
  unfold execOp
  simp only [ho, resolve, invoke, builtin, Sem.run_bind, Sem.run_pure, Result.andThen_ok, List.map_toArray, List.map_cons, List.map_nil, hx, hr]
end
end Gk
