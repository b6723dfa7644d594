/- What comes in is read. -/
import Derived.Test.YtgjobbapnileiaaVal
import Derived.Test.YtgjobbapnileiaaMap
import Derived.Test.YtgjobbapnileiaaRows
import Derived.ProofKit
import Derived.SizedLaws
import Derived.Below
import Derived.ChangeOld
import Derived.Lib.SmallJoins
import Derived.Deep.Slices
set_option linter.unusedVariables false
set_option linter.unusedSimpArgs false
namespace Go.Proofs.Ytgjobbapnileiaa
open Go.RowKit Gk Go.ChangeShapes Go.WideShapes Go.ChangeAt Go.Deep Go.Joins

/-- whatever is read of a type is of a kind -/
def Rd {α : Type} (T : Ty α) (t : TypeId) : Prop :=
  ∀ {H : Type} {enc : TypeId × Value → H} {w : World} {base : Nat} {sp : Nat → Bool} {held : Bool} {fuel : Nat} {v : Value} {x : DataW H × List MemPlace}, DataW.trod enc Try.prog w base sp held fuel t [v] = some x → (x.1.weights Try.prog t).all (· ≤ reachBytes) = true → ∃ y, T.R w y [v]
theorem rdInt : Rd Ty.int 3 := by
  intro H enc w base sp held fuel v x h _
  obtain ⟨n, e, _, hw⟩ := DataW.trod_int Try.underlying3 h
  injection e with e
  subst e
  exact ⟨n, rfl, ofWf hw⟩
theorem rdStr : Rd Ty.str 9 := by
  intro H enc w base sp held fuel v x h hz
  obtain ⟨s, e, rfl, _⟩ := DataW.trod_string Try.underlying9 h
  injection e with e
  subst e
  refine ⟨s, rfl, ?_⟩
  have := List.all_eq_true.1 hz s.data.toList.length (by simp [DataW.weights])
  have h2 := reachBytes_lt
  simp only [decide_eq_true_eq, Array.length_toList] at this
  show s.data.size ≤ LB
  unfold LB; omega
theorem listOf {α : Type} {R : Nat → α → Prop} : ∀ n : Nat, (∀ i, i < n → ∃ y, R i y) → ∃ ys : List α, ys.length = n ∧ ∀ i y, ys[i]? = some y → R i y := by
  intro n
  induction n with
  | zero => intro _; exact ⟨[], rfl, by simp⟩
  | succ n ih =>
    intro h
    obtain ⟨ys, hl, hy⟩ := ih fun i hi => h i (by omega)
    obtain ⟨z, hz⟩ := h n (by omega)
    refine ⟨ys ++ [z], by simp [hl], fun i y hi => ?_⟩
    by_cases hin : i < n
    · rw [List.getElem?_append_left (by omega)] at hi; exact hy i y hi
    · have := (List.getElem?_eq_some_iff.1 hi).1
      simp at this
      have e : i = n := by omega
      subst e
      rw [List.getElem?_append_right (by omega), hl, Nat.sub_self] at hi
      simp at hi; subst hi; exact hz
theorem mem_weightsAll {H : Type} {e : TypeId} : ∀ (ds : List (DataW H)) (d : DataW H), d ∈ ds → ∀ n ∈ d.weights Try.prog e, n ∈ DataW.weightsAll Try.prog e ds := by
  intro ds
  induction ds with
  | nil => intro d h; simp at h
  | cons a ds ih =>
    intro d h n hn
    rw [DataW.weightsAll, List.mem_append]
    rcases List.mem_cons.1 h with rfl | h
    · exact .inl hn
    · exact .inr (ih d h n hn)
theorem rdSlice {α : Type} {T : Ty α} {t e : TypeId} (ht : Try.prog.underlying t = some (.slice e)) (hc : Try.prog.cellsOf e = 1) (hb : 0 < Try.prog.bytesOf e) (hT : T.sz = 1) (h1 : Rd T e) : Rd (Ty.slice T) t := by
  intro H enc w base sp held fuel v x h hz
  rcases open_slice1 ht hc h with ⟨e1, _⟩ | ⟨a, len, cap, m, n, V, D, Pl, e1, _, hl, hm, hmm, rfl, hx⟩
  · injection e1 with e1
    subst e1
    exact ⟨[], _, rfl, Sl.nil _ _⟩
  · injection e1 with e1
    subst e1
    simp only [DataW.weights, ht] at hz
    rw [List.all_cons, Bool.and_eq_true] at hz
    obtain ⟨z1, z2⟩ := hz
    simp only [List.length_map, List.length_range, decide_eq_true_eq] at z1
    have hlen : len ≤ LB := by
      have h2 := reachBytes_lt
      have h3 : len * 1 ≤ (len + (m - len)) * Try.prog.bytesOf e := Nat.mul_le_mul (by omega) hb
      unfold LB; omega
    have hml : len ≤ m := by rw [hmm]; split <;> omega
    obtain ⟨ys, hyl, hy⟩ := listOf (R := fun i y => T.R w y [V i]) len fun i hi => by
      refine h1 (hx i (by omega)).2 (List.all_eq_true.2 fun q hq => List.all_eq_true.1 z2 q ?_)
      rw [List.mem_append]
      exact .inl (mem_weightsAll _ (D i) (List.mem_map.2 ⟨i, List.mem_range.2 hi, rfl⟩) q hq)
    subst hyl
    refine ⟨ys, _, rfl, some a, cap, rfl, hl, hm, hlen, fun i y hi => ?_⟩
    have hlt := (List.getElem?_eq_some_iff.1 hi).1
    refine ⟨a, [V i], rfl, hy i y hi, fun j u hj => ?_⟩
    match j, hj with
    | 0, hj =>
      simp at hj; subst hj
      rw [hT, Nat.mul_one, Nat.add_zero]
      exact (hx i (by omega)).1
theorem rdInts : Rd (Ty.slice Ty.int) 34 := rdSlice Try.underlying34 (by kernel_rfl) (of_decide_eq_true (by kernel_rfl)) rfl rdInt
theorem rdInts2 : Rd rowsT 28 := rdSlice Try.underlying28 (by kernel_rfl) (of_decide_eq_true (by kernel_rfl)) rfl rdInts
theorem rdInts3 : Rd altsT 23 := rdSlice Try.underlying23 (by kernel_rfl) (of_decide_eq_true (by kernel_rfl)) rfl rdInts2
theorem rdStrs : Rd (Ty.slice Ty.str) 22 := rdSlice Try.underlying22 (by kernel_rfl) (of_decide_eq_true (by kernel_rfl)) rfl rdStr
theorem nilOr_of {H : Type} {enc : TypeId × Value → H} {w : World} {base : Nat} {sp : Nat → Bool} {held : Bool} {fuel : Nat} {v : Value} {x : DataW H × List MemPlace} (h : DataW.trod enc Try.prog w base sp held fuel 22 [v] = some x) : v = .slice none 0 0 ∨ ∃ ad n c, v = .slice (some ad) n c := by
  rcases open_slice1 Try.underlying22 (by kernel_rfl) h with ⟨e1, _⟩ | ⟨a, len, cap, m, n, V, D, Pl, e1, _⟩
  · injection e1 with e1; exact .inl e1
  · injection e1 with e1; exact .inr ⟨_, _, _, e1⟩
theorem nilOr_ints {H : Type} {enc : TypeId × Value → H} {w : World} {base : Nat} {sp : Nat → Bool} {held : Bool} {fuel : Nat} {v : Value} {x : DataW H × List MemPlace} (h : DataW.trod enc Try.prog w base sp held fuel 34 [v] = some x) : v = .slice none 0 0 ∨ ∃ ad n c, v = .slice (some ad) n c := by
  rcases open_slice1 Try.underlying34 (by kernel_rfl) h with ⟨e1, _⟩ | ⟨a, len, cap, m, n, V, D, Pl, e1, _⟩
  · injection e1 with e1; exact .inl e1
  · injection e1 with e1; exact .inr ⟨_, _, _, e1⟩
set_option maxRecDepth 100000 in
/-- a grammar -/
theorem rdCfg {H : Type} {enc : TypeId × Value → H} {w : World} {base b0 : Nat} {sp : Nat → Bool} {held : Bool} {r : Reach} {v : Value} {d : DataW H} {ps : List MemPlace} (hv : Value.okWide Try.prog w r b0 25 v) (h : DataW.Trod enc Try.prog w base sp held 25 v d ps) (hz : (d.weights Try.prog 25).all (· ≤ reachBytes) = true) :
    ∃ c : Cfg, CfgV w v c ∧ TokOk v := by
  obtain ⟨v0, v1, v2, y0, y1, y2, n, rfl, rfl, rfl, k0, k1, k2⟩ := open_agg3 Try.underlying25 (by kernel_rfl) (by kernel_rfl) hv h
  simp only [DataW.weights, Try.underlying25] at hz
  have e : ∀ {t0 t1 t2 : TypeId} {d0 d1 d2 : DataW H}, DataW.weightsEach Try.prog [t0, t1, t2] [d0, d1, d2] = d0.weights Try.prog t0 ++ (d1.weights Try.prog t1 ++ d2.weights Try.prog t2) := by
    intros; simp [DataW.weightsEach]
  simp only [List.map_toArray, List.map_cons, List.map_nil, List.map] at hz
  rw [e, List.all_append, List.all_append, Bool.and_eq_true, Bool.and_eq_true] at hz
  obtain ⟨ts, u0, e0, s0⟩ := rdStrs k0 hz.1
  obtain ⟨ns, u1, e1, s1⟩ := rdStrs k1 hz.2.1
  obtain ⟨aas, u2, e2, s2⟩ := rdInts3 k2 hz.2.2
  injection e0 with e0; injection e1 with e1; injection e2 with e2
  subst e0 e1 e2
  exact ⟨⟨ts, ns, aas⟩, ⟨_, _, _, rfl, s0, s1, s2⟩, _, _, _, rfl, nilOr_of k0⟩
end Go.Proofs.Ytgjobbapnileiaa
