/- For every grammar, all lists of numbers and every rule's number the law DeriveSelf returns true, and each argument reads afterwards as it read before: no condition. -/
import Derived.Test.YtgjobbapnileiaaRead
import Derived.Test.YtgjobbapnileiaaChart
import Derived.Test.YtgjobbapnileiaaSelf
import Derived.WalkKit
import Derived.ProofKit
import Derived.OpenShut
import Derived.ShutString
import Derived.ChangeOld
import Derived.Below
set_option linter.unusedVariables false
set_option linter.unusedSimpArgs false
namespace Go.Proofs.Ytgjobbapnileiaa
open Go.ChangeShapes Go.WideShapes Go.ChangeAt Go.RowKit Gk
theorem lawOwn : ownKnob Try.prog.godebug = none := by kernel_rfl
set_option maxRecDepth 100000 in
theorem deriveSelf_lifted (os : Os) (started : os.Started) (H : Type) (enc : TypeId × Value → H) :
    ReturnsInHanded {} Try.checked os 6 .any (Rows.deriveSelfSpec.pre6 enc Try.prog Try.f6 Rows.deriveSelfRow.domain false) (Rows.deriveSelfSpec.post enc Try.prog Try.f6 false true false false) := by
  refine returnsInHanded_of_change_sized (C := Try.checked) lawOwn started (by kernel_rfl) Try.func6
    (ChangeSpec.witness6 (enc := enc) (C := Try.checked) false ⟨#[], #[.agg #[.slice none 0 0, .slice none 0 0, .slice none 0 0], .slice none 0 0, .slice none 0 0, .int .i64 0], []⟩ 8 (by kernel_rfl) (by kernel_rfl) (by kernel_rfl) (by kernel_rfl)) ?_
  intro W base args ds gs before hval0 hW hcnd hsz0 _
  have hval : ∀ (j : Nat) t v, Try.f6.params[j]? = some t → args[j]? = some v → Value.okWide Try.prog W .any base t v := hval0
  have hW' := hW
  obtain ⟨p, q, hA0, hV, rfl, hfz, hnd⟩ := hW
  have hA : DataW.TrodAll enc Try.prog W 0 (fun _ => true) true Try.f6.params.toList args.toList ds p := hA0
  rw [Try.params6] at hA hval hsz0
  obtain ⟨v0, vs0, d0, ds0, p0, q0, hargs, rfl, rfl, h0, r0⟩ := trodAll_cons hA
  obtain ⟨v1, vs1, d1, ds1, p1, q1, rfl, rfl, rfl, h1, r1⟩ := trodAll_cons r0
  obtain ⟨v2, vs2, d2, ds2, p2, q2, rfl, rfl, rfl, h2, r2⟩ := trodAll_cons r1
  obtain ⟨v3, vs3, d3, ds3, p3, q3, rfl, rfl, rfl, h3, r3⟩ := trodAll_cons r2
  obtain ⟨rfl, rfl, rfl⟩ := trodAll_nil r3
  obtain rfl : args = #[v0, v1, v2, v3] := by cases args; simp_all
  obtain ⟨rfl, rfl⟩ := trodVars_none hV
  have k0 := h0
  have lt0 : ∀ x ∈ p0, x.block < W.heap.size := by obtain ⟨m, hm⟩ := k0; exact DataW.trod_lt m _ _ _ hm
  have z0 : (d0.weights Try.prog 25).all (· ≤ reachBytes) = true := List.all_eq_true.2 fun q hq => List.all_eq_true.1 hsz0 q (DataW.weights_mem_each (j := 0) (t := 25) rfl rfl q hq)
  obtain ⟨c0, w0, t0⟩ := rdCfg (hval 0 25 v0 rfl rfl) h0 z0
  have k1 := h1
  have lt1 : ∀ x ∈ p1, x.block < W.heap.size := by obtain ⟨m, hm⟩ := k1; exact DataW.trod_lt m _ _ _ hm
  have z1 : (d1.weights Try.prog 34).all (· ≤ reachBytes) = true := List.all_eq_true.2 fun q hq => List.all_eq_true.1 hsz0 q (DataW.weights_mem_each (j := 1) (t := 34) rfl rfl q hq)
  obtain ⟨c1, w1⟩ : ∃ y, Sl Ty.int W v1 y := by
    obtain ⟨fuel, hf⟩ := h1
    obtain ⟨A, n, m, rfl⟩ := okWide_slice Try.underlying34 (hval 1 34 v1 rfl rfl)
    obtain ⟨y, u, e, s⟩ := rdInts (by simpa [Value.cells] using hf) z1
    injection e with e
    exact ⟨y, e ▸ s⟩
  have t1 : NilOr v1 := by
    obtain ⟨fuel, hf⟩ := h1
    obtain ⟨A, n, m, rfl⟩ := okWide_slice Try.underlying34 (hval 1 34 v1 rfl rfl)
    exact nilOr_ints (x := (d1, p1)) (by simpa [Value.cells] using hf)
  have k2 := h2
  have lt2 : ∀ x ∈ p2, x.block < W.heap.size := by obtain ⟨m, hm⟩ := k2; exact DataW.trod_lt m _ _ _ hm
  have z2 : (d2.weights Try.prog 34).all (· ≤ reachBytes) = true := List.all_eq_true.2 fun q hq => List.all_eq_true.1 hsz0 q (DataW.weights_mem_each (j := 2) (t := 34) rfl rfl q hq)
  obtain ⟨c2, w2⟩ : ∃ y, Sl Ty.int W v2 y := by
    obtain ⟨fuel, hf⟩ := h2
    obtain ⟨A, n, m, rfl⟩ := okWide_slice Try.underlying34 (hval 2 34 v2 rfl rfl)
    obtain ⟨y, u, e, s⟩ := rdInts (by simpa [Value.cells] using hf) z2
    injection e with e
    exact ⟨y, e ▸ s⟩
  have t2 : NilOr v2 := by
    obtain ⟨fuel, hf⟩ := h2
    obtain ⟨A, n, m, rfl⟩ := okWide_slice Try.underlying34 (hval 2 34 v2 rfl rfl)
    exact nilOr_ints (x := (d2, p2)) (by simpa [Value.cells] using hf)
  obtain ⟨a3, rfl, rfl, rfl, w3⟩ := open_int Try.underlying3 (hval 3 3 v3 rfl rfl) h3
  clear hA0 hval0
  refine (deriveSelf_walk W c0 w0 t0 c1 w1 t1 c2 w2 t2 a3 (ofWf w3)).mono fun e W' ⟨he, bel⟩ => ?_
  subst he
  exact ⟨_, rfl, _, _, _, [], _, [], hW', trodAll_mk1 (shut_bool Try.underlying4 _), (trodAll_cons_mk (Below.trod laidOut (by kernel_rfl) (of_decide_eq_true (by kernel_rfl)) k0 bel lt0) (trodAll_cons_mk (Below.trod laidOut (by kernel_rfl) (of_decide_eq_true (by kernel_rfl)) k1 bel lt1) (trodAll_cons_mk (Below.trod laidOut (by kernel_rfl) (of_decide_eq_true (by kernel_rfl)) k2 bel lt2) (trodAll_cons_mk (shut_int Try.underlying3 w3) trodAll_mk0)))), rfl, bel.frame _, fun h => by cases h⟩
/-- the statement -/
theorem deriveSelf_holds : Rows.DeriveSelfSaid :=
  OpenClaim.holds_of_wide 6 Try.f6 rfl rfl rfl rfl rfl rfl rfl ⟨rfl, rfl, rfl, rfl, rfl⟩ rfl rfl rfl rfl rfl (by kernel_rfl) Try.func6 (by kernel_rfl)
    (of_decide_eq_true (by kernel_rfl)) (by unfold Func.isWrapper; first | (rw [if_pos (by decide +kernel)]; kernel_rfl) | (rw [if_neg (by decide +kernel)]; exact ⟨rfl, rfl⟩))
    (fun os started H enc _ => deriveSelf_lifted os started H enc)
#print axioms deriveSelf_holds
end Go.Proofs.Ytgjobbapnileiaa
