/- live of the sets: the walk (written by gen_live9.py). -/
import Derived.Test.YtigbfankkmmnbaaZ07
import Derived.Test.YtigbfankkmmnbaaZ16
import Derived.Test.YtigbfankkmmnbaaZ19
import Derived.Test.YtigbfankkmmnbaaZ02
set_option linter.unusedVariables false
set_option linter.unusedSimpArgs false
namespace Go.Proofs.Ytigbfankkmmnbaa
open Go.RowKit Gk

theorem slOfBox {α : Type} {T : Ty α} {w : World} {b : Nat} {cs : Array Value} {e : TypeId} {xs : List α} (h : Box w b cs e) (hsz : T.sz = 1) (hl : xs.length ≤ 100000) (hx : ∀ (i : Nat) x, xs[i]? = some x → ∃ u, cs[i]? = some u ∧ T.R w x [u]) : Sl T w (.slice (some ⟨b, 0, none⟩) xs.length xs.length) xs := by
  refine ⟨_, _, rfl, Nat.le_refl _, by simp only [maxLen]; omega, by unfold LB; omega, fun i x hi => ?_⟩
  obtain ⟨u, hu, hr⟩ := hx i x hi
  refine ⟨_, [u], rfl, hr, fun j u' hj => ?_⟩
  match j, hj with
  | 0, hj =>
    simp at hj; subst hj
    rw [hsz, Addr.add_lit]
    simpa using h.cell i hu
theorem litInt {w : World} {b : Nat} {xs : List Int} (h : Box w b (xs.map (Value.int .i64)).toArray 3) (hl : xs.length ≤ 100000) (hi : ∀ x ∈ xs, -100 ≤ x ∧ x ≤ 100) : Sl Ty.int w (.slice (some ⟨b, 0, none⟩) xs.length xs.length) xs :=
  slOfBox h rfl hl fun i x hx => ⟨.int .i64 x, by simp [hx], rfl, by have := hi x (List.mem_of_getElem? hx); unfold Ty.i64; omega⟩
theorem Box.put {W : World} {b : Nat} (h : W.heap.size = b) (cs : Array Value) (t : TypeId) : Box (W.alloc (.cells cs t)) b cs t := by
  subst h; exact Box.new _ _ _
theorem size_put {W : World} {b : Nat} (h : W.heap.size = b) (o : Obj) : (W.alloc o).heap.size = b + 1 := by
  subst h; simp
/-- the two grammars, and all that is old -/
structure LvS (w w' : World) : Prop where
  bx : Box w' (w.heap.size + 1 + 1 + 1 + 1 + 1) #[.slice (some ⟨w.heap.size, 0, none⟩) 2 2, .slice (some ⟨w.heap.size + 1, 0, none⟩) 1 1, .slice (some ⟨w.heap.size + 1 + 1 + 1 + 1, 0, none⟩) 1 1] 25
  bY : Box w' (w.heap.size + 1 + 1 + 1 + 1 + 1 + 1 + 1 + 1 + 1 + 1 + 1 + 1 + 1) #[.slice (some ⟨w.heap.size + 1 + 1 + 1 + 1 + 1 + 1, 0, none⟩) 2 2, .slice (some ⟨w.heap.size + 1 + 1 + 1 + 1 + 1 + 1 + 1, 0, none⟩) 2 2, .slice (some ⟨w.heap.size + 1 + 1 + 1 + 1 + 1 + 1 + 1 + 1 + 1 + 1 + 1 + 1, 0, none⟩) 2 2] 25
  cx : CfgV w' (.agg #[.slice (some ⟨w.heap.size, 0, none⟩) 2 2, .slice (some ⟨w.heap.size + 1, 0, none⟩) 1 1, .slice (some ⟨w.heap.size + 1 + 1 + 1 + 1, 0, none⟩) 1 1]) lg1
  cy : CfgV w' (.agg #[.slice (some ⟨w.heap.size + 1 + 1 + 1 + 1 + 1 + 1, 0, none⟩) 2 2, .slice (some ⟨w.heap.size + 1 + 1 + 1 + 1 + 1 + 1 + 1, 0, none⟩) 2 2, .slice (some ⟨w.heap.size + 1 + 1 + 1 + 1 + 1 + 1 + 1 + 1 + 1 + 1 + 1 + 1, 0, none⟩) 2 2]) lg2
  bl : Below w.heap.size w w'
theorem LvS.below {w w1 w2 : World} (h : LvS w w1) (k : Below w1.heap.size w1 w2) : LvS w w2 := ⟨h.bx.below k, h.bY.below k, h.cx.below k, h.cy.below k, below2 h.bl k⟩
def lvW (w : World) : World := ((((((((((((((w.alloc (.cells #[.string ⟨#[97]⟩, .string ⟨#[98]⟩] 9)).alloc (.cells #[.string ⟨#[83]⟩] 9)).alloc (.cells #[.int .i64 0, .int .i64 (-1), .int .i64 1] 3)).alloc (.cells #[.slice (some ⟨w.heap.size + 1 + 1, 0, none⟩) 3 3, .slice none 0 0] 35)).alloc (.cells #[.slice (some ⟨w.heap.size + 1 + 1 + 1, 0, none⟩) 2 2] 32)).alloc (.cells #[.slice (some ⟨w.heap.size, 0, none⟩) 2 2, .slice (some ⟨w.heap.size + 1, 0, none⟩) 1 1, .slice (some ⟨w.heap.size + 1 + 1 + 1 + 1, 0, none⟩) 1 1] 25)).alloc (.cells #[.string ⟨#[97]⟩, .string ⟨#[99]⟩] 9)).alloc (.cells #[.string ⟨#[83]⟩, .string ⟨#[65]⟩] 9)).alloc (.cells #[.int .i64 (-2), .int .i64 1] 3)).alloc (.cells #[.slice (some ⟨w.heap.size + 1 + 1 + 1 + 1 + 1 + 1 + 1 + 1, 0, none⟩) 2 2] 35)).alloc (.cells #[.int .i64 0] 3)).alloc (.cells #[.slice (some ⟨w.heap.size + 1 + 1 + 1 + 1 + 1 + 1 + 1 + 1 + 1 + 1, 0, none⟩) 1 1, .slice none 0 0] 35)).alloc (.cells #[.slice (some ⟨w.heap.size + 1 + 1 + 1 + 1 + 1 + 1 + 1 + 1 + 1, 0, none⟩) 1 1, .slice (some ⟨w.heap.size + 1 + 1 + 1 + 1 + 1 + 1 + 1 + 1 + 1 + 1 + 1, 0, none⟩) 2 2] 32)).alloc (.cells #[.slice (some ⟨w.heap.size + 1 + 1 + 1 + 1 + 1 + 1, 0, none⟩) 2 2, .slice (some ⟨w.heap.size + 1 + 1 + 1 + 1 + 1 + 1 + 1, 0, none⟩) 2 2, .slice (some ⟨w.heap.size + 1 + 1 + 1 + 1 + 1 + 1 + 1 + 1 + 1 + 1 + 1 + 1, 0, none⟩) 2 2] 25)).alloc (.cells #[.int .i64 (-2)] 3)
set_option maxHeartbeats 4000000 in
theorem lvLaid (w : World) : LvS w (lvW w) ∧ Sl Ty.int (lvW w) (.slice (some ⟨w.heap.size + 1 + 1 + 1 + 1 + 1 + 1 + 1 + 1 + 1 + 1 + 1 + 1 + 1 + 1, 0, none⟩) 1 1) [-2] ∧ w.heap.size ≤ (lvW w).heap.size := by
  unfold lvW
  have s0 : w.heap.size = w.heap.size := rfl
  have b0 : Below w.heap.size w w := Below.refl _ _
  have t0 := Box.put s0 #[.string ⟨#[97]⟩, .string ⟨#[98]⟩] 9
  have s1 := size_put s0 (.cells #[.string ⟨#[97]⟩, .string ⟨#[98]⟩] 9)
  have b1 := b0.alloc (by omega) (.cells #[.string ⟨#[97]⟩, .string ⟨#[98]⟩] 9)
  generalize W1e : w.alloc (.cells #[.string ⟨#[97]⟩, .string ⟨#[98]⟩] 9) = W1 at *
  clear W1e
  have t1 := Box.put s1 #[.string ⟨#[83]⟩] 9
  replace t0 := t0.alloc (.cells #[.string ⟨#[83]⟩] 9)
  have s2 := size_put s1 (.cells #[.string ⟨#[83]⟩] 9)
  have b2 := b1.alloc (by omega) (.cells #[.string ⟨#[83]⟩] 9)
  generalize W2e : W1.alloc (.cells #[.string ⟨#[83]⟩] 9) = W2 at *
  clear W2e
  have t2 := Box.put s2 #[.int .i64 0, .int .i64 (-1), .int .i64 1] 3
  replace t0 := t0.alloc (.cells #[.int .i64 0, .int .i64 (-1), .int .i64 1] 3)
  replace t1 := t1.alloc (.cells #[.int .i64 0, .int .i64 (-1), .int .i64 1] 3)
  have s3 := size_put s2 (.cells #[.int .i64 0, .int .i64 (-1), .int .i64 1] 3)
  have b3 := b2.alloc (by omega) (.cells #[.int .i64 0, .int .i64 (-1), .int .i64 1] 3)
  generalize W3e : W2.alloc (.cells #[.int .i64 0, .int .i64 (-1), .int .i64 1] 3) = W3 at *
  clear W3e
  have t3 := Box.put s3 #[.slice (some ⟨w.heap.size + 1 + 1, 0, none⟩) 3 3, .slice none 0 0] 35
  replace t0 := t0.alloc (.cells #[.slice (some ⟨w.heap.size + 1 + 1, 0, none⟩) 3 3, .slice none 0 0] 35)
  replace t1 := t1.alloc (.cells #[.slice (some ⟨w.heap.size + 1 + 1, 0, none⟩) 3 3, .slice none 0 0] 35)
  replace t2 := t2.alloc (.cells #[.slice (some ⟨w.heap.size + 1 + 1, 0, none⟩) 3 3, .slice none 0 0] 35)
  have s4 := size_put s3 (.cells #[.slice (some ⟨w.heap.size + 1 + 1, 0, none⟩) 3 3, .slice none 0 0] 35)
  have b4 := b3.alloc (by omega) (.cells #[.slice (some ⟨w.heap.size + 1 + 1, 0, none⟩) 3 3, .slice none 0 0] 35)
  generalize W4e : W3.alloc (.cells #[.slice (some ⟨w.heap.size + 1 + 1, 0, none⟩) 3 3, .slice none 0 0] 35) = W4 at *
  clear W4e
  have t4 := Box.put s4 #[.slice (some ⟨w.heap.size + 1 + 1 + 1, 0, none⟩) 2 2] 32
  replace t0 := t0.alloc (.cells #[.slice (some ⟨w.heap.size + 1 + 1 + 1, 0, none⟩) 2 2] 32)
  replace t1 := t1.alloc (.cells #[.slice (some ⟨w.heap.size + 1 + 1 + 1, 0, none⟩) 2 2] 32)
  replace t2 := t2.alloc (.cells #[.slice (some ⟨w.heap.size + 1 + 1 + 1, 0, none⟩) 2 2] 32)
  replace t3 := t3.alloc (.cells #[.slice (some ⟨w.heap.size + 1 + 1 + 1, 0, none⟩) 2 2] 32)
  have s5 := size_put s4 (.cells #[.slice (some ⟨w.heap.size + 1 + 1 + 1, 0, none⟩) 2 2] 32)
  have b5 := b4.alloc (by omega) (.cells #[.slice (some ⟨w.heap.size + 1 + 1 + 1, 0, none⟩) 2 2] 32)
  generalize W5e : W4.alloc (.cells #[.slice (some ⟨w.heap.size + 1 + 1 + 1, 0, none⟩) 2 2] 32) = W5 at *
  clear W5e
  have t5 := Box.put s5 #[.slice (some ⟨w.heap.size, 0, none⟩) 2 2, .slice (some ⟨w.heap.size + 1, 0, none⟩) 1 1, .slice (some ⟨w.heap.size + 1 + 1 + 1 + 1, 0, none⟩) 1 1] 25
  replace t0 := t0.alloc (.cells #[.slice (some ⟨w.heap.size, 0, none⟩) 2 2, .slice (some ⟨w.heap.size + 1, 0, none⟩) 1 1, .slice (some ⟨w.heap.size + 1 + 1 + 1 + 1, 0, none⟩) 1 1] 25)
  replace t1 := t1.alloc (.cells #[.slice (some ⟨w.heap.size, 0, none⟩) 2 2, .slice (some ⟨w.heap.size + 1, 0, none⟩) 1 1, .slice (some ⟨w.heap.size + 1 + 1 + 1 + 1, 0, none⟩) 1 1] 25)
  replace t2 := t2.alloc (.cells #[.slice (some ⟨w.heap.size, 0, none⟩) 2 2, .slice (some ⟨w.heap.size + 1, 0, none⟩) 1 1, .slice (some ⟨w.heap.size + 1 + 1 + 1 + 1, 0, none⟩) 1 1] 25)
  replace t3 := t3.alloc (.cells #[.slice (some ⟨w.heap.size, 0, none⟩) 2 2, .slice (some ⟨w.heap.size + 1, 0, none⟩) 1 1, .slice (some ⟨w.heap.size + 1 + 1 + 1 + 1, 0, none⟩) 1 1] 25)
  replace t4 := t4.alloc (.cells #[.slice (some ⟨w.heap.size, 0, none⟩) 2 2, .slice (some ⟨w.heap.size + 1, 0, none⟩) 1 1, .slice (some ⟨w.heap.size + 1 + 1 + 1 + 1, 0, none⟩) 1 1] 25)
  have s6 := size_put s5 (.cells #[.slice (some ⟨w.heap.size, 0, none⟩) 2 2, .slice (some ⟨w.heap.size + 1, 0, none⟩) 1 1, .slice (some ⟨w.heap.size + 1 + 1 + 1 + 1, 0, none⟩) 1 1] 25)
  have b6 := b5.alloc (by omega) (.cells #[.slice (some ⟨w.heap.size, 0, none⟩) 2 2, .slice (some ⟨w.heap.size + 1, 0, none⟩) 1 1, .slice (some ⟨w.heap.size + 1 + 1 + 1 + 1, 0, none⟩) 1 1] 25)
  generalize W6e : W5.alloc (.cells #[.slice (some ⟨w.heap.size, 0, none⟩) 2 2, .slice (some ⟨w.heap.size + 1, 0, none⟩) 1 1, .slice (some ⟨w.heap.size + 1 + 1 + 1 + 1, 0, none⟩) 1 1] 25) = W6 at *
  clear W6e
  have t6 := Box.put s6 #[.string ⟨#[97]⟩, .string ⟨#[99]⟩] 9
  replace t0 := t0.alloc (.cells #[.string ⟨#[97]⟩, .string ⟨#[99]⟩] 9)
  replace t1 := t1.alloc (.cells #[.string ⟨#[97]⟩, .string ⟨#[99]⟩] 9)
  replace t2 := t2.alloc (.cells #[.string ⟨#[97]⟩, .string ⟨#[99]⟩] 9)
  replace t3 := t3.alloc (.cells #[.string ⟨#[97]⟩, .string ⟨#[99]⟩] 9)
  replace t4 := t4.alloc (.cells #[.string ⟨#[97]⟩, .string ⟨#[99]⟩] 9)
  replace t5 := t5.alloc (.cells #[.string ⟨#[97]⟩, .string ⟨#[99]⟩] 9)
  have s7 := size_put s6 (.cells #[.string ⟨#[97]⟩, .string ⟨#[99]⟩] 9)
  have b7 := b6.alloc (by omega) (.cells #[.string ⟨#[97]⟩, .string ⟨#[99]⟩] 9)
  generalize W7e : W6.alloc (.cells #[.string ⟨#[97]⟩, .string ⟨#[99]⟩] 9) = W7 at *
  clear W7e
  have t7 := Box.put s7 #[.string ⟨#[83]⟩, .string ⟨#[65]⟩] 9
  replace t0 := t0.alloc (.cells #[.string ⟨#[83]⟩, .string ⟨#[65]⟩] 9)
  replace t1 := t1.alloc (.cells #[.string ⟨#[83]⟩, .string ⟨#[65]⟩] 9)
  replace t2 := t2.alloc (.cells #[.string ⟨#[83]⟩, .string ⟨#[65]⟩] 9)
  replace t3 := t3.alloc (.cells #[.string ⟨#[83]⟩, .string ⟨#[65]⟩] 9)
  replace t4 := t4.alloc (.cells #[.string ⟨#[83]⟩, .string ⟨#[65]⟩] 9)
  replace t5 := t5.alloc (.cells #[.string ⟨#[83]⟩, .string ⟨#[65]⟩] 9)
  replace t6 := t6.alloc (.cells #[.string ⟨#[83]⟩, .string ⟨#[65]⟩] 9)
  have s8 := size_put s7 (.cells #[.string ⟨#[83]⟩, .string ⟨#[65]⟩] 9)
  have b8 := b7.alloc (by omega) (.cells #[.string ⟨#[83]⟩, .string ⟨#[65]⟩] 9)
  generalize W8e : W7.alloc (.cells #[.string ⟨#[83]⟩, .string ⟨#[65]⟩] 9) = W8 at *
  clear W8e
  have t8 := Box.put s8 #[.int .i64 (-2), .int .i64 1] 3
  replace t0 := t0.alloc (.cells #[.int .i64 (-2), .int .i64 1] 3)
  replace t1 := t1.alloc (.cells #[.int .i64 (-2), .int .i64 1] 3)
  replace t2 := t2.alloc (.cells #[.int .i64 (-2), .int .i64 1] 3)
  replace t3 := t3.alloc (.cells #[.int .i64 (-2), .int .i64 1] 3)
  replace t4 := t4.alloc (.cells #[.int .i64 (-2), .int .i64 1] 3)
  replace t5 := t5.alloc (.cells #[.int .i64 (-2), .int .i64 1] 3)
  replace t6 := t6.alloc (.cells #[.int .i64 (-2), .int .i64 1] 3)
  replace t7 := t7.alloc (.cells #[.int .i64 (-2), .int .i64 1] 3)
  have s9 := size_put s8 (.cells #[.int .i64 (-2), .int .i64 1] 3)
  have b9 := b8.alloc (by omega) (.cells #[.int .i64 (-2), .int .i64 1] 3)
  generalize W9e : W8.alloc (.cells #[.int .i64 (-2), .int .i64 1] 3) = W9 at *
  clear W9e
  have t9 := Box.put s9 #[.slice (some ⟨w.heap.size + 1 + 1 + 1 + 1 + 1 + 1 + 1 + 1, 0, none⟩) 2 2] 35
  replace t0 := t0.alloc (.cells #[.slice (some ⟨w.heap.size + 1 + 1 + 1 + 1 + 1 + 1 + 1 + 1, 0, none⟩) 2 2] 35)
  replace t1 := t1.alloc (.cells #[.slice (some ⟨w.heap.size + 1 + 1 + 1 + 1 + 1 + 1 + 1 + 1, 0, none⟩) 2 2] 35)
  replace t2 := t2.alloc (.cells #[.slice (some ⟨w.heap.size + 1 + 1 + 1 + 1 + 1 + 1 + 1 + 1, 0, none⟩) 2 2] 35)
  replace t3 := t3.alloc (.cells #[.slice (some ⟨w.heap.size + 1 + 1 + 1 + 1 + 1 + 1 + 1 + 1, 0, none⟩) 2 2] 35)
  replace t4 := t4.alloc (.cells #[.slice (some ⟨w.heap.size + 1 + 1 + 1 + 1 + 1 + 1 + 1 + 1, 0, none⟩) 2 2] 35)
  replace t5 := t5.alloc (.cells #[.slice (some ⟨w.heap.size + 1 + 1 + 1 + 1 + 1 + 1 + 1 + 1, 0, none⟩) 2 2] 35)
  replace t6 := t6.alloc (.cells #[.slice (some ⟨w.heap.size + 1 + 1 + 1 + 1 + 1 + 1 + 1 + 1, 0, none⟩) 2 2] 35)
  replace t7 := t7.alloc (.cells #[.slice (some ⟨w.heap.size + 1 + 1 + 1 + 1 + 1 + 1 + 1 + 1, 0, none⟩) 2 2] 35)
  replace t8 := t8.alloc (.cells #[.slice (some ⟨w.heap.size + 1 + 1 + 1 + 1 + 1 + 1 + 1 + 1, 0, none⟩) 2 2] 35)
  have s10 := size_put s9 (.cells #[.slice (some ⟨w.heap.size + 1 + 1 + 1 + 1 + 1 + 1 + 1 + 1, 0, none⟩) 2 2] 35)
  have b10 := b9.alloc (by omega) (.cells #[.slice (some ⟨w.heap.size + 1 + 1 + 1 + 1 + 1 + 1 + 1 + 1, 0, none⟩) 2 2] 35)
  generalize W10e : W9.alloc (.cells #[.slice (some ⟨w.heap.size + 1 + 1 + 1 + 1 + 1 + 1 + 1 + 1, 0, none⟩) 2 2] 35) = W10 at *
  clear W10e
  have t10 := Box.put s10 #[.int .i64 0] 3
  replace t0 := t0.alloc (.cells #[.int .i64 0] 3)
  replace t1 := t1.alloc (.cells #[.int .i64 0] 3)
  replace t2 := t2.alloc (.cells #[.int .i64 0] 3)
  replace t3 := t3.alloc (.cells #[.int .i64 0] 3)
  replace t4 := t4.alloc (.cells #[.int .i64 0] 3)
  replace t5 := t5.alloc (.cells #[.int .i64 0] 3)
  replace t6 := t6.alloc (.cells #[.int .i64 0] 3)
  replace t7 := t7.alloc (.cells #[.int .i64 0] 3)
  replace t8 := t8.alloc (.cells #[.int .i64 0] 3)
  replace t9 := t9.alloc (.cells #[.int .i64 0] 3)
  have s11 := size_put s10 (.cells #[.int .i64 0] 3)
  have b11 := b10.alloc (by omega) (.cells #[.int .i64 0] 3)
  generalize W11e : W10.alloc (.cells #[.int .i64 0] 3) = W11 at *
  clear W11e
  have t11 := Box.put s11 #[.slice (some ⟨w.heap.size + 1 + 1 + 1 + 1 + 1 + 1 + 1 + 1 + 1 + 1, 0, none⟩) 1 1, .slice none 0 0] 35
  replace t0 := t0.alloc (.cells #[.slice (some ⟨w.heap.size + 1 + 1 + 1 + 1 + 1 + 1 + 1 + 1 + 1 + 1, 0, none⟩) 1 1, .slice none 0 0] 35)
  replace t1 := t1.alloc (.cells #[.slice (some ⟨w.heap.size + 1 + 1 + 1 + 1 + 1 + 1 + 1 + 1 + 1 + 1, 0, none⟩) 1 1, .slice none 0 0] 35)
  replace t2 := t2.alloc (.cells #[.slice (some ⟨w.heap.size + 1 + 1 + 1 + 1 + 1 + 1 + 1 + 1 + 1 + 1, 0, none⟩) 1 1, .slice none 0 0] 35)
  replace t3 := t3.alloc (.cells #[.slice (some ⟨w.heap.size + 1 + 1 + 1 + 1 + 1 + 1 + 1 + 1 + 1 + 1, 0, none⟩) 1 1, .slice none 0 0] 35)
  replace t4 := t4.alloc (.cells #[.slice (some ⟨w.heap.size + 1 + 1 + 1 + 1 + 1 + 1 + 1 + 1 + 1 + 1, 0, none⟩) 1 1, .slice none 0 0] 35)
  replace t5 := t5.alloc (.cells #[.slice (some ⟨w.heap.size + 1 + 1 + 1 + 1 + 1 + 1 + 1 + 1 + 1 + 1, 0, none⟩) 1 1, .slice none 0 0] 35)
  replace t6 := t6.alloc (.cells #[.slice (some ⟨w.heap.size + 1 + 1 + 1 + 1 + 1 + 1 + 1 + 1 + 1 + 1, 0, none⟩) 1 1, .slice none 0 0] 35)
  replace t7 := t7.alloc (.cells #[.slice (some ⟨w.heap.size + 1 + 1 + 1 + 1 + 1 + 1 + 1 + 1 + 1 + 1, 0, none⟩) 1 1, .slice none 0 0] 35)
  replace t8 := t8.alloc (.cells #[.slice (some ⟨w.heap.size + 1 + 1 + 1 + 1 + 1 + 1 + 1 + 1 + 1 + 1, 0, none⟩) 1 1, .slice none 0 0] 35)
  replace t9 := t9.alloc (.cells #[.slice (some ⟨w.heap.size + 1 + 1 + 1 + 1 + 1 + 1 + 1 + 1 + 1 + 1, 0, none⟩) 1 1, .slice none 0 0] 35)
  replace t10 := t10.alloc (.cells #[.slice (some ⟨w.heap.size + 1 + 1 + 1 + 1 + 1 + 1 + 1 + 1 + 1 + 1, 0, none⟩) 1 1, .slice none 0 0] 35)
  have s12 := size_put s11 (.cells #[.slice (some ⟨w.heap.size + 1 + 1 + 1 + 1 + 1 + 1 + 1 + 1 + 1 + 1, 0, none⟩) 1 1, .slice none 0 0] 35)
  have b12 := b11.alloc (by omega) (.cells #[.slice (some ⟨w.heap.size + 1 + 1 + 1 + 1 + 1 + 1 + 1 + 1 + 1 + 1, 0, none⟩) 1 1, .slice none 0 0] 35)
  generalize W12e : W11.alloc (.cells #[.slice (some ⟨w.heap.size + 1 + 1 + 1 + 1 + 1 + 1 + 1 + 1 + 1 + 1, 0, none⟩) 1 1, .slice none 0 0] 35) = W12 at *
  clear W12e
  have t12 := Box.put s12 #[.slice (some ⟨w.heap.size + 1 + 1 + 1 + 1 + 1 + 1 + 1 + 1 + 1, 0, none⟩) 1 1, .slice (some ⟨w.heap.size + 1 + 1 + 1 + 1 + 1 + 1 + 1 + 1 + 1 + 1 + 1, 0, none⟩) 2 2] 32
  replace t0 := t0.alloc (.cells #[.slice (some ⟨w.heap.size + 1 + 1 + 1 + 1 + 1 + 1 + 1 + 1 + 1, 0, none⟩) 1 1, .slice (some ⟨w.heap.size + 1 + 1 + 1 + 1 + 1 + 1 + 1 + 1 + 1 + 1 + 1, 0, none⟩) 2 2] 32)
  replace t1 := t1.alloc (.cells #[.slice (some ⟨w.heap.size + 1 + 1 + 1 + 1 + 1 + 1 + 1 + 1 + 1, 0, none⟩) 1 1, .slice (some ⟨w.heap.size + 1 + 1 + 1 + 1 + 1 + 1 + 1 + 1 + 1 + 1 + 1, 0, none⟩) 2 2] 32)
  replace t2 := t2.alloc (.cells #[.slice (some ⟨w.heap.size + 1 + 1 + 1 + 1 + 1 + 1 + 1 + 1 + 1, 0, none⟩) 1 1, .slice (some ⟨w.heap.size + 1 + 1 + 1 + 1 + 1 + 1 + 1 + 1 + 1 + 1 + 1, 0, none⟩) 2 2] 32)
  replace t3 := t3.alloc (.cells #[.slice (some ⟨w.heap.size + 1 + 1 + 1 + 1 + 1 + 1 + 1 + 1 + 1, 0, none⟩) 1 1, .slice (some ⟨w.heap.size + 1 + 1 + 1 + 1 + 1 + 1 + 1 + 1 + 1 + 1 + 1, 0, none⟩) 2 2] 32)
  replace t4 := t4.alloc (.cells #[.slice (some ⟨w.heap.size + 1 + 1 + 1 + 1 + 1 + 1 + 1 + 1 + 1, 0, none⟩) 1 1, .slice (some ⟨w.heap.size + 1 + 1 + 1 + 1 + 1 + 1 + 1 + 1 + 1 + 1 + 1, 0, none⟩) 2 2] 32)
  replace t5 := t5.alloc (.cells #[.slice (some ⟨w.heap.size + 1 + 1 + 1 + 1 + 1 + 1 + 1 + 1 + 1, 0, none⟩) 1 1, .slice (some ⟨w.heap.size + 1 + 1 + 1 + 1 + 1 + 1 + 1 + 1 + 1 + 1 + 1, 0, none⟩) 2 2] 32)
  replace t6 := t6.alloc (.cells #[.slice (some ⟨w.heap.size + 1 + 1 + 1 + 1 + 1 + 1 + 1 + 1 + 1, 0, none⟩) 1 1, .slice (some ⟨w.heap.size + 1 + 1 + 1 + 1 + 1 + 1 + 1 + 1 + 1 + 1 + 1, 0, none⟩) 2 2] 32)
  replace t7 := t7.alloc (.cells #[.slice (some ⟨w.heap.size + 1 + 1 + 1 + 1 + 1 + 1 + 1 + 1 + 1, 0, none⟩) 1 1, .slice (some ⟨w.heap.size + 1 + 1 + 1 + 1 + 1 + 1 + 1 + 1 + 1 + 1 + 1, 0, none⟩) 2 2] 32)
  replace t8 := t8.alloc (.cells #[.slice (some ⟨w.heap.size + 1 + 1 + 1 + 1 + 1 + 1 + 1 + 1 + 1, 0, none⟩) 1 1, .slice (some ⟨w.heap.size + 1 + 1 + 1 + 1 + 1 + 1 + 1 + 1 + 1 + 1 + 1, 0, none⟩) 2 2] 32)
  replace t9 := t9.alloc (.cells #[.slice (some ⟨w.heap.size + 1 + 1 + 1 + 1 + 1 + 1 + 1 + 1 + 1, 0, none⟩) 1 1, .slice (some ⟨w.heap.size + 1 + 1 + 1 + 1 + 1 + 1 + 1 + 1 + 1 + 1 + 1, 0, none⟩) 2 2] 32)
  replace t10 := t10.alloc (.cells #[.slice (some ⟨w.heap.size + 1 + 1 + 1 + 1 + 1 + 1 + 1 + 1 + 1, 0, none⟩) 1 1, .slice (some ⟨w.heap.size + 1 + 1 + 1 + 1 + 1 + 1 + 1 + 1 + 1 + 1 + 1, 0, none⟩) 2 2] 32)
  replace t11 := t11.alloc (.cells #[.slice (some ⟨w.heap.size + 1 + 1 + 1 + 1 + 1 + 1 + 1 + 1 + 1, 0, none⟩) 1 1, .slice (some ⟨w.heap.size + 1 + 1 + 1 + 1 + 1 + 1 + 1 + 1 + 1 + 1 + 1, 0, none⟩) 2 2] 32)
  have s13 := size_put s12 (.cells #[.slice (some ⟨w.heap.size + 1 + 1 + 1 + 1 + 1 + 1 + 1 + 1 + 1, 0, none⟩) 1 1, .slice (some ⟨w.heap.size + 1 + 1 + 1 + 1 + 1 + 1 + 1 + 1 + 1 + 1 + 1, 0, none⟩) 2 2] 32)
  have b13 := b12.alloc (by omega) (.cells #[.slice (some ⟨w.heap.size + 1 + 1 + 1 + 1 + 1 + 1 + 1 + 1 + 1, 0, none⟩) 1 1, .slice (some ⟨w.heap.size + 1 + 1 + 1 + 1 + 1 + 1 + 1 + 1 + 1 + 1 + 1, 0, none⟩) 2 2] 32)
  generalize W13e : W12.alloc (.cells #[.slice (some ⟨w.heap.size + 1 + 1 + 1 + 1 + 1 + 1 + 1 + 1 + 1, 0, none⟩) 1 1, .slice (some ⟨w.heap.size + 1 + 1 + 1 + 1 + 1 + 1 + 1 + 1 + 1 + 1 + 1, 0, none⟩) 2 2] 32) = W13 at *
  clear W13e
  have t13 := Box.put s13 #[.slice (some ⟨w.heap.size + 1 + 1 + 1 + 1 + 1 + 1, 0, none⟩) 2 2, .slice (some ⟨w.heap.size + 1 + 1 + 1 + 1 + 1 + 1 + 1, 0, none⟩) 2 2, .slice (some ⟨w.heap.size + 1 + 1 + 1 + 1 + 1 + 1 + 1 + 1 + 1 + 1 + 1 + 1, 0, none⟩) 2 2] 25
  replace t0 := t0.alloc (.cells #[.slice (some ⟨w.heap.size + 1 + 1 + 1 + 1 + 1 + 1, 0, none⟩) 2 2, .slice (some ⟨w.heap.size + 1 + 1 + 1 + 1 + 1 + 1 + 1, 0, none⟩) 2 2, .slice (some ⟨w.heap.size + 1 + 1 + 1 + 1 + 1 + 1 + 1 + 1 + 1 + 1 + 1 + 1, 0, none⟩) 2 2] 25)
  replace t1 := t1.alloc (.cells #[.slice (some ⟨w.heap.size + 1 + 1 + 1 + 1 + 1 + 1, 0, none⟩) 2 2, .slice (some ⟨w.heap.size + 1 + 1 + 1 + 1 + 1 + 1 + 1, 0, none⟩) 2 2, .slice (some ⟨w.heap.size + 1 + 1 + 1 + 1 + 1 + 1 + 1 + 1 + 1 + 1 + 1 + 1, 0, none⟩) 2 2] 25)
  replace t2 := t2.alloc (.cells #[.slice (some ⟨w.heap.size + 1 + 1 + 1 + 1 + 1 + 1, 0, none⟩) 2 2, .slice (some ⟨w.heap.size + 1 + 1 + 1 + 1 + 1 + 1 + 1, 0, none⟩) 2 2, .slice (some ⟨w.heap.size + 1 + 1 + 1 + 1 + 1 + 1 + 1 + 1 + 1 + 1 + 1 + 1, 0, none⟩) 2 2] 25)
  replace t3 := t3.alloc (.cells #[.slice (some ⟨w.heap.size + 1 + 1 + 1 + 1 + 1 + 1, 0, none⟩) 2 2, .slice (some ⟨w.heap.size + 1 + 1 + 1 + 1 + 1 + 1 + 1, 0, none⟩) 2 2, .slice (some ⟨w.heap.size + 1 + 1 + 1 + 1 + 1 + 1 + 1 + 1 + 1 + 1 + 1 + 1, 0, none⟩) 2 2] 25)
  replace t4 := t4.alloc (.cells #[.slice (some ⟨w.heap.size + 1 + 1 + 1 + 1 + 1 + 1, 0, none⟩) 2 2, .slice (some ⟨w.heap.size + 1 + 1 + 1 + 1 + 1 + 1 + 1, 0, none⟩) 2 2, .slice (some ⟨w.heap.size + 1 + 1 + 1 + 1 + 1 + 1 + 1 + 1 + 1 + 1 + 1 + 1, 0, none⟩) 2 2] 25)
  replace t5 := t5.alloc (.cells #[.slice (some ⟨w.heap.size + 1 + 1 + 1 + 1 + 1 + 1, 0, none⟩) 2 2, .slice (some ⟨w.heap.size + 1 + 1 + 1 + 1 + 1 + 1 + 1, 0, none⟩) 2 2, .slice (some ⟨w.heap.size + 1 + 1 + 1 + 1 + 1 + 1 + 1 + 1 + 1 + 1 + 1 + 1, 0, none⟩) 2 2] 25)
  replace t6 := t6.alloc (.cells #[.slice (some ⟨w.heap.size + 1 + 1 + 1 + 1 + 1 + 1, 0, none⟩) 2 2, .slice (some ⟨w.heap.size + 1 + 1 + 1 + 1 + 1 + 1 + 1, 0, none⟩) 2 2, .slice (some ⟨w.heap.size + 1 + 1 + 1 + 1 + 1 + 1 + 1 + 1 + 1 + 1 + 1 + 1, 0, none⟩) 2 2] 25)
  replace t7 := t7.alloc (.cells #[.slice (some ⟨w.heap.size + 1 + 1 + 1 + 1 + 1 + 1, 0, none⟩) 2 2, .slice (some ⟨w.heap.size + 1 + 1 + 1 + 1 + 1 + 1 + 1, 0, none⟩) 2 2, .slice (some ⟨w.heap.size + 1 + 1 + 1 + 1 + 1 + 1 + 1 + 1 + 1 + 1 + 1 + 1, 0, none⟩) 2 2] 25)
  replace t8 := t8.alloc (.cells #[.slice (some ⟨w.heap.size + 1 + 1 + 1 + 1 + 1 + 1, 0, none⟩) 2 2, .slice (some ⟨w.heap.size + 1 + 1 + 1 + 1 + 1 + 1 + 1, 0, none⟩) 2 2, .slice (some ⟨w.heap.size + 1 + 1 + 1 + 1 + 1 + 1 + 1 + 1 + 1 + 1 + 1 + 1, 0, none⟩) 2 2] 25)
  replace t9 := t9.alloc (.cells #[.slice (some ⟨w.heap.size + 1 + 1 + 1 + 1 + 1 + 1, 0, none⟩) 2 2, .slice (some ⟨w.heap.size + 1 + 1 + 1 + 1 + 1 + 1 + 1, 0, none⟩) 2 2, .slice (some ⟨w.heap.size + 1 + 1 + 1 + 1 + 1 + 1 + 1 + 1 + 1 + 1 + 1 + 1, 0, none⟩) 2 2] 25)
  replace t10 := t10.alloc (.cells #[.slice (some ⟨w.heap.size + 1 + 1 + 1 + 1 + 1 + 1, 0, none⟩) 2 2, .slice (some ⟨w.heap.size + 1 + 1 + 1 + 1 + 1 + 1 + 1, 0, none⟩) 2 2, .slice (some ⟨w.heap.size + 1 + 1 + 1 + 1 + 1 + 1 + 1 + 1 + 1 + 1 + 1 + 1, 0, none⟩) 2 2] 25)
  replace t11 := t11.alloc (.cells #[.slice (some ⟨w.heap.size + 1 + 1 + 1 + 1 + 1 + 1, 0, none⟩) 2 2, .slice (some ⟨w.heap.size + 1 + 1 + 1 + 1 + 1 + 1 + 1, 0, none⟩) 2 2, .slice (some ⟨w.heap.size + 1 + 1 + 1 + 1 + 1 + 1 + 1 + 1 + 1 + 1 + 1 + 1, 0, none⟩) 2 2] 25)
  replace t12 := t12.alloc (.cells #[.slice (some ⟨w.heap.size + 1 + 1 + 1 + 1 + 1 + 1, 0, none⟩) 2 2, .slice (some ⟨w.heap.size + 1 + 1 + 1 + 1 + 1 + 1 + 1, 0, none⟩) 2 2, .slice (some ⟨w.heap.size + 1 + 1 + 1 + 1 + 1 + 1 + 1 + 1 + 1 + 1 + 1 + 1, 0, none⟩) 2 2] 25)
  have s14 := size_put s13 (.cells #[.slice (some ⟨w.heap.size + 1 + 1 + 1 + 1 + 1 + 1, 0, none⟩) 2 2, .slice (some ⟨w.heap.size + 1 + 1 + 1 + 1 + 1 + 1 + 1, 0, none⟩) 2 2, .slice (some ⟨w.heap.size + 1 + 1 + 1 + 1 + 1 + 1 + 1 + 1 + 1 + 1 + 1 + 1, 0, none⟩) 2 2] 25)
  have b14 := b13.alloc (by omega) (.cells #[.slice (some ⟨w.heap.size + 1 + 1 + 1 + 1 + 1 + 1, 0, none⟩) 2 2, .slice (some ⟨w.heap.size + 1 + 1 + 1 + 1 + 1 + 1 + 1, 0, none⟩) 2 2, .slice (some ⟨w.heap.size + 1 + 1 + 1 + 1 + 1 + 1 + 1 + 1 + 1 + 1 + 1 + 1, 0, none⟩) 2 2] 25)
  generalize W14e : W13.alloc (.cells #[.slice (some ⟨w.heap.size + 1 + 1 + 1 + 1 + 1 + 1, 0, none⟩) 2 2, .slice (some ⟨w.heap.size + 1 + 1 + 1 + 1 + 1 + 1 + 1, 0, none⟩) 2 2, .slice (some ⟨w.heap.size + 1 + 1 + 1 + 1 + 1 + 1 + 1 + 1 + 1 + 1 + 1 + 1, 0, none⟩) 2 2] 25) = W14 at *
  clear W14e
  have t14 := Box.put s14 #[.int .i64 (-2)] 3
  replace t0 := t0.alloc (.cells #[.int .i64 (-2)] 3)
  replace t1 := t1.alloc (.cells #[.int .i64 (-2)] 3)
  replace t2 := t2.alloc (.cells #[.int .i64 (-2)] 3)
  replace t3 := t3.alloc (.cells #[.int .i64 (-2)] 3)
  replace t4 := t4.alloc (.cells #[.int .i64 (-2)] 3)
  replace t5 := t5.alloc (.cells #[.int .i64 (-2)] 3)
  replace t6 := t6.alloc (.cells #[.int .i64 (-2)] 3)
  replace t7 := t7.alloc (.cells #[.int .i64 (-2)] 3)
  replace t8 := t8.alloc (.cells #[.int .i64 (-2)] 3)
  replace t9 := t9.alloc (.cells #[.int .i64 (-2)] 3)
  replace t10 := t10.alloc (.cells #[.int .i64 (-2)] 3)
  replace t11 := t11.alloc (.cells #[.int .i64 (-2)] 3)
  replace t12 := t12.alloc (.cells #[.int .i64 (-2)] 3)
  replace t13 := t13.alloc (.cells #[.int .i64 (-2)] 3)
  have s15 := size_put s14 (.cells #[.int .i64 (-2)] 3)
  have b15 := b14.alloc (by omega) (.cells #[.int .i64 (-2)] 3)
  generalize W15e : W14.alloc (.cells #[.int .i64 (-2)] 3) = W15 at *
  clear W15e
  have i2 : Sl Ty.int W15 (.slice (some ⟨w.heap.size + 1 + 1, 0, none⟩) 3 3) [0, -1, 1] := litInt (xs := [0, -1, 1]) t2 (by decide) (by decide)
  have i3 : Sl (Ty.slice Ty.int) W15 (.slice (some ⟨w.heap.size + 1 + 1 + 1, 0, none⟩) 2 2) [[0, -1, 1], []] := slOfBox (xs := [[0, -1, 1], []]) t3 rfl (by decide) fun i x hx => by
    match i, hx with
    | 0, hx => simp at hx; subst hx; exact ⟨_, rfl, _, rfl, i2⟩
    | 1, hx => simp at hx; subst hx; exact ⟨_, rfl, _, rfl, Sl.nil _ _⟩
  have i4 : Sl rowsT W15 (.slice (some ⟨w.heap.size + 1 + 1 + 1 + 1, 0, none⟩) 1 1) lg1.alts := slOfBox (xs := lg1.alts) t4 rfl (by decide) fun i x hx => by
    match i, hx with
    | 0, hx => simp [lg1] at hx; subst hx; exact ⟨_, rfl, _, rfl, i3⟩
    | i + 1, hx => simp [lg1] at hx
  have i8 : Sl Ty.int W15 (.slice (some ⟨w.heap.size + 1 + 1 + 1 + 1 + 1 + 1 + 1 + 1, 0, none⟩) 2 2) [-2, 1] := litInt (xs := [-2, 1]) t8 (by decide) (by decide)
  have i10 : Sl Ty.int W15 (.slice (some ⟨w.heap.size + 1 + 1 + 1 + 1 + 1 + 1 + 1 + 1 + 1 + 1, 0, none⟩) 1 1) [0] := litInt (xs := [0]) t10 (by decide) (by decide)
  have i9 : Sl (Ty.slice Ty.int) W15 (.slice (some ⟨w.heap.size + 1 + 1 + 1 + 1 + 1 + 1 + 1 + 1 + 1, 0, none⟩) 1 1) [[-2, 1]] := slOfBox (xs := [[-2, 1]]) t9 rfl (by decide) fun i x hx => by
    match i, hx with
    | 0, hx => simp at hx; subst hx; exact ⟨_, rfl, _, rfl, i8⟩
    | i + 1, hx => simp at hx
  have i11 : Sl (Ty.slice Ty.int) W15 (.slice (some ⟨w.heap.size + 1 + 1 + 1 + 1 + 1 + 1 + 1 + 1 + 1 + 1 + 1, 0, none⟩) 2 2) [[0], []] := slOfBox (xs := [[0], []]) t11 rfl (by decide) fun i x hx => by
    match i, hx with
    | 0, hx => simp at hx; subst hx; exact ⟨_, rfl, _, rfl, i10⟩
    | 1, hx => simp at hx; subst hx; exact ⟨_, rfl, _, rfl, Sl.nil _ _⟩
  have i12 : Sl rowsT W15 (.slice (some ⟨w.heap.size + 1 + 1 + 1 + 1 + 1 + 1 + 1 + 1 + 1 + 1 + 1 + 1, 0, none⟩) 2 2) lg2.alts := slOfBox (xs := lg2.alts) t12 rfl (by decide) fun i x hx => by
    match i, hx with
    | 0, hx => simp [lg2] at hx; subst hx; exact ⟨_, rfl, _, rfl, i9⟩
    | 1, hx => simp [lg2] at hx; subst hx; exact ⟨_, rfl, _, rfl, i11⟩
    | i + 2, hx => simp [lg2] at hx
  refine ⟨⟨t5, t13, ⟨_, _, _, rfl, ?_, ?_, i4⟩, ⟨_, _, _, rfl, ?_, ?_, i12⟩, b15⟩, litInt (xs := [-2]) t14 (by decide) (by decide), by omega⟩
  · exact slOfBox (xs := ([⟨#[97]⟩, ⟨#[98]⟩] : List ByteArray)) t0 rfl (by decide) fun i x hx => by
      match i, hx with
      | 0, hx => simp at hx; subst hx; exact ⟨_, rfl, rfl, by show ByteArray.size _ ≤ LB; unfold LB; decide⟩
      | 1, hx => simp at hx; subst hx; exact ⟨_, rfl, rfl, by show ByteArray.size _ ≤ LB; unfold LB; decide⟩
      | i + 2, hx => simp at hx
  · exact slOfBox (xs := ([⟨#[83]⟩] : List ByteArray)) t1 rfl (by decide) fun i x hx => by
      match i, hx with
      | 0, hx => simp at hx; subst hx; exact ⟨_, rfl, rfl, by show ByteArray.size _ ≤ LB; unfold LB; decide⟩
      | i + 1, hx => simp at hx
  · exact slOfBox (xs := ([⟨#[97]⟩, ⟨#[99]⟩] : List ByteArray)) t6 rfl (by decide) fun i x hx => by
      match i, hx with
      | 0, hx => simp at hx; subst hx; exact ⟨_, rfl, rfl, by show ByteArray.size _ ≤ LB; unfold LB; decide⟩
      | 1, hx => simp at hx; subst hx; exact ⟨_, rfl, rfl, by show ByteArray.size _ ≤ LB; unfold LB; decide⟩
      | i + 2, hx => simp at hx
  · exact slOfBox (xs := ([⟨#[83]⟩, ⟨#[65]⟩] : List ByteArray)) t7 rfl (by decide) fun i x hx => by
      match i, hx with
      | 0, hx => simp at hx; subst hx; exact ⟨_, rfl, rfl, by show ByteArray.size _ ≤ LB; unfold LB; decide⟩
      | 1, hx => simp at hx; subst hx; exact ⟨_, rfl, rfl, by show ByteArray.size _ ≤ LB; unfold LB; decide⟩
      | i + 2, hx => simp at hx
/-- a list of lists that is written out -/
theorem lay1 (w : World) (xs : List Int) (hl : xs.length ≤ 100) (hi : ∀ x ∈ xs, -100 ≤ x ∧ x ≤ 100) : Sl (Ty.slice Ty.int) ((w.alloc (.cells (xs.map (Value.int .i64)).toArray 3)).alloc (.cells #[.slice (some ⟨w.heap.size, 0, none⟩) xs.length xs.length] 35)) (.slice (some ⟨w.heap.size + 1, 0, none⟩) 1 1) [xs] ∧ Below w.heap.size w ((w.alloc (.cells (xs.map (Value.int .i64)).toArray 3)).alloc (.cells #[.slice (some ⟨w.heap.size, 0, none⟩) xs.length xs.length] 35)) := by
  have t1 := (Box.new w (xs.map (Value.int .i64)).toArray 3).alloc (.cells #[.slice (some ⟨w.heap.size, 0, none⟩) xs.length xs.length] 35)
  have t2 := Box.put (size_put (W := w) rfl (.cells (xs.map (Value.int .i64)).toArray 3)) #[.slice (some ⟨w.heap.size, 0, none⟩) xs.length xs.length] 35
  have hb : Below w.heap.size w ((w.alloc (.cells (xs.map (Value.int .i64)).toArray 3)).alloc (.cells #[.slice (some ⟨w.heap.size, 0, none⟩) xs.length xs.length] 35)) := ((Below.refl _ _).alloc (Nat.le_refl _) _).alloc (by simp) _
  refine ⟨slOfBox (xs := [xs]) t2 rfl (by simp) fun i x hx => ?_, hb⟩
  match i, hx with
  | 0, hx => simp at hx; subst hx; exact ⟨_, rfl, _, rfl, litInt t1 (by omega) hi⟩
  | i + 1, hx => simp at hx
theorem lay2 (w : World) (xs ys : List Int) (hl : xs.length ≤ 100) (hi : ∀ x ∈ xs, -100 ≤ x ∧ x ≤ 100) (hl' : ys.length ≤ 100) (hi' : ∀ x ∈ ys, -100 ≤ x ∧ x ≤ 100) : Sl (Ty.slice Ty.int) (((w.alloc (.cells (xs.map (Value.int .i64)).toArray 3)).alloc (.cells (ys.map (Value.int .i64)).toArray 3)).alloc (.cells #[.slice (some ⟨w.heap.size, 0, none⟩) xs.length xs.length, .slice (some ⟨w.heap.size + 1, 0, none⟩) ys.length ys.length] 35)) (.slice (some ⟨w.heap.size + 1 + 1, 0, none⟩) 2 2) [xs, ys] ∧ Below w.heap.size w (((w.alloc (.cells (xs.map (Value.int .i64)).toArray 3)).alloc (.cells (ys.map (Value.int .i64)).toArray 3)).alloc (.cells #[.slice (some ⟨w.heap.size, 0, none⟩) xs.length xs.length, .slice (some ⟨w.heap.size + 1, 0, none⟩) ys.length ys.length] 35)) := by
  have s1 := size_put (W := w) rfl (.cells (xs.map (Value.int .i64)).toArray 3)
  have s2 := size_put s1 (.cells (ys.map (Value.int .i64)).toArray 3)
  have t1 := ((Box.new w (xs.map (Value.int .i64)).toArray 3).alloc (.cells (ys.map (Value.int .i64)).toArray 3)).alloc (.cells #[.slice (some ⟨w.heap.size, 0, none⟩) xs.length xs.length, .slice (some ⟨w.heap.size + 1, 0, none⟩) ys.length ys.length] 35)
  have t2 := (Box.put s1 (ys.map (Value.int .i64)).toArray 3).alloc (.cells #[.slice (some ⟨w.heap.size, 0, none⟩) xs.length xs.length, .slice (some ⟨w.heap.size + 1, 0, none⟩) ys.length ys.length] 35)
  have t3 := Box.put s2 #[.slice (some ⟨w.heap.size, 0, none⟩) xs.length xs.length, .slice (some ⟨w.heap.size + 1, 0, none⟩) ys.length ys.length] 35
  have hb : Below w.heap.size w (((w.alloc (.cells (xs.map (Value.int .i64)).toArray 3)).alloc (.cells (ys.map (Value.int .i64)).toArray 3)).alloc (.cells #[.slice (some ⟨w.heap.size, 0, none⟩) xs.length xs.length, .slice (some ⟨w.heap.size + 1, 0, none⟩) ys.length ys.length] 35)) := (((Below.refl _ _).alloc (Nat.le_refl _) _).alloc (by omega) _).alloc (by omega) _
  refine ⟨slOfBox (xs := [xs, ys]) t3 rfl (by simp) fun i x hx => ?_, hb⟩
  match i, hx with
  | 0, hx => simp at hx; subst hx; exact ⟨_, rfl, _, rfl, litInt t1 (by omega) hi⟩
  | 1, hx => simp at hx; subst hx; exact ⟨_, rfl, _, rfl, litInt t2 (by omega) hi'⟩
  | i + 2, hx => simp at hx
theorem layI (w : World) (xs : List Int) (hl : xs.length ≤ 100) (hi : ∀ x ∈ xs, -100 ≤ x ∧ x ≤ 100) : Sl Ty.int (w.alloc (.cells (xs.map (Value.int .i64)).toArray 3)) (.slice (some ⟨w.heap.size, 0, none⟩) xs.length xs.length) xs ∧ Below w.heap.size w (w.alloc (.cells (xs.map (Value.int .i64)).toArray 3)) :=
  ⟨litInt (Box.new w _ _) (by omega) hi, (Below.refl _ _).alloc (Nat.le_refl _) _⟩
theorem layB (w : World) : Sl Ty.bool (w.alloc (.cells #[.bool true] 4)) (.slice (some ⟨w.heap.size, 0, none⟩) 1 1) [true] ∧ Below w.heap.size w (w.alloc (.cells #[.bool true] 4)) :=
  ⟨slBool (out := [true]) (Box.new w _ _) rfl (by decide), (Below.refl _ _).alloc (Nat.le_refl _) _⟩
set_option maxRecDepth 100000 in
set_option maxHeartbeats 8000000 in
theorem live9_calls (w : World) : Calls Try.prog 12 #[] w fun e w' => e = .returned (.bool true) ∧ Below w.heap.size w w' := by
  have h := lvLaid w
  have hl := plead_calls lg2 _ _ [-2] (lvW w) h.1.cy lg2_ok lg2_small h.2.1 (by decide) (by decide)
  have HL := Lib.hid (And.intro hl (And.intro h.1 h.2.2))
  clear h hl
  go_enter Try.func12, Try.ntmps12
  go_wp2_with (first
    | (go_at_call 22; have hz : World := w14; clear hz; refine (sameInts_calls _ _ [1, 0] [1, 0] _ (I14.out.ki (KI.below (layI w14 [1, 0] (by decide) (by decide)).2)).sl (layI w14 [1, 0] (by decide) (by decide)).1).mono ?_; (rw [decide_eq_true rfl]); rintro e w15 ⟨rfl, hD15⟩; have hB15 := below2 (layI w14 [1, 0] (by decide) (by decide)).2 hD15.below; have S15 := Lib.hid (S14.out.below hB15); clear hB15 hD15)
    | (go_at_call 23; have hz : World := w13; clear hz; refine (short_calls lg2 _ w13 S13.out.cy lg2_ok lg2_small (by decide)).mono ?_; rintro e w14 ⟨v14, s14, rfl, hs14, hI14, hB14⟩; obtain rfl := hs14.one lg2_short; obtain ⟨A14, c14, rfl, _, _, _, _⟩ := id hI14.sl; have S14 := Lib.hid (S13.out.below hB14); have I14 := Lib.hid hI14; clear hs14 hI14 hB14)
    | (go_at_call 22; have hz : World := w12; clear hz; refine (sameInts_calls _ _ [0] [0] _ (I12.out.ki (KI.below (layI w12 [0] (by decide) (by decide)).2)).sl (layI w12 [0] (by decide) (by decide)).1).mono ?_; (rw [decide_eq_true rfl]); rintro e w13 ⟨rfl, hD13⟩; have hB13 := below2 (layI w12 [0] (by decide) (by decide)).2 hD13.below; have S13 := Lib.hid (S12.out.below hB13); clear hB13 hD13; have xb130 : w13.cell? ⟨w.heap.size + 1 + 1 + 1 + 1 + 1 + 1 + 1 + 1 + 1 + 1 + 1 + 1 + 1, 0, none⟩ = some (.slice (some ⟨w.heap.size + 1 + 1 + 1 + 1 + 1 + 1, 0, none⟩) 2 2) := S13.out.bY.cell 0 rfl; have xb131 : w13.cell? ⟨w.heap.size + 1 + 1 + 1 + 1 + 1 + 1 + 1 + 1 + 1 + 1 + 1 + 1 + 1, 1, none⟩ = some (.slice (some ⟨w.heap.size + 1 + 1 + 1 + 1 + 1 + 1 + 1, 0, none⟩) 2 2) := S13.out.bY.cell 1 rfl; have xb132 : w13.cell? ⟨w.heap.size + 1 + 1 + 1 + 1 + 1 + 1 + 1 + 1 + 1 + 1 + 1 + 1 + 1, 2, none⟩ = some (.slice (some ⟨w.heap.size + 1 + 1 + 1 + 1 + 1 + 1 + 1 + 1 + 1 + 1 + 1 + 1, 0, none⟩) 2 2) := S13.out.bY.cell 2 rfl)
    | (go_at_call 17; have hz : World := w11; clear hz; refine (sameLists_calls _ _ [[2], [1]] [[2], [1]] _ ((I11.out.2.below (lay2 w11 [2] [1] (by decide) (by decide) (by decide) (by decide)).2).sl (n := 2) rfl (by decide)) (lay2 w11 [2] [1] (by decide) (by decide) (by decide) (by decide)).1).mono ?_; (rw [decide_eq_true rfl]); rintro e w12 ⟨rfl, hD12⟩; have hB12 := below2 (lay2 w11 [2] [1] (by decide) (by decide) (by decide) (by decide)).2 hD12.below; have S12 := Lib.hid (S11.out.below hB12); have I12 := Lib.hid (I11.out.1.ki (KI.below hB12)); clear hB12 hD12)
    | (go_at_call 20; have hz : World := w10; clear hz; refine (pfollow_calls lg2 _ w10 S10.out.cy lg2_ok lg2_small (by decide)).mono ?_; rintro e w11 ⟨O11, l11, rfl, hL11, hr11, hB11, _⟩; obtain rfl := hr11.one lg2_flw; have S11 := Lib.hid (S10.out.below hB11); have I11 := Lib.hid (And.intro (I10.out.ki (KI.below hB11)) hL11); clear hL11 hr11 hB11)
    | (go_at_call 17; have hz : World := w9; clear hz; refine (sameLists_calls _ _ [[0, 1], [0]] [[0, 1], [0]] _ ((I9.out.2.below (lay2 w9 [0, 1] [0] (by decide) (by decide) (by decide) (by decide)).2).sl (n := 2) rfl (by decide)) (lay2 w9 [0, 1] [0] (by decide) (by decide) (by decide) (by decide)).1).mono ?_; (rw [decide_eq_true rfl]); rintro e w10 ⟨rfl, hD10⟩; have hB10 := below2 (lay2 w9 [0, 1] [0] (by decide) (by decide) (by decide) (by decide)).2 hD10.below; have S10 := Lib.hid (S9.out.below hB10); have I10 := Lib.hid (I9.out.1.ki (KI.below hB10)); clear hB10 hD10; have xb100 : w10.cell? ⟨w.heap.size + 1 + 1 + 1 + 1 + 1 + 1 + 1 + 1 + 1 + 1 + 1 + 1 + 1, 0, none⟩ = some (.slice (some ⟨w.heap.size + 1 + 1 + 1 + 1 + 1 + 1, 0, none⟩) 2 2) := S10.out.bY.cell 0 rfl; have xb101 : w10.cell? ⟨w.heap.size + 1 + 1 + 1 + 1 + 1 + 1 + 1 + 1 + 1 + 1 + 1 + 1 + 1, 1, none⟩ = some (.slice (some ⟨w.heap.size + 1 + 1 + 1 + 1 + 1 + 1 + 1, 0, none⟩) 2 2) := S10.out.bY.cell 1 rfl; have xb102 : w10.cell? ⟨w.heap.size + 1 + 1 + 1 + 1 + 1 + 1 + 1 + 1 + 1 + 1 + 1 + 1 + 1, 2, none⟩ = some (.slice (some ⟨w.heap.size + 1 + 1 + 1 + 1 + 1 + 1 + 1 + 1 + 1 + 1 + 1 + 1, 0, none⟩) 2 2) := S10.out.bY.cell 2 rfl)
    | (go_at_call 18; have hz : World := w8; clear hz; refine (pfirst_calls lg2 _ w8 S8.out.cy lg2_ok lg2_small).mono ?_; rintro e w9 ⟨O9, l9, rfl, hL9, hr9, hB9, _⟩; obtain rfl := hr9.one lg2_frs; have S9 := Lib.hid (S8.out.below hB9); have I9 := Lib.hid (And.intro (I8.out.ki (KI.below hB9)) hL9); clear hL9 hr9 hB9)
    | (go_at_call 17; have hz : World := w7; clear hz; refine (sameLists_calls _ _ [[1, 2]] [[1, 2]] _ ((I7.out.2.below (lay1 w7 [1, 2] (by decide) (by decide)).2).sl (n := 1) rfl (by decide)) (lay1 w7 [1, 2] (by decide) (by decide)).1).mono ?_; (rw [decide_eq_true rfl]); rintro e w8 ⟨rfl, hD8⟩; have hB8 := below2 (lay1 w7 [1, 2] (by decide) (by decide)).2 hD8.below; have S8 := Lib.hid (S7.out.below hB8); have I8 := Lib.hid (I7.out.1.ki (KI.below hB8)); clear hB8 hD8; have xb80 : w8.cell? ⟨w.heap.size + 1 + 1 + 1 + 1 + 1 + 1 + 1 + 1 + 1 + 1 + 1 + 1 + 1, 0, none⟩ = some (.slice (some ⟨w.heap.size + 1 + 1 + 1 + 1 + 1 + 1, 0, none⟩) 2 2) := S8.out.bY.cell 0 rfl; have xb81 : w8.cell? ⟨w.heap.size + 1 + 1 + 1 + 1 + 1 + 1 + 1 + 1 + 1 + 1 + 1 + 1 + 1, 1, none⟩ = some (.slice (some ⟨w.heap.size + 1 + 1 + 1 + 1 + 1 + 1 + 1, 0, none⟩) 2 2) := S8.out.bY.cell 1 rfl; have xb82 : w8.cell? ⟨w.heap.size + 1 + 1 + 1 + 1 + 1 + 1 + 1 + 1 + 1 + 1 + 1 + 1 + 1, 2, none⟩ = some (.slice (some ⟨w.heap.size + 1 + 1 + 1 + 1 + 1 + 1 + 1 + 1 + 1 + 1 + 1 + 1, 0, none⟩) 2 2) := S8.out.bY.cell 2 rfl)
    | (go_at_call 20; have hz : World := w6; clear hz; refine (pfollow_calls lg1 _ w6 S6.out.cx lg1_ok lg1_small (by decide)).mono ?_; rintro e w7 ⟨O7, l7, rfl, hL7, hr7, hB7, _⟩; obtain rfl := hr7.one lg1_flw; have S7 := Lib.hid (S6.out.below hB7); have I7 := Lib.hid (And.intro (I6.out.ki (KI.below hB7)) hL7); clear hL7 hr7 hB7)
    | (go_at_call 17; have hz : World := w5; clear hz; refine (sameLists_calls _ _ [[0]] [[0]] _ ((I5.out.2.below (lay1 w5 [0] (by decide) (by decide)).2).sl (n := 1) rfl (by decide)) (lay1 w5 [0] (by decide) (by decide)).1).mono ?_; (rw [decide_eq_true rfl]); rintro e w6 ⟨rfl, hD6⟩; have hB6 := below2 (lay1 w5 [0] (by decide) (by decide)).2 hD6.below; have S6 := Lib.hid (S5.out.below hB6); have I6 := Lib.hid (I5.out.1.ki (KI.below hB6)); clear hB6 hD6; have xa60 : w6.cell? ⟨w.heap.size + 1 + 1 + 1 + 1 + 1, 0, none⟩ = some (.slice (some ⟨w.heap.size, 0, none⟩) 2 2) := S6.out.bx.cell 0 rfl; have xa61 : w6.cell? ⟨w.heap.size + 1 + 1 + 1 + 1 + 1, 1, none⟩ = some (.slice (some ⟨w.heap.size + 1, 0, none⟩) 1 1) := S6.out.bx.cell 1 rfl; have xa62 : w6.cell? ⟨w.heap.size + 1 + 1 + 1 + 1 + 1, 2, none⟩ = some (.slice (some ⟨w.heap.size + 1 + 1 + 1 + 1, 0, none⟩) 1 1) := S6.out.bx.cell 2 rfl)
    | (go_at_call 18; have hz : World := w4; clear hz; refine (pfirst_calls lg1 _ w4 S4.out.cx lg1_ok lg1_small).mono ?_; rintro e w5 ⟨O5, l5, rfl, hL5, hr5, hB5, _⟩; obtain rfl := hr5.one lg1_frs; have S5 := Lib.hid (S4.out.below hB5); have I5 := Lib.hid (And.intro (I4.out.ki (KI.below hB5)) hL5); clear hL5 hr5 hB5)
    | (go_at_call 14; have hz : World := w3; clear hz; refine (sameBools_calls _ _ [true] [true] _ (slBool (out := [true]) (n := 1) (I3.out.2.below (layB w3).2) rfl (by decide)) (layB w3).1).mono ?_; (rw [decide_eq_true rfl]); rintro e w4 ⟨rfl, hD4⟩; have hB4 := below2 (layB w3).2 hD4.below; have S4 := Lib.hid (S3.out.below hB4); have I4 := Lib.hid (I3.out.1.ki (KI.below hB4)); clear hB4 hD4; have xa40 : w4.cell? ⟨w.heap.size + 1 + 1 + 1 + 1 + 1, 0, none⟩ = some (.slice (some ⟨w.heap.size, 0, none⟩) 2 2) := S4.out.bx.cell 0 rfl; have xa41 : w4.cell? ⟨w.heap.size + 1 + 1 + 1 + 1 + 1, 1, none⟩ = some (.slice (some ⟨w.heap.size + 1, 0, none⟩) 1 1) := S4.out.bx.cell 1 rfl; have xa42 : w4.cell? ⟨w.heap.size + 1 + 1 + 1 + 1 + 1, 2, none⟩ = some (.slice (some ⟨w.heap.size + 1 + 1 + 1 + 1, 0, none⟩) 1 1) := S4.out.bx.cell 2 rfl)
    | (go_at_call 15; have hz : World := w2; clear hz; refine (pnull_calls lg1 _ w2 S2.out.cx lg1_ok lg1_small).mono ?_; rintro e w3 ⟨N3, n3, rfl, hN3, hn3, hB3⟩; obtain rfl := hn3.one lg1_nul; have S3 := Lib.hid (S2.out.below hB3); have I3 := Lib.hid (And.intro (I2.out.ki (KI.below hB3)) hN3); clear hN3 hn3 hB3)
    | (go_at_call 26; refine HL.out.1.mono ?_; rintro e w2 ⟨v2, k2, b2, rfl, hI2, hR2, hm2, hb2, hB2⟩; obtain rfl := lg2_lead hR2 hm2; obtain rfl : b2 = true := hb2.2 lg2_eps; obtain ⟨A2, c2, rfl, _, _, _, _⟩ := id hI2.sl; have S2 := Lib.hid (HL.out.2.1.below hB2); have I2 := Lib.hid hI2; clear hI2 hR2 hm2 hb2 hB2; have xa20 : w2.cell? ⟨w.heap.size + 1 + 1 + 1 + 1 + 1, 0, none⟩ = some (.slice (some ⟨w.heap.size, 0, none⟩) 2 2) := S2.out.bx.cell 0 rfl; have xa21 : w2.cell? ⟨w.heap.size + 1 + 1 + 1 + 1 + 1, 1, none⟩ = some (.slice (some ⟨w.heap.size + 1, 0, none⟩) 1 1) := S2.out.bx.cell 1 rfl; have xa22 : w2.cell? ⟨w.heap.size + 1 + 1 + 1 + 1 + 1, 2, none⟩ = some (.slice (some ⟨w.heap.size + 1 + 1 + 1 + 1, 0, none⟩) 1 1) := S2.out.bx.cell 2 rfl))
  go_ret
  exact ⟨rfl, S15.out.bl⟩
end Go.Proofs.Ytigbfankkmmnbaa
