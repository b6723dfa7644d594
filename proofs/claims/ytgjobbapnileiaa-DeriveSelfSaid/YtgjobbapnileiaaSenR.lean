/- Sentences: the region that makes the maker. -/
import Derived.Test.YtgjobbapnileiaaSenW
import Derived.Test.YtgjobbapnileiaaReg3
set_option linter.unusedVariables false
set_option linter.unusedSimpArgs false
namespace Go.Proofs.Ytgjobbapnileiaa
open Go.RowKit Gk

/-- a row of slices that is new, all empty -/
def NewRow (w0 w : World) (v : Value) (n : Nat) (t : TypeId) : Prop := ∃ R, v = .slice (some ⟨R, 0, none⟩) n n ∧ Box w R (Array.replicate n (.slice none 0 0)) t ∧ w0.heap.size ≤ R
theorem NewRow.below {w0 w w' : World} {v : Value} {n : Nat} {t : TypeId} (h : NewRow w0 w v n t) (hb : Below w.heap.size w w') : NewRow w0 w' v n t := by
  obtain ⟨R, e, h1, h2⟩ := h; exact ⟨R, e, h1.below hb, h2⟩
/-- what the values of the region's operations are -/
def SenV (w0 : World) (a b d : Value) (c : Cfg) (long : Int) (N : Nat) (i : Nat) (v : Value) (w : World) : Prop :=
  match i with
  | 0 => v = .agg #[a, b, d]
  | 1 => v = .int .i64 long
  | 2 => v = .agg #[a, b, d]
  | 3 => ∃ short, ShortOk c short ∧ IL w v short
  | 4 => v = .pointer (some ⟨N, 2, none⟩)
  | 5 => v = d
  | 6 => v = .int .i64 c.alts.length
  | 7 => NewRow w0 w v c.alts.length 50
  | 8 => ∃ sv rv short, v = .agg #[a, b, d, .int .i64 long, sv, rv] ∧ ShortOk c short ∧ IL w sv short ∧ NewRow w0 w rv c.alts.length 50
  | _ => ∃ X sv rv short, v = .pointer (some ⟨X, 0, none⟩) ∧ w0.heap.size ≤ X ∧ Box w X #[a, b, d, .int .i64 long, sv, rv] 49 ∧ ShortOk c short ∧ IL w sv short ∧ NewRow w0 w rv c.alts.length 50 ∧ (∀ R n m, rv = .slice (some ⟨R, 0, none⟩) n m → R ≠ X)
theorem SenV.below {w0 : World} {a b d : Value} {c : Cfg} {long : Int} {N : Nat} (i : Nat) (v : Value) (w w' : World) (h : SenV w0 a b d c long N i v w) (hb : Below w.heap.size w w') : SenV w0 a b d c long N i v w' := by
  unfold SenV at h ⊢
  split at h
  · exact h
  · exact h
  · exact h
  · obtain ⟨s, h1, h2⟩ := h; exact ⟨s, h1, h2.ki (KI.below hb)⟩
  · exact h
  · exact h
  · exact h
  · exact h.below hb
  · obtain ⟨sv, rv, s, e, h1, h2, h3⟩ := h; exact ⟨sv, rv, s, e, h1, h2.ki (KI.below hb), h3.below hb⟩
  · rename_i n0 n1 n2 n3 n4 n5 n6 n7 n8
    obtain ⟨X, sv, rv, s, e, h0, h1, h2, h3, h4, h5⟩ := h
    exact ⟨X, sv, rv, s, e, h0, h1.below hb, h2, h3.ki (KI.below hb), h4.below hb, h5⟩
theorem infoBag : (Try.prog.info? 50).map (fun i => (i.zero, i.size, i.bytes)) = some (some (.slice none 0 0), 1, 24) := by kernel_rfl
theorem madeNil (n : Nat) : madeCells #[Value.slice none 0 0] (n * 1) = Array.replicate n (.slice none 0 0) := by
  apply Array.ext_getElem?
  intro j
  by_cases hj : j < n
  · simp [madeCells, hj, Nat.mod_one]
  · simp [madeCells, hj]
def shortEnd (c : Cfg) (w : World) (e : Ending) (w' : World) : Prop := ∃ v short, e = .returned v ∧ ShortOk c short ∧ IL w' v short ∧ Below w.heap.size w w'
end Go.Proofs.Ytgjobbapnileiaa
