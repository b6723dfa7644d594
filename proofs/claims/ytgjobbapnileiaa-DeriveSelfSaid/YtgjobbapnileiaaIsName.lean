/- IsName: it tells some bool. -/
import Derived.Test.YtgjobbapnileiaaFewA
set_option linter.unusedVariables false
set_option linter.unusedSimpArgs false
namespace Go.Proofs.Ytgjobbapnileiaa
open Go.RowKit Gk
/-- it answers some bool; nothing turns -/
def someBool (w : World) (e : Ending) (w' : World) : Prop := ∃ b, e = .returned (.bool b) ∧ Drawn w w'
theorem someBool.mk {w : World} {b : Bool} : someBool w (.returned (.bool b)) w := ⟨b, rfl, Drawn.refl w⟩
set_option maxHeartbeats 1000000 in
theorem isName_calls (s : ByteArray) (w : World) (hs : s.size ≤ 140737488355328) :
    Calls Try.prog 43 #[.string s] w (someBool w) := by
  have hfin : ∀ b, someBool w (.returned (.bool b)) w := fun b => someBool.mk
  go_enter Try.func43, Try.ntmps43
  by_cases h1 : s.size < 1
  · go_wp2; go_ret; exact hfin _
  by_cases h2 : s.size > 32
  · go_wp2; go_ret; exact hfin _
  go_wp2
  go_loop [3] (fun i => ∃ k : Nat, k ≤ s.size ∧ i = .int .i64 k) (fun i => s.size - (intOf i).toNat)
  case atStart => exact ⟨0, Nat.zero_le _, rfl⟩
  case round =>
    obtain ⟨k, hk, rfl⟩ := hrel
    by_cases hlt : k < s.size
    · go_wp2
      all_goals first
        | (go_ret; exact hfin _)
        | (go_round
           case rel => exact ⟨k + 1, by omega, by go_num⟩
           case measure => simp [intOf]; omega)
    · go_wp2
      go_ret
      exact hfin _
end Go.Proofs.Ytgjobbapnileiaa
