/- Contracts on grammars by names: long, Check. -/
import Derived.Test.YtgjobbapnileiaaGram
set_option linter.unusedVariables false
set_option linter.unusedSimpArgs false
namespace Go.Proofs.Ytgjobbapnileiaa
open Go.RowKit Gk

set_option maxHeartbeats 2000000 in
theorem long_calls (v : Value) (rs : Rules) (w : World) (h : Sl ruleT w v rs) :
    Calls Try.prog 57 #[.agg #[v]] w (aBool w) := by
  have hfin : ∀ b w', Below w.heap.size w w' → aBool w (.returned (.bool b)) w' := fun b w' h => ⟨b, rfl, h⟩
  obtain ⟨A, c, rfl, hc, hcm, hlb, hr⟩ := h
  unfold LB at hlb
  go_enter Try.func57, Try.ntmps57
  go_wp2
  go_loopw [10] (fun i wr => (∃ j : Nat, j ≤ rs.length ∧ i = .int .i64 j) ∧ Below w.heap.size w wr ∧ Box wr w.heap.size #[.slice A rs.length c] 69) (fun i _ => rs.length - (intOf i).toNat)
  case atStart => exact ⟨⟨0, Nat.zero_le _, rfl⟩, (Below.refl _ _).alloc (Nat.le_refl _) _, Box.new _ _ _⟩
  case round =>
    obtain ⟨⟨j, hj, rfl⟩, hW, hbox⟩ := hrel
    replace hr := hr.below hW
    have hsz := hW.size
    by_cases hlt : j < rs.length
    · obtain ⟨x, hx⟩ := at_lt rs hlt
      obtain ⟨ad, B, c2, rfl, hcell0, hcell1, hx1, g1, g2, g3, g4⟩ := Row.rule hr hx
      clear hx
      have hWa : Below wr.heap.size wr (wr.alloc (.cells #[.string x.1, .slice B x.2.length c2] 95)) := (Below.refl _ _).alloc (Nat.le_refl _) _
      by_cases h0 : (x.2.length : Int) > 30
      · go_wp2
        go_ret
        exact hfin _ _ (below_then hW hsz hWa)
      · obtain ⟨wo, rfl⟩ : ∃ wo : World, wo = wr := ⟨_, rfl⟩
        go_wp2
        go_loopw [21] (fun i wr => (∃ j : Nat, j ≤ x.2.length ∧ i = .int .i64 j) ∧ Below wo.heap.size wo wr) (fun i _ => x.2.length - (intOf i).toNat)
        case atStart => exact ⟨⟨0, Nat.zero_le _, rfl⟩, hWa⟩
        case round =>
          obtain ⟨⟨p, hp, rfl⟩, hW2⟩ := hrel
          have hW3 := below_then hW hsz hW2
          replace g4 := g4.below hW2
          by_cases hlt2 : p < x.2.length
          · obtain ⟨y, hy⟩ := at_lt x.2 hlt2
            obtain ⟨ad2, Y, c3, rfl, hcell2, g5, g6, g7, g8⟩ := g4.slice hy
            clear hy
            by_cases h1 : (y.length : Int) > 30
            · go_wp2
              go_ret
              exact hfin _ _ hW3
            · go_wp2
              go_roundw
              case rel => exact ⟨⟨p + 1, by omega, by go_num⟩, hW2⟩
              case measure => simp [intOf]; omega
          · go_wp2
            go_roundw
            case rel => exact ⟨⟨j + 1, by omega, by go_num⟩, hW3, hbox.below hW2⟩
            case measure => simp [intOf]; omega
    · have hb0 := hbox.cell 0 (v := .slice A rs.length c) rfl
      go_wp2
      go_ret
      exact hfin _ _ hW

theorem check_calls (v : Value) (rs : Rules) (w : World) (h : Sl ruleT w v rs) :
    Calls Try.prog 42 #[.agg #[v]] w (aNum (fun r => 0 ≤ r ∧ r ≤ 2 ∧ (r = 0 → 0 < rs.length)) w) := by
  have h0 := h
  obtain ⟨A, c, rfl, hc, hcm, hlb, hr⟩ := h
  have hWa : Below w.heap.size w (w.alloc (.cells #[.slice A rs.length c] 69)) := (Below.refl _ _).alloc (Nat.le_refl _) _
  have hbox := Box.new w #[.slice A rs.length c] 69
  go_enter Try.func42, Try.ntmps42
  go_wp2_with (first
    | (go_at_call 56; refine (may_calls _ rs _ (h0.below hWa)).mono ?_; rintro e w1 ⟨b, rfl, hb, hbt⟩; have HBT : Hid (b = true → 0 < rs.length) := hbt; clear hbt; have hcell := (hbox.below hb).cell 0 (v := .slice A rs.length c) rfl; cases b)
    | (go_at_call 57; refine (long_calls _ rs _ ((h0.below hWa).below hb)).mono ?_; rintro e w2 ⟨b, rfl, hb2⟩; cases b))
  · go_ret
    exact ⟨_, rfl, ⟨by omega, by omega, fun h => by omega⟩, below2 hWa hb⟩
  all_goals (go_ret; exact ⟨_, rfl, ⟨by omega, by omega, fun _ => HBT (by first | rfl | trivial)⟩, below2 (below2 hWa hb) hb2⟩)
end Go.Proofs.Ytgjobbapnileiaa
