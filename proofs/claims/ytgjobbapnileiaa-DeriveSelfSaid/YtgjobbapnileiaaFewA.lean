/- Contracts of the reference's small functions on names: has, place, IsName, SameNames. -/
import Derived.Test.YtgjobbapnileiaaProg
import Derived.Test.YtgjobbapnileiaaTy
import Derived.Deep.QuietTactic
import Derived.BigQuiet
import Derived.KernelRfl
set_option linter.unusedVariables false
set_option linter.unusedSimpArgs false
namespace Go.Proofs.Ytgjobbapnileiaa
open Go.RowKit Gk

theorem getD_of {α : Type} {xs : List α} {k : Nat} {x : α} (h : xs[k]? = some x) (d : α) : xs.getD k d = x := by simp [List.getD, h]
theorem at_lt {α : Type} (xs : List α) {k : Nat} (h : k < xs.length) : ∃ x, xs[k]? = some x := ⟨xs[k], List.getElem?_eq_getElem h⟩
theorem take_next {α : Type} {xs : List α} {k : Nat} {x : α} (h : xs[k]? = some x) : xs.take (k + 1) = xs.take k ++ [x] := by rw [List.take_add_one, h]; rfl

set_option maxHeartbeats 400000 in
theorem has_calls (v : Value) (xs : List ByteArray) (s : ByteArray) (w : World) (h : Sl Ty.str w v xs) :
    Calls Try.prog 44 #[v, .string s] w fun e w' => e = .returned (.bool (dec (s ∈ xs))) ∧ w = w' := by
  obtain ⟨A, c, rfl, hc, hcm, hlb, hr⟩ := h
  unfold LB at hlb
  go_enter Try.func44, Try.ntmps44
  go_wp2
  go_loop [9] (fun i => ∃ k : Nat, k ≤ xs.length ∧ i = .int .i64 k ∧ Hid (s ∉ xs.take k)) (fun i => xs.length - (intOf i).toNat)
  case atStart => exact ⟨0, Nat.zero_le _, rfl, by simp [Hid]⟩
  case round =>
    obtain ⟨k, hk, rfl, hH⟩ := hrel
    by_cases hlt : k < xs.length
    · obtain ⟨x, hx⟩ := at_lt xs hlt
      obtain ⟨ad, rfl, hxs, hcell⟩ := hr.str hx
      have HX := Lib.hid hx; clear hx
      by_cases he : x = s
      · have hb := str_eq he
        have HE := Lib.hid he; clear he
        go_wp2
        go_ret
        exact ⟨ret_bool (dec_true (by rw [← HE.out]; exact List.mem_of_getElem? HX.out)), rfl⟩
      · have hb := str_ne he
        have HE := Lib.hid he; clear he
        go_wp2
        go_round
        case rel => exact ⟨k + 1, by omega, by go_num, by
          unfold Hid at *; rw [take_next HX]; simp only [List.mem_append, List.mem_singleton, not_or]; exact ⟨hH, fun e => HE e.symm⟩⟩
        case measure => simp [intOf]; omega
    · have hH2 := Lib.hid hH; clear hH
      go_wp2
      go_ret
      exact ⟨ret_bool (dec_false (by have := hH2.out.out; rwa [List.take_of_length_le (by omega)] at this)), rfl⟩

/-- where a name stands: -1, or a place of the list -/
def PlaceIs (xs : List ByteArray) (s : ByteArray) (r : Int) : Prop := (r = -1 ∧ s ∉ xs) ∨ ∃ k : Nat, r = k ∧ xs[k]? = some s ∧ s ∉ xs.take k
def placeEnd (xs : List ByteArray) (s : ByteArray) (w : World) (e : Ending) (w' : World) : Prop := ∃ r, e = .returned (.int .i64 r) ∧ PlaceIs xs s r ∧ w = w'
set_option maxHeartbeats 400000 in
theorem place_calls (v : Value) (xs : List ByteArray) (s : ByteArray) (w : World) (h : Sl Ty.str w v xs) :
    Calls Try.prog 47 #[v, .string s] w (placeEnd xs s w) := by
  obtain ⟨A, c, rfl, hc, hcm, hlb, hr⟩ := h
  unfold LB at hlb
  go_enter Try.func47, Try.ntmps47
  go_wp2
  go_loop [9] (fun i => ∃ k : Nat, k ≤ xs.length ∧ i = .int .i64 k ∧ Hid (s ∉ xs.take k)) (fun i => xs.length - (intOf i).toNat)
  case atStart => exact ⟨0, Nat.zero_le _, rfl, by simp [Hid]⟩
  case round =>
    obtain ⟨k, hk, rfl, hH⟩ := hrel
    by_cases hlt : k < xs.length
    · obtain ⟨x, hx⟩ := at_lt xs hlt
      obtain ⟨ad, rfl, hxs, hcell⟩ := hr.str hx
      have HX := Lib.hid hx; clear hx
      by_cases he : x = s
      · have hb := str_eq he
        have HE := Lib.hid he; clear he
        go_wp2
        go_ret
        exact ⟨_, rfl, .inr ⟨k, rfl, by rw [← HE.out]; exact HX.out, hH⟩, rfl⟩
      · have hb := str_ne he
        have HE := Lib.hid he; clear he
        go_wp2
        go_round
        case rel => exact ⟨k + 1, by omega, by go_num, by
          unfold Hid at *; rw [take_next HX]; simp only [List.mem_append, List.mem_singleton, not_or]; exact ⟨hH, fun e => HE e.symm⟩⟩
        case measure => simp [intOf]; omega
    · have hH2 := Lib.hid hH; clear hH
      go_wp2
      go_ret
      exact ⟨_, rfl, .inl ⟨rfl, by have := hH2.out.out; rwa [List.take_of_length_le (by omega)] at this⟩, rfl⟩

end Go.Proofs.Ytgjobbapnileiaa
