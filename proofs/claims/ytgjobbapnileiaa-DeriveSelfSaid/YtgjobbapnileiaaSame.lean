/- Contracts of the reference's comparisons of lists: SameInts, SameNames, SameLists. -/
import Derived.Test.YtgjobbapnileiaaFewA
set_option linter.unusedVariables false
set_option linter.unusedSimpArgs false
namespace Go.Proofs.Ytgjobbapnileiaa
open Go.RowKit Gk

theorem take_same {α : Type} {xs ys : List α} {k : Nat} {x : α} (hx : xs[k]? = some x) (hy : ys[k]? = some x) (h : xs.take k = ys.take k) : xs.take (k + 1) = ys.take (k + 1) := by
  rw [take_next hx, take_next hy, h]
theorem ne_at {α : Type} {xs ys : List α} {k : Nat} {x y : α} (hx : xs[k]? = some x) (hy : ys[k]? = some y) (h : x ≠ y) : xs ≠ ys := by
  rintro rfl; rw [hx] at hy; exact h (Option.some.inj hy)
theorem eq_all {α : Type} {xs ys : List α} (hl : xs.length = ys.length) {k : Nat} (hk : ¬ k < xs.length) (h : xs.take k = ys.take k) : xs = ys := by
  rwa [List.take_of_length_le (by omega), List.take_of_length_le (by omega)] at h

set_option maxHeartbeats 400000 in
theorem sameInts_calls (v u : Value) (xs ys : List Int) (w : World) (h : Sl Ty.int w v xs) (h' : Sl Ty.int w u ys) :
    Calls Try.prog 13 #[v, u] w fun e w' => e = .returned (.bool (decide (xs = ys))) ∧ Drawn w w' := by
  obtain ⟨A, c, rfl, hc, hcm, hlb, hr⟩ := h
  obtain ⟨B, d, rfl, hd, hdm, hlb', hs⟩ := h'
  unfold LB at hlb hlb'
  by_cases hl : xs.length = ys.length
  · obtain ⟨q1, q2, q3, q4⟩ := cmp_eq hl
    have HL := Lib.hid hl; clear hl
    go_enter Try.func13, Try.ntmps13
    go_wp2
    go_loopw [13] (fun i w' => (∃ k : Nat, k ≤ xs.length ∧ i = .int .i64 k ∧ Hid (xs.take k = ys.take k)) ∧ Drawn w w') (fun i _ => xs.length - (intOf i).toNat)
    case atStart => exact ⟨⟨0, Nat.zero_le _, rfl, by simp [Hid]⟩, Drawn.refl _⟩
    case round =>
      obtain ⟨⟨k, hk, rfl, hH⟩, hD⟩ := hrel
      replace hr := hr.below hD.below
      replace hs := hs.below hD.below
      have hL := HL.out
      by_cases hlt : k < xs.length
      · have hlt2 : k < ys.length := by omega
        obtain ⟨x, hx⟩ := at_lt xs hlt
        obtain ⟨y, hy⟩ := at_lt ys hlt2
        obtain ⟨ad, rfl, hxs, hcell⟩ := hr.int hx
        obtain ⟨bd, rfl, hys, hcell2⟩ := hs.int hy
        have HX := Lib.hid hx; clear hx
        have HY := Lib.hid hy; clear hy
        clear hL
        by_cases he : x = y
        · obtain ⟨hb, hb2⟩ := icmp_eq he
          have HE := Lib.hid he; clear he
          go_wp2
          go_quiet (fail)
          go_wp2
          go_roundw
          case rel => exact ⟨⟨k + 1, by omega, by go_num, by
            have e := HE.out; subst e
            exact take_same HX.out HY.out hH⟩, hD.more _⟩
          case measure => simp [intOf]; omega
        · obtain ⟨hb, hb2⟩ := icmp_ne he
          have HE := Lib.hid he; clear he
          go_wp2
          go_quiet (fail)
          go_wp2
          go_ret
          exact ⟨ret_bool (decide_eq_false (ne_at HX.out HY.out HE.out)), hD.more _⟩
      · have hH2 := Lib.hid hH; clear hH hL
        go_wp2
        go_ret
        exact ⟨ret_bool (decide_eq_true (eq_all HL.out hlt hH2.out)), hD⟩
  · obtain ⟨q1, q2, q3, q4⟩ := cmp_ne hl
    have HL := Lib.hid hl; clear hl
    go_enter Try.func13, Try.ntmps13
    go_wp2
    go_ret
    exact ⟨ret_bool (decide_eq_false fun e => HL.out (by rw [e])), Drawn.refl _⟩

set_option maxHeartbeats 400000 in
theorem sameNames_calls (v u : Value) (xs ys : List ByteArray) (w : World) (h : Sl Ty.str w v xs) (h' : Sl Ty.str w u ys) :
    Calls Try.prog 48 #[v, u] w fun e w' => e = .returned (.bool (dec (xs = ys))) ∧ Drawn w w' := by
  obtain ⟨A, c, rfl, hc, hcm, hlb, hr⟩ := h
  obtain ⟨B, d, rfl, hd, hdm, hlb', hs⟩ := h'
  unfold LB at hlb hlb'
  by_cases hl : xs.length = ys.length
  · obtain ⟨q1, q2, q3, q4⟩ := cmp_eq hl
    have HL := Lib.hid hl; clear hl
    go_enter Try.func48, Try.ntmps48
    go_wp2
    go_loopw [13] (fun i w' => (∃ k : Nat, k ≤ xs.length ∧ i = .int .i64 k ∧ Hid (xs.take k = ys.take k)) ∧ Drawn w w') (fun i _ => xs.length - (intOf i).toNat)
    case atStart => exact ⟨⟨0, Nat.zero_le _, rfl, by simp [Hid]⟩, Drawn.refl _⟩
    case round =>
      obtain ⟨⟨k, hk, rfl, hH⟩, hD⟩ := hrel
      replace hr := hr.below hD.below
      replace hs := hs.below hD.below
      have hL := HL.out
      by_cases hlt : k < xs.length
      · have hlt2 : k < ys.length := by omega
        obtain ⟨x, hx⟩ := at_lt xs hlt
        obtain ⟨y, hy⟩ := at_lt ys hlt2
        obtain ⟨ad, rfl, hxs, hcell⟩ := hr.str hx
        obtain ⟨bd, rfl, hys, hcell2⟩ := hs.str hy
        have HX := Lib.hid hx; clear hx
        have HY := Lib.hid hy; clear hy
        clear hL
        by_cases he : x = y
        · have hb := str_eq he
          have HE := Lib.hid he; clear he
          go_wp2
          go_quiet (fail)
          go_wp2
          go_roundw
          case rel => exact ⟨⟨k + 1, by omega, by go_num, by
            have e := HE.out; subst e
            exact take_same HX.out HY.out hH⟩, hD.more _⟩
          case measure => simp [intOf]; omega
        · have hb := str_ne he
          have HE := Lib.hid he; clear he
          go_wp2
          go_quiet (fail)
          go_wp2
          go_ret
          exact ⟨ret_bool (dec_false (ne_at HX.out HY.out HE.out)), hD.more _⟩
      · have hH2 := Lib.hid hH; clear hH hL
        go_wp2
        go_ret
        exact ⟨ret_bool (dec_true (eq_all HL.out hlt hH2.out)), hD⟩
  · obtain ⟨q1, q2, q3, q4⟩ := cmp_ne hl
    have HL := Lib.hid hl; clear hl
    go_enter Try.func48, Try.ntmps48
    go_wp2
    go_ret
    exact ⟨ret_bool (dec_false fun e => HL.out (by rw [e])), Drawn.refl _⟩

set_option maxHeartbeats 400000 in
theorem sameLists_calls (v u : Value) (xs ys : List (List Int)) (w : World) (h : Sl (Ty.slice Ty.int) w v xs) (h' : Sl (Ty.slice Ty.int) w u ys) :
    Calls Try.prog 11 #[v, u] w fun e w' => e = .returned (.bool (decide (xs = ys))) ∧ Drawn w w' := by
  obtain ⟨A, c, rfl, hc, hcm, hlb, hr⟩ := h
  obtain ⟨B, d, rfl, hd, hdm, hlb', hs⟩ := h'
  unfold LB at hlb hlb'
  by_cases hl : xs.length = ys.length
  · obtain ⟨q1, q2, q3, q4⟩ := cmp_eq hl
    have HL := Lib.hid hl; clear hl
    go_enter Try.func11, Try.ntmps11
    go_wp2
    go_loopw [13] (fun i w' => (∃ k : Nat, k ≤ xs.length ∧ i = .int .i64 k ∧ Hid (xs.take k = ys.take k)) ∧ Drawn w w') (fun i _ => xs.length - (intOf i).toNat)
    case atStart => exact ⟨⟨0, Nat.zero_le _, rfl, by simp [Hid]⟩, Drawn.refl _⟩
    case round =>
      obtain ⟨⟨k, hk, rfl, hH⟩, hD⟩ := hrel
      replace hr := hr.below hD.below
      replace hs := hs.below hD.below
      have hL := HL.out
      by_cases hlt : k < xs.length
      · have hlt2 : k < ys.length := by omega
        obtain ⟨x, hx⟩ := at_lt xs hlt
        obtain ⟨y, hy⟩ := at_lt ys hlt2
        obtain ⟨ad, X, p, rfl, hcell, g1, g2, g3, g4⟩ := hr.slice hx
        obtain ⟨bd, Y, q, rfl, hcell2, g5, g6, g7, g8⟩ := hs.slice hy
        have HX := Lib.hid hx; clear hx
        have HY := Lib.hid hy; clear hy
        have hcall : ∀ n, Calls Try.prog 13 #[.slice X x.length p, .slice Y y.length q] (wr.drewN n) fun e w' => e = .returned (.bool (decide (x = y))) ∧ Drawn (wr.drewN n) w' :=
          fun n => sameInts_calls _ _ x y _ (Sl.drewN ⟨X, p, rfl, g1, g2, g3, g4⟩ n) (Sl.drewN ⟨Y, q, rfl, g5, g6, g7, g8⟩ n)
        clear hL
        by_cases he : x = y
        · have hb : decide (x = y) = true := by simpa using he
          have HE := Lib.hid he; clear he
          rw [hb] at hcall
          go_wp2
          go_quiet ((go_at_call 13; exact Calls.quiet (hcall _)))
          go_wp2
          go_roundw
          case rel => exact ⟨⟨k + 1, by omega, by go_num, by
            have e := HE.out; subst e
            exact take_same HX.out HY.out hH⟩, hD.more _⟩
          case measure => simp [intOf]; omega
        · have hb : decide (x = y) = false := by simpa using he
          have HE := Lib.hid he; clear he
          rw [hb] at hcall
          go_wp2
          go_quiet ((go_at_call 13; exact Calls.quiet (hcall _)))
          go_wp2
          go_ret
          exact ⟨ret_bool (decide_eq_false (ne_at HX.out HY.out HE.out)), hD.more _⟩
      · have hH2 := Lib.hid hH; clear hH hL
        go_wp2
        go_ret
        exact ⟨ret_bool (decide_eq_true (eq_all HL.out hlt hH2.out)), hD⟩
  · obtain ⟨q1, q2, q3, q4⟩ := cmp_ne hl
    have HL := Lib.hid hl; clear hl
    go_enter Try.func11, Try.ntmps11
    go_wp2
    go_ret
    exact ⟨ret_bool (decide_eq_false fun e => HL.out (by rw [e])), Drawn.refl _⟩
end Go.Proofs.Ytgjobbapnileiaa
