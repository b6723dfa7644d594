/- cmp.Compare, cmp.Or, slices.Compare, order: the walks. -/
import Derived.Test.YtgjobbapnileiaaOrdM
import Derived.Test.YtgjobbapnileiaaNum
set_option linter.unusedVariables false
set_option linter.unusedSimpArgs false
namespace Go.Proofs.Ytgjobbapnileiaa
open Go.RowKit Gk

theorem ordP_cmpI (a b : List Int) : ordP a b = if cmpI a.length b.length = 0 then cmpL a b else cmpI a.length b.length := by
  unfold ordP cmpI
  by_cases h1 : a.length < b.length
  · rw [if_pos h1, if_pos (show (a.length : Int) < b.length by omega)]; rfl
  · by_cases h2 : b.length < a.length
    · rw [if_neg h1, if_pos h2, if_neg (show ¬ (a.length : Int) < b.length by omega), if_pos (show (b.length : Int) < a.length by omega)]; rfl
    · rw [if_neg h1, if_neg h2, if_neg (show ¬ (a.length : Int) < b.length by omega), if_neg (show ¬ (b.length : Int) < a.length by omega)]; rfl
theorem nan_calls (a : Int) (w : World) : Calls Try.prog 63 #[.int .i64 a] w fun e w' => e = .returned (.bool false) ∧ w' = w := by
  go_enter Try.func63, Try.ntmps63
  go_wp2
  go_ret
  exact ⟨by simp, rfl⟩
theorem cmp_calls (a b : Int) (w : World) : Calls Try.prog 52 #[.int .i64 a, .int .i64 b] w fun e w' => e = .returned (.int .i64 (cmpI a b)) ∧ w' = w := by
  go_enter Try.func52, Try.ntmps52
  by_cases h1 : a < b
  · go_wp2_with (go_at_call 63; refine (nan_calls _ _).mono ?_; rintro e w' ⟨rfl, rfl⟩)
    go_ret
    exact ⟨by simp [cmpI, h1], rfl⟩
  · by_cases h2 : b < a
    · have e1 : cmpI a b = 1 := by unfold cmpI; rw [if_neg h1, if_pos h2]
      rw [e1]
      go_wp2_with (go_at_call 63; refine (nan_calls _ _).mono ?_; rintro e w' ⟨rfl, rfl⟩)
      go_ret
      exact ⟨rfl, rfl⟩
    · have e1 : cmpI a b = 0 := by unfold cmpI; rw [if_neg h1, if_neg h2]
      rw [e1]
      go_wp2_with (go_at_call 63; refine (nan_calls _ _).mono ?_; rintro e w' ⟨rfl, rfl⟩)
      go_ret
      exact ⟨rfl, rfl⟩
theorem cmpL_step {a b : List Int} {n : Nat} {x y : Int} (hx : a[n]? = some x) (hy : b[n]? = some y) : cmpL (a.drop n) (b.drop n) = if x < y then -1 else if y < x then 1 else cmpL (a.drop (n + 1)) (b.drop (n + 1)) := by
  obtain ⟨h1, e1⟩ := List.getElem?_eq_some_iff.1 hx
  obtain ⟨h2, e2⟩ := List.getElem?_eq_some_iff.1 hy
  rw [List.drop_eq_getElem_cons h1, List.drop_eq_getElem_cons h2, e1, e2]; rfl
set_option maxHeartbeats 1000000 in
theorem scmp_calls (v u : Value) (a b : List Int) (w : World) (h : Sl Ty.int w v a) (h' : Sl Ty.int w u b) :
    Calls Try.prog 53 #[v, u] w fun e w' => e = .returned (.int .i64 (cmpL a b)) ∧ w' = w := by
  obtain ⟨A, c, rfl, hc, hcm, hlb, hr⟩ := h
  obtain ⟨B, d, rfl, hd, hdm, hlb', hs⟩ := h'
  unfold LB at hlb hlb'
  go_enter Try.func53, Try.ntmps53
  go_wp2
  go_loopw [11] (fun i w' => (∃ k : Nat, k ≤ a.length ∧ k ≤ b.length ∧ i = .int .i64 k ∧ Hid (cmpL a b = cmpL (a.drop k) (b.drop k))) ∧ w' = w) (fun i _ => a.length - (intOf i).toNat)
  case atStart => exact ⟨⟨0, Nat.zero_le _, Nat.zero_le _, rfl, by simp [Hid]⟩, rfl⟩
  case round =>
    obtain ⟨⟨k, hk, hk2, rfl, hH⟩, rfl⟩ := hrel
    by_cases hlt : k < a.length
    · obtain ⟨x, hx⟩ := at_lt a hlt
      obtain ⟨ad, rfl, hxs, hcell⟩ := hr.int hx
      by_cases hlt2 : k < b.length
      · obtain ⟨y, hy⟩ := at_lt b hlt2
        obtain ⟨bd, rfl, hys, hcell2⟩ := hs.int hy
        have HS := Lib.hid (cmpL_step hx hy)
        clear hx hy
        by_cases h1 : x < y
        · have e1 : cmpI x y = -1 := by simp [cmpI, h1]
          go_wp2_with (go_at_call 52; refine (cmp_calls _ _ _).mono ?_; rw [e1]; rintro e w' ⟨rfl, rfl⟩)
          go_ret
          have hH' := hH; unfold Hid at hH'
          refine ⟨ret_int ?_, rfl⟩
          rw [hH', HS.out, if_pos h1]
        · by_cases h2 : y < x
          · have e1 : cmpI x y = 1 := by simp [cmpI, h1, h2]
            go_wp2_with (go_at_call 52; refine (cmp_calls _ _ _).mono ?_; rw [e1]; rintro e w' ⟨rfl, rfl⟩)
            go_ret
            have hH' := hH; unfold Hid at hH'
            refine ⟨ret_int ?_, rfl⟩
            rw [hH', HS.out, if_neg (by omega), if_pos h2]
          · have e1 : cmpI x y = 0 := by simp [cmpI, h1, h2]
            go_wp2_with (go_at_call 52; refine (cmp_calls _ _ _).mono ?_; rw [e1]; rintro e w' ⟨rfl, rfl⟩)
            have hH' := hH; unfold Hid at hH'
            go_roundw
            case rel => exact ⟨⟨k + 1, by omega, by omega, by go_num, by show _ = _; rw [hH', HS.out, if_neg (by omega), if_neg (by omega)]⟩, by first | rfl | trivial⟩
            case measure => simp [intOf]; omega
      · clear hx
        have hkb : (k : Int) ≥ (b.length : Int) := by omega
        go_wp2
        go_ret
        have hH' := hH; unfold Hid at hH'
        refine ⟨ret_int ?_, rfl⟩
        rw [hH', List.drop_eq_nil_of_le (show b.length ≤ k by omega), List.drop_eq_getElem_cons hlt]; rfl
    · have hka : a.drop k = [] := List.drop_eq_nil_of_le (by omega)
      have HKA := Lib.hid hka; clear hka
      by_cases h3 : a.length < b.length
      · go_wp2
        go_ret
        have hH' := hH; unfold Hid at hH'
        refine ⟨ret_int ?_, rfl⟩
        rw [hH', HKA.out, List.drop_eq_getElem_cons (by omega)]; rfl
      · go_wp2
        go_ret
        have hH' := hH; unfold Hid at hH'
        refine ⟨ret_int ?_, rfl⟩
        rw [hH', HKA.out, List.drop_eq_nil_of_le (show b.length ≤ k by omega)]; rfl
theorem or_calls (p q : Int) (w : World) (N : Nat) (hb : Box w N #[.int .i64 p, .int .i64 q] 3) :
    Calls Try.prog 51 #[.slice (some ⟨N, 0, none⟩) 2 2] w fun e w' => e = .returned (.int .i64 (if p = 0 then q else p)) ∧ w' = w := by
  have h0 := hb.cell 0 (v := .int .i64 p) rfl
  have h1 := hb.cell 1 (v := .int .i64 q) rfl
  clear hb
  go_enter Try.func51, Try.ntmps51
  go_wp2
  go_loopw [8] (fun i w' => (∃ k : Nat, k ≤ 2 ∧ i = .int .i64 k ∧ Hid ((1 ≤ k → p = 0) ∧ (2 ≤ k → q = 0))) ∧ w' = w) (fun i _ => 2 - (intOf i).toNat)
  case atStart => exact ⟨⟨0, Nat.zero_le _, rfl, ⟨by omega, by omega⟩⟩, rfl⟩
  case round =>
    obtain ⟨⟨k, hk, rfl, hH⟩, rfl⟩ := hrel
    have HH : Hid _ := hH
    have : k = 0 ∨ k = 1 ∨ k = 2 := by omega
    rcases this with rfl | rfl | rfl
    · by_cases hp : p = 0
      · subst hp
        go_wp2
        go_roundw
        case rel => exact ⟨⟨1, by omega, by go_num, by simp [Hid]⟩, by first | rfl | trivial⟩
        case measure => simp [intOf]
      · have hp' := icmp_ne hp
        have HP := Lib.hid hp; clear hp
        go_wp2
        go_ret
        exact ⟨ret_int (by first | rfl | rw [if_neg HP.out]), rfl⟩
    · have hp0 := HH.out.1 (by omega)
      subst hp0
      by_cases hq : q = 0
      · subst hq
        go_wp2
        go_roundw
        case rel => exact ⟨⟨2, by omega, by go_num, by simp [Hid]⟩, by first | rfl | trivial⟩
        case measure => simp [intOf]
      · have hq' := icmp_ne hq
        have HQ := Lib.hid hq; clear hq
        go_wp2
        go_ret
        exact ⟨ret_int (by first | rfl | rw [if_pos rfl]), rfl⟩
    · have hp0 := HH.out.1 (by omega)
      have hq0 := HH.out.2 (by omega)
      subst hp0 hq0
      go_wp2
      go_ret
      exact ⟨ret_int (by first | rfl | simp), rfl⟩
theorem order_calls (v u : Value) (a b : List Int) (w : World) (h : Sl Ty.int w v a) (h' : Sl Ty.int w u b) :
    Calls Try.prog 36 #[v, u] w fun e w' => e = .returned (.int .i64 (ordP a b)) ∧ Below w.heap.size w w' := by
  have hS := h
  have hS' := h'
  obtain ⟨A, c, rfl, hc, hcm, hlb, hr⟩ := h
  obtain ⟨B, d, rfl, hd, hdm, hlb', hs⟩ := h'
  unfold LB at hlb hlb'
  have HS := Lib.hid hS; have HS' := Lib.hid hS'
  clear hS hS' hr hs
  go_enter Try.func36, Try.ntmps36
  go_wp2_with (first | (go_at_call 52; refine (cmp_calls _ _ _).mono ?_; rintro e w' ⟨rfl, rfl⟩) | (go_at_call 53; refine (scmp_calls _ _ _ _ _ HS.out HS'.out).mono ?_; rintro e w' ⟨rfl, rfl⟩) | (go_at_call 51; refine (or_calls (cmpI a.length b.length) (cmpL a b) _ w'.heap.size (Box.new w' _ _)).mono ?_; rintro e w'' ⟨rfl, rfl⟩))
  · go_ret
    exact ⟨ret_int (by rw [ordP_cmpI, if_pos (by assumption)]), (Below.refl _ _).alloc (Nat.le_refl _) _⟩
  · go_ret
    exact ⟨ret_int (by rw [ordP_cmpI, if_neg (by assumption)]), (Below.refl _ _).alloc (Nat.le_refl _) _⟩
end Go.Proofs.Ytgjobbapnileiaa
