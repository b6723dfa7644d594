/- slices.BinarySearchFunc over sentences in order: the walk. -/
import Derived.Test.YtgjobbapnileiaaOrd
set_option linter.unusedVariables false
set_option linter.unusedSimpArgs false
namespace Go.Proofs.Ytgjobbapnileiaa
open Go.RowKit Gk

set_option maxHeartbeats 2000000 in
theorem bsearch_calls (v u : Value) (l : List (List Int)) (x : List Int) (w : World) (h : Sl (Ty.slice Ty.int) w v l) (h' : Sl Ty.int w u x) (hs : Srt l) (hl : l.length ≤ 1000000) :
    Calls Try.prog 35 #[v, u, .func (.func 36) #[] #[]] w fun e w' => e = .returned (.tuple #[.int .i64 (posP l x : Nat), .bool (decide (x ∈ l))]) ∧ Below w.heap.size w w' := by
  have hS := h'
  obtain ⟨A, c, rfl, hc, hcm, hlb, hr⟩ := h
  obtain ⟨B, d, rfl, hd, hdm, hlb', _⟩ := h'
  unfold LB at hlb hlb'
  have HS := Lib.hid hS; clear hS
  have HSRT := Lib.hid hs; clear hs
  go_enter Try.func35, Try.ntmps35
  go_wp2
  go_loopw [9, 10] (fun i j wr => (∃ lo hi : Nat, lo ≤ hi ∧ hi ≤ l.length ∧ i = .int .i64 lo ∧ j = .int .i64 hi ∧ Hid ((∀ t y, t < lo → l[t]? = some y → lessP y x = true) ∧ ∀ t y, hi ≤ t → l[t]? = some y → lessP y x = false)) ∧ Below w.heap.size w wr) (fun i j _ => (intOf j).toNat - (intOf i).toNat)
  case atStart => exact ⟨⟨0, l.length, Nat.zero_le _, Nat.le_refl _, rfl, rfl, ⟨fun t y h => by omega, fun t y h1 h2 => by have := (List.getElem?_eq_some_iff.1 h2).1; omega⟩⟩, Below.refl _ _⟩
  case round =>
    obtain ⟨⟨lo, hi, hlh, hin, rfl, rfl, hI⟩, hB⟩ := hrel
    have I : Hid _ := hI
    have hxr : Hid (Sl Ty.int wr (.slice B x.length d) x) := HS.out.below hB
    have hrr := hr.below hB
    by_cases hlt : lo < hi
    · obtain ⟨y, hy⟩ := at_lt l (show (lo + hi) / 2 < l.length by omega)
      obtain ⟨ad, Y, cy, rfl, hcell, y1, y2, y3, y4⟩ := hrr.slice hy
      have hyr : Hid (Sl Ty.int wr (.slice Y y.length cy) y) := ⟨Y, cy, rfl, y1, y2, y3, y4⟩
      have HY := Lib.hid hy
      clear hy y4
      by_cases hyx : ordP y x < 0
      · go_wp2_with (go_at_call 36; refine (order_calls _ _ y x _ hyr hxr).mono ?_; rintro e w' ⟨rfl, hb'⟩)
        go_roundw
        case rel =>
          refine ⟨⟨(lo + hi) / 2 + 1, hi, by omega, hin, by rw [show ((lo : Int) + (hi : Int)) / 2 + 1 = (((lo + hi) / 2 + 1 : Nat) : Int) by omega], rfl, ⟨fun t z ht hz => ?_, I.out.2⟩⟩, below2 hB hb'⟩
          have hyl : lessP y x = true := by simpa [lessP] using hyx
          rcases Nat.lt_or_eq_of_le (Nat.le_of_lt_succ ht) with h1 | h1
          · exact lessP_trans (srt_at HSRT.out h1 hz HY.out) hyl
          · subst h1; rw [HY.out] at hz; injection hz with hz; exact hz ▸ hyl
        case measure => simp [intOf]; omega
      · go_wp2_with (go_at_call 36; refine (order_calls _ _ y x _ hyr hxr).mono ?_; rintro e w' ⟨rfl, hb'⟩)
        go_roundw
        case rel =>
          refine ⟨⟨lo, (lo + hi) / 2, by omega, by omega, rfl, by rw [show ((lo : Int) + (hi : Int)) / 2 = (((lo + hi) / 2 : Nat) : Int) by omega], ⟨I.out.1, fun t z ht hz => ?_⟩⟩, below2 hB hb'⟩
          have hyl : lessP y x = false := by simpa [lessP] using hyx
          rcases Nat.lt_or_eq_of_le ht with h1 | h1
          · have h2 := srt_at HSRT.out h1 HY.out hz
            cases h3 : lessP z x with
            | false => rfl
            | true => rw [lessP_trans h2 h3] at hyl; cases hyl
          · subst h1; rw [HY.out] at hz; injection hz with hz; exact hz ▸ hyl
        case measure => simp [intOf]; omega
    · obtain rfl : hi = lo := by omega
      have hpos : posP l x = hi := pos_eq HSRT.out hin I.out.1 I.out.2
      have HP := Lib.hid hpos; clear hpos
      by_cases hn : hi < l.length
      · obtain ⟨y, hy⟩ := at_lt l hn
        obtain ⟨ad, Y, cy, rfl, hcell, y1, y2, y3, y4⟩ := hrr.slice hy
        have hyr : Hid (Sl Ty.int wr (.slice Y y.length cy) y) := ⟨Y, cy, rfl, y1, y2, y3, y4⟩
        have HY := Lib.hid hy
        clear hy y4
        by_cases hyx : ordP y x = 0
        · go_wp2_with (go_at_call 36; refine (order_calls _ _ y x _ hyr hxr).mono ?_; rintro e w' ⟨rfl, hb'⟩)
          go_ret2
          have hm : x ∈ l := by rw [mem_at HSRT.out, HP.out, HY.out, ordP_zero.1 hyx]
          exact ⟨by simp [HP.out, hm, hyx], below2 hB hb'⟩
        · go_wp2_with (go_at_call 36; refine (order_calls _ _ y x _ hyr hxr).mono ?_; rintro e w' ⟨rfl, hb'⟩)
          go_ret2
          have hm : x ∉ l := by
            rw [mem_at HSRT.out, HP.out, HY.out]; intro e; injection e with e; exact hyx (ordP_zero.2 e)
          exact ⟨by simp [HP.out, hm, hyx], below2 hB hb'⟩
      · go_wp2
        go_ret2
        have hm : x ∉ l := by
          rw [mem_at HSRT.out, HP.out]; intro e; have := (List.getElem?_eq_some_iff.1 e).1; omega
        exact ⟨by simp [HP.out, hm, hn], hB⟩
end Go.Proofs.Ytgjobbapnileiaa
