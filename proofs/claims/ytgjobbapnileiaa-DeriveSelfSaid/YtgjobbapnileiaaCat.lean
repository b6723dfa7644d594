/- slices.Grow, slices.Concat of two lists of numbers: the walks. -/
import Derived.Test.YtgjobbapnileiaaAdd
import Derived.Lib.AppendZeros
set_option linter.unusedVariables false
set_option linter.unusedSimpArgs false
namespace Go.Proofs.Ytgjobbapnileiaa
open Go.RowKit Gk

abbrev OwnI (B : Nat) (w : World) (v : Value) (x : List Int) : Prop := Own Ty.int 3 B (fun _ => True) w v x
set_option maxRecDepth 100000 in
set_option maxHeartbeats 1000000 in
theorem grow_calls (n : Nat) (w : World) (hn : n ≤ 1000000) :
    Calls Try.prog 50 #[.slice none 0 0, .int .i64 n] w fun e w' => ∃ v, e = .returned v ∧ OwnI w.heap.size w' v [] ∧ Below w.heap.size w w' := by
  obtain ⟨i0, hi0, hz0, hzs, hzb⟩ := info_parts infoInt
  by_cases h0 : n = 0
  · subst h0
    go_enter Try.func50, Try.ntmps50
    go_wp2
    go_ret
    exact ⟨_, rfl, Own.nil _ _ _ _ _, Below.refl _ _⟩
  · have h := fun ty => Lib.run_append_nil_zeros (P := Try.prog) w 34 3 ty 3 i0 _ .i64 .i64 Try.underlying34 Try.underlying3 hi0 hz0 n (by omega) (by omega) (by omega) (by rw [hzb]; omega)
    have hG1 := grownCap_ge w n 0 3
    have hG2 := grownCap_le_maxLen w n 0 3 (by simp only [maxLen]; omega)
    generalize grownCap w n 0 3 = G at h hG1 hG2
    generalize hROW : Builtin.zeroCells (Value.int .i64 0).cells n ++ Builtin.zeroCells (Value.int .i64 0).cells (G - n) = ROW at h
    have hRs : ROW.size = G := by rw [← hROW]; simp only [Array.size_append, size_zeroCells, Value.cells]; simp; omega
    clear hROW
    have hG3 := hG2
    simp only [maxLen] at hG3
    go_enter Try.func50, Try.ntmps50
    go_wp2_with (at_builtin; refine Lib.wpList_append_run _ rfl _ _ _ _ rfl _ _ rfl rfl _ _ (h _) ?_)
    go_ret
    refine ⟨_, rfl, ⟨[], ⟨by simp, .inr ⟨w.heap.size, G, ROW, rfl, Nat.le_refl _, heap_alloc_new w.drew _, Nat.zero_le _, hG2, by show ROW.size = G * 1; omega, by simp⟩⟩, rfl, by simp [LB], fun _ _ => trivial, by simp⟩, ?_⟩
    exact ⟨rfl, rfl, rfl, by simp [World.drew], fun c hc => heap_alloc_old w.drew _ hc⟩
/-- the first k of two -/
def two (x y : List Int) (k : Nat) : List Int := if k = 0 then [] else if k = 1 then x else x ++ y
set_option maxRecDepth 100000 in
set_option maxHeartbeats 2000000 in
theorem concat_calls (N : Nat) (u1 u2 : Value) (x y : List Int) (w : World) (hN : Box w N #[u1, u2] 34) (h1 : IL w u1 x) (h2 : IL w u2 y) (hl1 : x.length ≤ 1000) (hl2 : y.length ≤ 1000) :
    Calls Try.prog 34 #[.slice (some ⟨N, 0, none⟩) 2 2] w fun e w' => ∃ v, e = .returned v ∧ IL w' v (x ++ y) ∧ Below w.heap.size w w' := by
  have hs1 := h1.sl
  have hs2 := h2.sl
  have ho1 := h1.some
  have ho2 := h2.some
  obtain ⟨A1, c1, rfl, a1, a2, a3, _⟩ := id hs1
  obtain ⟨A2, c2, rfl, b1, b2, b3, _⟩ := id hs2
  unfold LB at a3 b3
  have hc0 := hN.cell 0 (v := .slice A1 x.length c1) rfl
  have hc1 := hN.cell 1 (v := .slice A2 y.length c2) rfl
  have HH := Lib.hid (And.intro hN (And.intro hs1 (And.intro hs2 (And.intro ho1 ho2))))
  clear hN h1 h2 hs1 hs2 ho1 ho2
  go_enter Try.func34, Try.ntmps34
  go_wp2
  go_loopw [11, 3] (fun i s wr => (∃ k q : Nat, k ≤ 2 ∧ i = .int .i64 k ∧ s = .int .i64 q ∧ Hid (q = (two x y k).length)) ∧ wr = w) (fun i _ _ => 2 - (intOf i).toNat)
  case atStart => exact ⟨⟨0, 0, Nat.zero_le _, rfl, rfl, rfl⟩, rfl⟩
  case round =>
    obtain ⟨⟨k, q, hk, rfl, rfl, hq⟩, rfl⟩ := hrel
    have : k = 0 ∨ k = 1 ∨ k = 2 := by omega
    rcases this with rfl | rfl | rfl
    · have e : q = 0 := hq
      subst e
      go_wp2
      go_roundw
      case rel => exact ⟨⟨1, x.length, by omega, by go_num, by go_num, by simp [Hid, two]⟩, by first | rfl | trivial⟩
      case measure => simp [intOf]
    · have e : q = x.length := hq
      subst e
      go_wp2
      go_roundw
      case rel => exact ⟨⟨2, x.length + y.length, by omega, by go_num, by go_num, by simp [Hid, two]⟩, by first | rfl | trivial⟩
      case measure => simp [intOf]
    · have e : q = x.length + y.length := by have h : q = _ := hq; rw [h]; simp [two]
      have hq2 : q ≤ 2000 := by omega
      clear e
      obtain ⟨wo, rfl⟩ : ∃ wo : World, wo = wr := ⟨_, rfl⟩
      have hg := grow_calls q wo (by omega)
      go_wp2_with (go_at_call 50; refine hg.mono ?_; rintro e w1 ⟨v1, rfl, hO1, hb1⟩)
      go_loopw [27, 6] (fun i o wr => ∃ k : Nat, k ≤ 2 ∧ i = .int .i64 k ∧ OwnI wo.heap.size wr o (two x y k) ∧ Below wo.heap.size wo wr) (fun i _ _ => 2 - (intOf i).toNat)
      case atStart => exact ⟨0, Nat.zero_le _, rfl, hO1, hb1⟩
      case round =>
        clear hO1 hb1
        obtain ⟨k, hk, rfl, hO, hb⟩ := hrel
        have hsz := hb.size
        have hN2 := HH.out.1.below hb
        have hd0 := hN2.cell 0 (v := .slice A1 x.length c1) rfl
        have hd1 := hN2.cell 1 (v := .slice A2 y.length c2) rfl
        have HB := Lib.hid (And.intro hO hb)
        clear hO hb hN2
        have : k = 0 ∨ k = 1 ∨ k = 2 := by omega
        rcases this with rfl | rfl | rfl
        · go_wp2_with (at_builtin; refine wpList_appAll (T := Ty.int) (xs := two x y 0) (w0 := wo) (B := wo.heap.size) (D := fun _ => True) rfl (.tmp 31) (.tmp 32) 34 3 8 rfl elemInt rfl rfl _ x rfl HB.out.1 (fun _ _ => trivial) (HH.out.2.1.below HB.out.2) (fun y u _ h => fun _ _ _ => h) HH.out.2.2.2.1 HB.out.2 hsz (by simp [two]; omega) ?_; intro v2 w3 hO3 hB3 _ _)
          go_roundw
          case rel => exact ⟨1, by omega, by go_num, by simpa [two] using hO3, hB3⟩
          case measure => simp [intOf]
        · go_wp2_with (at_builtin; refine wpList_appAll (T := Ty.int) (xs := two x y 1) (w0 := wo) (B := wo.heap.size) (D := fun _ => True) rfl (.tmp 31) (.tmp 32) 34 3 8 rfl elemInt rfl rfl _ y rfl HB.out.1 (fun _ _ => trivial) (HH.out.2.2.1.below HB.out.2) (fun y u _ h => fun _ _ _ => h) HH.out.2.2.2.2 HB.out.2 hsz (by simp [two]; omega) ?_; intro v2 w3 hO3 hB3 _ _)
          go_roundw
          case rel => exact ⟨2, by omega, by go_num, by simpa [two] using hO3, hB3⟩
          case measure => simp [intOf]
        · go_wp2
          go_ret
          exact ⟨_, rfl, by simpa [two] using IL.of HB.out.1, HB.out.2⟩
end Go.Proofs.Ytgjobbapnileiaa
