/- within: the walk. -/
import Derived.Test.YtgjobbapnileiaaCat
import Derived.Test.YtgjobbapnileiaaVal
set_option linter.unusedVariables false
set_option linter.unusedSimpArgs false
namespace Go.Proofs.Ytgjobbapnileiaa
open Go.RowKit Gk

def isOf (c : Cfg) (k : Int) : Bool := decide ((k < 0 ∧ -1 - k < c.alts.length) ∨ (0 ≤ k ∧ k < c.toks.length))
def withinEnd (c : Cfg) (s : List Int) (w : World) (e : Ending) (w' : World) : Prop := ∃ v, e = .returned v ∧ OwnI w.heap.size w' v (s.filter (isOf c)) ∧ Below w.heap.size w w'
set_option maxRecDepth 100000 in
set_option maxHeartbeats 4000000 in
theorem within_calls (c : Cfg) (s : List Int) (v u : Value) (w : World) (h : CfgV w v c) (hu : Sl Ty.int w u s) (hsl : s.length ≤ 1000) (hal : c.alts.length ≤ 1000) (htk : c.toks.length ≤ 1000) :
    Calls Try.prog 14 #[v, u] w (withinEnd c s w) := by
  obtain ⟨a0, b0, d0, rfl, h1, h2, h3⟩ := id h
  obtain ⟨A1, c1, rfl, hc1, hm1, hl1, hr1⟩ := id h1
  obtain ⟨A2, c2, rfl, hc2, hm2, hl2, hr2⟩ := id h2
  obtain ⟨A3, c3, rfl, hc3, hm3, hl3, hr3⟩ := id h3
  obtain ⟨AU, cU, rfl, ku1, ku2, ku3, ku4⟩ := id hu
  unfold LB at hl1 hl3 ku3
  clear h h1 h2 h3 hu hr1 hr2 hr3
  go_enter Try.func14, Try.ntmps14
  have hbx := Box.new w #[.slice A1 c.toks.length c1, .slice A2 c.names.length c2, .slice A3 c.alts.length c3] 25
  have hba : Below w.heap.size w (w.alloc (.cells #[.slice A1 c.toks.length c1, .slice A2 c.names.length c2, .slice A3 c.alts.length c3] 25)) := (Below.refl _ _).alloc (Nat.le_refl _) _
  have hszb : (w.alloc (.cells #[.slice A1 c.toks.length c1, .slice A2 c.names.length c2, .slice A3 c.alts.length c3] 25)).heap.size = w.heap.size + 1 := by simp
  go_wp2
  generalize w.alloc (.cells #[.slice A1 c.toks.length c1, .slice A2 c.names.length c2, .slice A3 c.alts.length c3] 25) = wb at *
  go_loopw [10, 5] (fun i o wr => (∃ n : Nat, n ≤ s.length ∧ i = .int .i64 n ∧ OwnI (w.heap.size + 1) wr o ((s.take n).filter (isOf c))) ∧ Below wb.heap.size wb wr) (fun i _ _ => s.length - (intOf i).toNat)
  case atStart => exact ⟨⟨0, Nat.zero_le _, rfl, Own.nil _ _ _ _ _⟩, Below.refl _ _⟩
  case round =>
    obtain ⟨⟨n, hn, rfl, hO⟩, hB⟩ := hrel
    have HB := Lib.hid (And.intro hO hB)
    have hwr := below2 hba hB
    have ku4r := ku4.below hwr
    have hbr := hbx.below hB
    have x0 := hbr.cell 0 (v := .slice A1 c.toks.length c1) rfl
    have x2 := hbr.cell 2 (v := .slice A3 c.alts.length c3) rfl
    have hszr := hB.size
    clear hO hB hwr
    by_cases hlt : n < s.length
    · obtain ⟨k, hk⟩ := at_lt s hlt
      obtain ⟨ad, rfl, hk64, hcell⟩ := ku4r.int hk
      have HK := Lib.hid hk; clear hk
      have hk1 := hk64.1
      have hk2 := hk64.2
      have hyes : isOf c k = true → Hid ((s.take (n + 1)).filter (isOf c) = (s.take n).filter (isOf c) ++ [k]) := fun h => by
        show _ = _; rw [take_next HK.out, List.filter_append]; simp [h]
      have hno : isOf c k = false → Hid ((s.take (n + 1)).filter (isOf c) = (s.take n).filter (isOf c)) := fun h => by
        show _ = _; rw [take_next HK.out, List.filter_append]; simp [h]
      have HY := Lib.hid (And.intro hyes hno)
      have hO' := Lib.hid HB.out.1
      clear hyes hno
      have hfl : ((s.take n).filter (isOf c)).length ≤ 1000 := Nat.le_trans (List.length_filter_le _ _) (by simp; omega)
      obtain ⟨A5, c5, o5, _, _, _, _⟩ := HB.out.1.sl
      obtain ⟨fl, hfe⟩ : ∃ fl, fl = (s.take n).filter (isOf c) := ⟨_, rfl⟩
      rw [← hfe] at hfl
      have HFE := Lib.hid hfe; clear hfe
      have hO2 : Hid (OwnI (w.heap.size + 1) wr u5 fl) := by rw [HFE.out]; exact HB.out.1
      clear o5
      by_cases hk0 : k < 0
      · have hwp : IntKind.i64.wrap (-1 - k) = -1 - k := by rw [IntKind.wrap_i64]; omega
        by_cases hr : -1 - k < (c.alts.length : Int)
        · have hy : isOf c k = true := decide_eq_true (.inl ⟨hk0, hr⟩)
          have hd : decide (-1 - k < (c.alts.length : Int)) = true := decide_eq_true hr
          obtain ⟨wo, rfl⟩ : ∃ wo : World, wo = wr := ⟨_, rfl⟩
          go_wp2_with (at_builtin; refine wpList_app (T := Ty.int) (xs := fl) (w0 := wb) (W := wo) (B := w.heap.size + 1) (D := fun _ => True) rfl (.tmp 35) (.tmp 37) 34 3 8 rfl elemInt rfl k #[.int .i64 k] _ rfl rfl hO2 (fun _ _ => trivial) (fun _ _ _ => ⟨rfl, hk64⟩) (HB.out.2.mono (by omega)) (by omega) (by omega) ?_; intro v3 w3 hO3 hB3 _ _)
          refine ⟨⟨⟨n + 1, by omega, by simp, ?_⟩, by rw [hszb]; exact hB3⟩, by simp [intOf]; omega⟩
          have h := HY.out.1 hy
          rw [show List.filter _ _ = _ from h, ← HFE.out]; exact hO3
        · have hy : isOf c k = false := decide_eq_false (fun h => by omega)
          have hd : decide (-1 - k < (c.alts.length : Int)) = false := decide_eq_false hr
          go_wp2
          refine ⟨⟨⟨n + 1, by omega, by simp, ?_⟩, HB.out.2⟩, by simp [intOf]; omega⟩
          have h := HY.out.2 hy
          rw [show List.filter _ _ = _ from h]; exact HB.out.1
      · by_cases hr : k < (c.toks.length : Int)
        · have hy : isOf c k = true := decide_eq_true (.inr ⟨by omega, hr⟩)
          obtain ⟨wo, rfl⟩ : ∃ wo : World, wo = wr := ⟨_, rfl⟩
          go_wp2_with (at_builtin; refine wpList_app (T := Ty.int) (xs := fl) (w0 := wb) (W := wo) (B := w.heap.size + 1) (D := fun _ => True) rfl (.tmp 35) (.tmp 37) 34 3 8 rfl elemInt rfl k #[.int .i64 k] _ rfl rfl hO2 (fun _ _ => trivial) (fun _ _ _ => ⟨rfl, hk64⟩) (HB.out.2.mono (by omega)) (by omega) (by omega) ?_; intro v3 w3 hO3 hB3 _ _)
          refine ⟨⟨⟨n + 1, by omega, by simp, ?_⟩, by rw [hszb]; exact hB3⟩, by simp [intOf]; omega⟩
          have h := HY.out.1 hy
          rw [show List.filter _ _ = _ from h, ← HFE.out]; exact hO3
        · have hy : isOf c k = false := decide_eq_false (fun h => by omega)
          go_wp2
          refine ⟨⟨⟨n + 1, by omega, by simp, ?_⟩, HB.out.2⟩, by simp [intOf]; omega⟩
          have h := HY.out.2 hy
          rw [show List.filter _ _ = _ from h]; exact HB.out.1
    · have hne : n = s.length := by omega
      have HNE := Lib.hid hne; clear hne
      obtain ⟨A5, c5, o5, _, _, _, _⟩ := HB.out.1.sl
      clear o5
      go_wp2
      go_ret
      refine ⟨_, rfl, ?_, below2 hba HB.out.2⟩
      have h := HB.out.1
      rw [HNE.out, List.take_length] at h
      obtain ⟨css, ⟨g1, g2⟩, q2, q3, q5, q4⟩ := h
      refine ⟨css, ⟨g1, ?_⟩, q2, q3, q5, q4⟩
      rcases g2 with g2 | ⟨g, cap, cur, e, r1, r2⟩
      · exact .inl g2
      · exact .inr ⟨g, cap, cur, e, by omega, r2⟩
end Go.Proofs.Ytgjobbapnileiaa
