/- few of layer 09: if it answers yes the grammar is in shape; within: the walk; The reference's Lead: the walk; SetsLead: the walk; SetsShort: the walk. -/
import Derived.Test.YtigbfankkmmnbaaZ06
import Derived.Test.YtigbfankkmmnbaaZ08
import Derived.Test.YtigbfankkmmnbaaZ19
import Derived.Test.YtigbfankkmmnbaaZ07
import Derived.Test.YtigbfankkmmnbaaZ20
set_option linter.unusedVariables false
set_option linter.unusedSimpArgs false
namespace Go.Proofs.Ytigbfankkmmnbaa
open Go.RowKit Gk

set_option maxRecDepth 100000 in
set_option maxHeartbeats 4000000 in
theorem fewS_calls (v : Value) (c : Cfg) (w : World) (h : CfgV w v c) (hu : TokOk v) :
    Calls Try.prog 13 #[v] w (fewOk c w) := by
  have h0 := h
  obtain ⟨a0, b0, d0, rfl, h1, h2, h3⟩ := h
  obtain ⟨A1, c1, rfl, hc1, hm1, _, hr1⟩ := h1
  obtain ⟨A2, c2, rfl, hc2, hm2, _, hr2⟩ := h2
  obtain ⟨A3, c3, rfl, hc3, hm3, _, hr3⟩ := h3
  clear hr1 hr2 hr3
  have hA := (Below.refl w.heap.size w).alloc (Nat.le_refl _) (.cells #[.slice A1 c.toks.length c1, .slice A2 c.names.length c2, .slice A3 c.alts.length c3] 25)
  have hB := Box.new w #[.slice A1 c.toks.length c1, .slice A2 c.names.length c2, .slice A3 c.alts.length c3] 25
  have kf := few_calls _ c 200 _ (h0.below hA) (by omega) (by omega)
  go_enter Try.func13, Try.ntmps13
  go_wp2_with (first | (go_at_call 41; (with_reducible refine kf.mono ?_); rintro e w1 ⟨b1, rfl, hW1, hsm0⟩; have hsm : b1 = true → Small 200 c := fun h => (hsm0 h).le (by omega); clear hsm0; have hB1 := hB.below hW1; have b10 := hB1.cell 0 (v := .slice A1 c.toks.length c1) rfl; have b11 := hB1.cell 1 (v := .slice A2 c.names.length c2) rfl; have b12 := hB1.cell 2 (v := .slice A3 c.alts.length c3) rfl; have hBW := below2 hA hW1; replace hsm : IfSmall b1 c := hsm; cases b1) | (go_at_call 42; refine (valid_calls _ c _ (h0.below hBW) hu (hsm rfl)).mono ?_; rintro e w2 ⟨r, rfl, hW2, hok⟩; have hBW2 := below2 hBW hW2; have hok := Lib.hid hok; rcases icmp_any r 0 with ⟨y1, y2, y3⟩ | ⟨y1, y2, y3⟩))
  all_goals
    go_ret
    first
      | exact ⟨true, rfl, hBW2, fun _ => ⟨hsm rfl, hok.out y3.out⟩⟩
      | exact ⟨false, rfl, hBW2, fun h => by cases h⟩
      | exact ⟨false, rfl, hBW, fun h => by cases h⟩
end Go.Proofs.Ytigbfankkmmnbaa
set_option linter.unusedVariables false
set_option linter.unusedSimpArgs false
namespace Go.Proofs.Ytigbfankkmmnbaa
open Go.RowKit Gk

abbrev OwnI (B : Nat) (w : World) (v : Value) (x : List Int) : Prop := Own Ty.int 3 B (fun _ => True) w v x
def isOf (c : Cfg) (k : Int) : Bool := decide ((k < 0 ∧ -1 - k < c.alts.length) ∨ (0 ≤ k ∧ k < c.toks.length))
def withinEnd (c : Cfg) (s : List Int) (w : World) (e : Ending) (w' : World) : Prop := ∃ v, e = .returned v ∧ OwnI w.heap.size w' v (s.filter (isOf c)) ∧ Below w.heap.size w w'
set_option maxRecDepth 100000 in
set_option maxHeartbeats 4000000 in
theorem within_calls (c : Cfg) (s : List Int) (v u : Value) (w : World) (h : CfgV w v c) (hu : Sl Ty.int w u s) (hsl : s.length ≤ 1000) (hal : c.alts.length ≤ 1000) (htk : c.toks.length ≤ 1000) :
    Calls Try.prog 25 #[v, u] w (withinEnd c s w) := by
  obtain ⟨a0, b0, d0, rfl, h1, h2, h3⟩ := id h
  obtain ⟨A1, c1, rfl, hc1, hm1, hl1, hr1⟩ := id h1
  obtain ⟨A2, c2, rfl, hc2, hm2, hl2, hr2⟩ := id h2
  obtain ⟨A3, c3, rfl, hc3, hm3, hl3, hr3⟩ := id h3
  obtain ⟨AU, cU, rfl, ku1, ku2, ku3, ku4⟩ := id hu
  unfold LB at hl1 hl3 ku3
  clear h h1 h2 h3 hu hr1 hr2 hr3
  go_enter Try.func25, Try.ntmps25
  have hbx := Box.new w #[.slice A1 c.toks.length c1, .slice A2 c.names.length c2, .slice A3 c.alts.length c3] 25
  have hba : Below w.heap.size w (w.alloc (.cells #[.slice A1 c.toks.length c1, .slice A2 c.names.length c2, .slice A3 c.alts.length c3] 25)) := (Below.refl _ _).alloc (Nat.le_refl _) _
  have hszb : (w.alloc (.cells #[.slice A1 c.toks.length c1, .slice A2 c.names.length c2, .slice A3 c.alts.length c3] 25)).heap.size = w.heap.size + 1 := by simp
  go_wp2
  generalize w.alloc (.cells #[.slice A1 c.toks.length c1, .slice A2 c.names.length c2, .slice A3 c.alts.length c3] 25) = wb at *
  go_loopw [10, 5] (fun i o wr => (∃ n : Nat, n ≤ s.length ∧ i = .int .i64 n ∧ OwnI (w.heap.size + 1) wr o ((s.take n).filter (isOf c))) ∧ Below wb.heap.size wb wr) (fun i _ _ => s.length - (intOf i).toNat)
  case atStart => exact ⟨⟨0, Nat.zero_le _, rfl, Own.nil _ _ _ _ _⟩, Below.refl _ _⟩
  case round =>
    obtain ⟨⟨n, hn, rfl, hO⟩, hB⟩ := hrel
    have HB := Lib.hid (And.intro hO hB)
    have hwr := below2 hba hB
    have ku4r := ku4.below hwr
    have hbr := hbx.below hB
    have x0 := hbr.cell 0 (v := .slice A1 c.toks.length c1) rfl
    have x2 := hbr.cell 2 (v := .slice A3 c.alts.length c3) rfl
    have hszr := hB.size
    clear hO hB hwr
    by_cases hlt : n < s.length
    · obtain ⟨k, hk⟩ := at_lt s hlt
      obtain ⟨ad, rfl, hk64, hcell⟩ := ku4r.int hk
      have HK := Lib.hid hk; clear hk
      have hk1 := hk64.1
      have hk2 := hk64.2
      have hyes : isOf c k = true → Hid ((s.take (n + 1)).filter (isOf c) = (s.take n).filter (isOf c) ++ [k]) := fun h => by
        show _ = _; rw [take_next HK.out, List.filter_append]; simp [h]
      have hno : isOf c k = false → Hid ((s.take (n + 1)).filter (isOf c) = (s.take n).filter (isOf c)) := fun h => by
        show _ = _; rw [take_next HK.out, List.filter_append]; simp [h]
      have HY := Lib.hid (And.intro hyes hno)
      have hO' := Lib.hid HB.out.1
      clear hyes hno
      have hfl : ((s.take n).filter (isOf c)).length ≤ 1000 := Nat.le_trans (List.length_filter_le _ _) (by simp; omega)
      obtain ⟨A5, c5, o5, _, _, _, _⟩ := HB.out.1.sl
      obtain ⟨fl, hfe⟩ : ∃ fl, fl = (s.take n).filter (isOf c) := ⟨_, rfl⟩
      rw [← hfe] at hfl
      have HFE := Lib.hid hfe; clear hfe
      have hO2 : Hid (OwnI (w.heap.size + 1) wr u5 fl) := by rw [HFE.out]; exact HB.out.1
      clear o5
      by_cases hk0 : k < 0
      · have hwp : IntKind.i64.wrap (-1 - k) = -1 - k := by rw [IntKind.wrap_i64]; omega
        by_cases hr : -1 - k < (c.alts.length : Int)
        · have hy : isOf c k = true := decide_eq_true (.inl ⟨hk0, hr⟩)
          have hd : decide (-1 - k < (c.alts.length : Int)) = true := decide_eq_true hr
          obtain ⟨wo, rfl⟩ : ∃ wo : World, wo = wr := ⟨_, rfl⟩
          go_wp2_with (at_builtin; refine wpList_app (T := Ty.int) (xs := fl) (w0 := wb) (W := wo) (B := w.heap.size + 1) (D := fun _ => True) rfl (.tmp 35) (.tmp 37) 35 3 8 rfl elemInt rfl k #[.int .i64 k] _ rfl rfl hO2 (fun _ _ => trivial) (fun _ _ _ => ⟨rfl, hk64⟩) (HB.out.2.mono (by omega)) (by omega) (by omega) ?_; intro v3 w3 hO3 hB3 _ _)
          refine ⟨⟨⟨n + 1, by omega, by simp, ?_⟩, by rw [hszb]; exact hB3⟩, by simp [intOf]; omega⟩
          have h := HY.out.1 hy
          rw [show List.filter _ _ = _ from h, ← HFE.out]; exact hO3
        · have hy : isOf c k = false := decide_eq_false (fun h => by omega)
          have hd : decide (-1 - k < (c.alts.length : Int)) = false := decide_eq_false hr
          go_wp2
          refine ⟨⟨⟨n + 1, by omega, by simp, ?_⟩, HB.out.2⟩, by simp [intOf]; omega⟩
          have h := HY.out.2 hy
          rw [show List.filter _ _ = _ from h]; exact HB.out.1
      · by_cases hr : k < (c.toks.length : Int)
        · have hy : isOf c k = true := decide_eq_true (.inr ⟨by omega, hr⟩)
          obtain ⟨wo, rfl⟩ : ∃ wo : World, wo = wr := ⟨_, rfl⟩
          go_wp2_with (at_builtin; refine wpList_app (T := Ty.int) (xs := fl) (w0 := wb) (W := wo) (B := w.heap.size + 1) (D := fun _ => True) rfl (.tmp 35) (.tmp 37) 35 3 8 rfl elemInt rfl k #[.int .i64 k] _ rfl rfl hO2 (fun _ _ => trivial) (fun _ _ _ => ⟨rfl, hk64⟩) (HB.out.2.mono (by omega)) (by omega) (by omega) ?_; intro v3 w3 hO3 hB3 _ _)
          refine ⟨⟨⟨n + 1, by omega, by simp, ?_⟩, by rw [hszb]; exact hB3⟩, by simp [intOf]; omega⟩
          have h := HY.out.1 hy
          rw [show List.filter _ _ = _ from h, ← HFE.out]; exact hO3
        · have hy : isOf c k = false := decide_eq_false (fun h => by omega)
          go_wp2
          refine ⟨⟨⟨n + 1, by omega, by simp, ?_⟩, HB.out.2⟩, by simp [intOf]; omega⟩
          have h := HY.out.2 hy
          rw [show List.filter _ _ = _ from h]; exact HB.out.1
    · have hne : n = s.length := by omega
      have HNE := Lib.hid hne; clear hne
      obtain ⟨A5, c5, o5, _, _, _, _⟩ := HB.out.1.sl
      clear o5
      go_wp2
      go_ret
      refine ⟨_, rfl, ?_, below2 hba HB.out.2⟩
      have h := HB.out.1
      rw [HNE.out, List.take_length] at h
      obtain ⟨css, ⟨g1, g2⟩, q2, q3, q5, q4⟩ := h
      refine ⟨css, ⟨g1, ?_⟩, q2, q3, q5, q4⟩
      rcases g2 with g2 | ⟨g, cap, cur, e, r1, r2⟩
      · exact .inl g2
      · exact .inr ⟨g, cap, cur, e, by omega, r2⟩
end Go.Proofs.Ytigbfankkmmnbaa
set_option linter.unusedVariables false
set_option linter.unusedSimpArgs false
namespace Go.Proofs.Ytigbfankkmmnbaa
open Go.RowKit Gk

def LdV (c : Cfg) (s : List Int) (N : Nat) (nl : List Bool) (cv uv : Value) (i : Nat) (v : Value) (w : World) : Prop := match i with
  | 0 => v = cv
  | 1 => v = uv
  | 2 => v = .slice (some ⟨N, 0, none⟩) c.alts.length c.alts.length
  | 3 => v = cv
  | 4 => ∃ O ls, v = .slice (some ⟨O, 0, none⟩) c.alts.length c.alts.length ∧ LRow w O ls ∧ RisAll c.alts.length (Frs c) ls
  | 5 => ∃ ks, IL w v ks ∧ Rising ks ∧ ∀ t, t ∈ ks ↔ Ldp c s t
  | 6 => v = cv
  | 7 => v = uv
  | 8 => v = .slice (some ⟨N, 0, none⟩) c.alts.length c.alts.length
  | 9 => v = .bool (emptyP nl s)
  | 10 => ∃ ks, IL w v ks ∧ Rising ks ∧ ∀ t, t ∈ ks ↔ Ldp c s t
  | _ => v = .bool (emptyP nl s)
theorem LdV.below {c : Cfg} {s : List Int} {N : Nat} {nl : List Bool} {cv uv : Value} : ∀ (i : Nat) (v : Value) (w w' : World), LdV c s N nl cv uv i v w → Below w.heap.size w w' → LdV c s N nl cv uv i v w'
  | 0, _, _, _, h, _ => h
  | 1, _, _, _, h, _ => h
  | 2, _, _, _, h, _ => h
  | 3, _, _, _, h, _ => h
  | 4, _, _, _, ⟨O, ls, h1, h2, h3⟩, k => ⟨O, ls, h1, h2.below k, h3⟩
  | 5, _, _, _, ⟨ks, h, h2⟩, k => ⟨ks, h.ki (KI.below k), h2⟩
  | 6, _, _, _, h, _ => h
  | 7, _, _, _, h, _ => h
  | 8, _, _, _, h, _ => h
  | 9, _, _, _, h, _ => h
  | 10, _, _, _, ⟨ks, h, h2⟩, k => ⟨ks, h.ki (KI.below k), h2⟩
  | _ + 11, _, _, _, h, _ => h
theorem frsI_of {c : Cfg} {ls : List (List Int)} (h : RisAll c.alts.length (Frs c) ls) : FrsI c ls := ⟨h.1, fun r l hl t ht => ((h.2 r l hl).2 t).1 ht⟩
theorem frsC_of {c : Cfg} {nl : List Bool} (hn : NulOk c nl) {ls : List (List Int)} (h : RisAll c.alts.length (Frs c) ls) : FrsC c nl ls := fun r al a hal ha t ht => by
  have hr : r < ls.length := by rw [h.1]; exact (List.getElem?_eq_some_iff.1 hal).1
  rw [getD_some (List.getElem?_eq_getElem hr)]
  exact ((h.2 r _ (List.getElem?_eq_getElem hr)).2 t).2 ⟨al, a, hal, ha, lead_sound hn (frsI_of h) a t ht⟩
theorem ris_bound {c : Cfg} (hok : CfgOk c) {ls : List (List Int)} (h : RisAll c.alts.length (Frs c) ls) : ∀ l ∈ ls, l.length ≤ c.toks.length + 1 := fun l hl => by
  obtain ⟨i, hi⟩ := List.mem_iff_getElem?.1 hl
  refine nodup_small (rising_nodup (h.2 i l hi).1) fun t ht => ?_
  have := frs_tok hok (((h.2 i l hi).2 t).1 ht)
  omega
set_option maxRecDepth 100000 in
set_option maxHeartbeats 4000000 in
theorem refLead_calls (c : Cfg) (v u : Value) (s : List Int) (w : World) (h : CfgV w v c) (hok : CfgOk c) (hsm : Small 200 c) (h0 : 0 < c.alts.length) (hu : Sl Ty.int w u s) (hsl : s.length ≤ 200) : Calls Try.prog 27 #[v, u] w (leadEnd9 c s w) := by
  have hal : c.alts.length ≤ 200 := by have := hok.1; have := hsm.1; omega
  have htl : c.toks.length ≤ 200 := by have := hsm.1; omega
  obtain ⟨a0, b0, d0, rfl, h1, h2, h3⟩ := id h
  obtain ⟨A1, c1, rfl, hc1, hm1, _, hr1⟩ := id h1
  obtain ⟨A2, c2, rfl, hc2, hm2, _, hr2⟩ := id h2
  obtain ⟨A3, c3, rfl, hc3, hm3, hl3, hr3⟩ := id h3
  have hB1 := Box.new w #[.slice A1 c.toks.length c1, .slice A2 c.names.length c2, .slice A3 c.alts.length c3] 25
  have hb1 : Below w.heap.size w (w.alloc (.cells #[.slice A1 c.toks.length c1, .slice A2 c.names.length c2, .slice A3 c.alts.length c3] 25)) := (Below.refl _ _).alloc (Nat.le_refl _) _
  have hnul := nullable_calls c _ _ (h.below hb1) hok hsm h0
  have HH := Lib.hid (And.intro h (And.intro hok (And.intro hsm (And.intro hB1 (And.intro hb1 (And.intro hnul hu))))))
  clear h hok hsm h1 h2 h3 hr1 hr2 hr3 hB1 hb1 hnul hu
  go_enter Try.func27, Try.ntmps27
  go_wp2_with (go_at_call 16; refine HH.out.2.2.2.2.2.1.mono ?_; rintro e w2 ⟨N, nl, rfl, hNb, hni, hnc, hb2⟩; have H2 := Lib.hid (And.intro hNb (And.intro (NulOk.mk hni hnc) (And.intro (below2 HH.out.2.2.2.2.1 hb2) (HH.out.2.2.2.1.below hb2)))); clear hNb hni hnc hb2)
  refine wp_region_grow (by kernel_rfl) (by kernel_rfl) (by kernel_rfl) (LdV c s N nl (.agg #[.slice A1 c.toks.length c1, .slice A2 c.names.length c2, .slice A3 c.alts.length c3]) u) LdV.below ?_ ?_
  · intro i o ho val w3 hB3 hd
    have hX := H2.out.2.2.2.below hB3
    have x0 := hX.cell 0 (v := .slice A1 c.toks.length c1) rfl
    have x1 := hX.cell 1 (v := .slice A2 c.names.length c2) rfl
    have x2 := hX.cell 2 (v := .slice A3 c.alts.length c3) rfl
    have hb30 := below2 H2.out.2.2.1 hB3
    have hcfg := HH.out.1.below hb30
    have hu3 := HH.out.2.2.2.2.2.2.below hb30
    have hns := slBool (H2.out.1.below hB3) H2.out.2.1.inv.1 (by omega)
    have hi : i < 12 := (List.getElem?_eq_some_iff.1 ho).1
    have : i = 0 ∨ i = 1 ∨ i = 2 ∨ i = 3 ∨ i = 4 ∨ i = 5 ∨ i = 6 ∨ i = 7 ∨ i = 8 ∨ i = 9 ∨ i = 10 ∨ i = 11 := by omega
    rcases this with rfl | rfl | rfl | rfl | rfl | rfl | rfl | rfl | rfl | rfl | rfl | rfl <;> cases ho
    · exact does_value (exec_load rfl rfl (by go_simp)) ⟨Below.refl _ _, rfl⟩
    · exact does_value (exec_move (.inl rfl) rfl) ⟨Below.refl _ _, rfl⟩
    · exact does_value (exec_move (.inl rfl) rfl) ⟨Below.refl _ _, rfl⟩
    · exact does_value (exec_load rfl rfl (by go_simp)) ⟨Below.refl _ _, rfl⟩
    · have e3 : val 3 = .agg #[.slice A1 c.toks.length c1, .slice A2 c.names.length c2, .slice A3 c.alts.length c3] := hd 3 ⟨⟨3, .data⟩, by simp, rfl, rfl⟩
      refine does_enter (f := 19) (args := #[.agg #[.slice A1 c.toks.length c1, .slice A2 c.names.length c2, .slice A3 c.alts.length c3]]) (w := w3) (exec_call rfl rfl (by simp only [List.map_toArray, List.map_cons, List.map_nil]; exact congrArg (fun x => #[x]) e3) Try.func19 (by decide) rfl) ?_
      refine (refFirst_calls c _ w3 hcfg HH.out.2.1 HH.out.2.2.1 h0).mono ?_
      rintro e w' ⟨O, ls, rfl, hL, hR, hb, _⟩
      exact ⟨_, rfl, hb, O, ls, rfl, hL, hR⟩
    · have e0 : val 0 = .agg #[.slice A1 c.toks.length c1, .slice A2 c.names.length c2, .slice A3 c.alts.length c3] := hd 0 ⟨⟨0, .data⟩, by simp, rfl, rfl⟩
      have e1 : val 1 = u := hd 1 ⟨⟨1, .data⟩, by simp, rfl, rfl⟩
      have e2 : val 2 = .slice (some ⟨N, 0, none⟩) c.alts.length c.alts.length := hd 2 ⟨⟨2, .data⟩, by simp, rfl, rfl⟩
      obtain ⟨O, ls, e4, hL, hR⟩ : ∃ O ls, val 4 = .slice (some ⟨O, 0, none⟩) c.alts.length c.alts.length ∧ LRow w3 O ls ∧ RisAll c.alts.length (Frs c) ls := hd 4 ⟨⟨4, .data⟩, by simp, rfl, rfl⟩
      refine does_enter (f := 48) (args := #[.agg #[.slice A1 c.toks.length c1, .slice A2 c.names.length c2, .slice A3 c.alts.length c3], u, .slice (some ⟨N, 0, none⟩) c.alts.length c.alts.length, .slice (some ⟨O, 0, none⟩) c.alts.length c.alts.length]) (w := w3) (exec_call rfl rfl (by simp only [List.map_toArray, List.map_cons, List.map_nil]; exact args4 e0 e1 e2 e4) Try.func48 (by decide) rfl) ?_
      refine (rlead_calls c s nl ls _ _ _ _ w3 hcfg hu3 hns (hL.sl hR.1 (by omega)) H2.out.2.1.inv.1 hR.1 (by omega) (fun l hl => by have := ris_bound HH.out.2.1 hR l hl; omega) hsl).mono ?_
      rintro e w' ⟨v', ks, rfl, hI', hR', hm', hk', hb⟩
      exact ⟨_, rfl, hb, ks, hI', hR', fun t => (hm' t).trans (lead_iff H2.out.2.1 (frsI_of hR) (frsC_of H2.out.2.1 hR) s t)⟩
    · exact does_value (exec_load rfl rfl (by go_simp)) ⟨Below.refl _ _, rfl⟩
    · exact does_value (exec_move (.inl rfl) rfl) ⟨Below.refl _ _, rfl⟩
    · exact does_value (exec_move (.inl rfl) rfl) ⟨Below.refl _ _, rfl⟩
    · have e6 : val 6 = .agg #[.slice A1 c.toks.length c1, .slice A2 c.names.length c2, .slice A3 c.alts.length c3] := hd 6 ⟨⟨6, .data⟩, by simp, rfl, rfl⟩
      have e7 : val 7 = u := hd 7 ⟨⟨7, .data⟩, by simp, rfl, rfl⟩
      have e8 : val 8 = .slice (some ⟨N, 0, none⟩) c.alts.length c.alts.length := hd 8 ⟨⟨8, .data⟩, by simp, rfl, rfl⟩
      refine does_enter (f := 44) (args := #[.agg #[.slice A1 c.toks.length c1, .slice A2 c.names.length c2, .slice A3 c.alts.length c3], u, .slice (some ⟨N, 0, none⟩) c.alts.length c.alts.length]) (w := w3) (exec_call rfl rfl (by simp only [List.map_toArray, List.map_cons, List.map_nil]; exact args3 e6 e7 e8) Try.func44 (by decide) rfl) ?_
      refine (empty_calls c s nl _ _ _ w3 hcfg hu3 hns H2.out.2.1.inv.1 (by omega)).mono ?_
      rintro e w' ⟨rfl, hb⟩
      exact ⟨_, rfl, hb, rfl⟩
    · obtain ⟨ks, h1, h2⟩ : ∃ ks, IL w3 (val 5) ks ∧ Rising ks ∧ ∀ t, t ∈ ks ↔ Ldp c s t := hd 5 ⟨⟨5, .data⟩, by simp, rfl, rfl⟩
      exact does_value (v := val 5) (w := w3) (exec_move (.inr rfl) rfl) ⟨Below.refl _ _, ks, h1, h2⟩
    · have e9 : val 9 = .bool (emptyP nl s) := hd 9 ⟨⟨9, .data⟩, by simp, rfl, rfl⟩
      exact does_value (v := .bool (emptyP nl s)) (w := w3) (exec_move (.inr rfl) e9) ⟨Below.refl _ _, rfl⟩
  · intro val w3 hB3 hV
    obtain ⟨ks, hI, hR, hm⟩ : ∃ ks, IL w3 (val 10) ks ∧ Rising ks ∧ ∀ t, t ∈ ks ↔ Ldp c s t := hV 10 (by decide)
    have e11 : val 11 = .bool (emptyP nl s) := hV 11 (by decide)
    obtain ⟨v10, hv10⟩ : ∃ v10, v10 = val 10 := ⟨_, rfl⟩
    rw [← hv10] at hI
    have e10 : val 10 = v10 := hv10.symm
    obtain ⟨A10, c10, rfl, _, _, _, _⟩ := id hI.sl
    have H3 := Lib.hid (And.intro hI (And.intro hR (And.intro hm hB3)))
    clear hV hI hR hm hB3 hv10
    simp [fillAll, List.range, List.range.loop, dstOf, Act.put, e10, e11]
    clear e10 e11
    go_wp2
    go_ret2
    exact ⟨_, ks, _, rfl, H3.out.1, H3.out.2.1, H3.out.2.2.1, empty_iff H2.out.2.1 s, below2 H2.out.2.2.1 H3.out.2.2.2⟩
end Go.Proofs.Ytigbfankkmmnbaa
set_option linter.unusedVariables false
set_option linter.unusedSimpArgs false
namespace Go.Proofs.Ytigbfankkmmnbaa
open Go.RowKit Gk

theorem isOf_lt {c : Cfg} {s : List Int} : ∀ k ∈ s.filter (isOf c), k < c.toks.length := fun k hk => by
  have h := (List.mem_filter.1 hk).2
  unfold isOf at h
  have := of_decide_eq_true h
  omega
/-- two tellings of one lead are one -/
theorem lead9_one {c : Cfg} {s a b : List Int} {x y : Bool} (ha : Rising a) (hb : Rising b) (h1 : ∀ t, t ∈ a ↔ Ldp c s t) (h2 : ∀ t, t ∈ b ↔ Ldp c s t) (hx : x = true ↔ Gen c s []) (hy : y = true ↔ Gen c s []) : b = a ∧ y = x :=
  ⟨rising_ext hb ha fun t => (h2 t).trans (h1 t).symm, by rw [Bool.eq_iff_iff]; exact hy.trans hx.symm⟩
set_option maxRecDepth 100000 in
set_option maxHeartbeats 8000000 in
theorem setsLead_walk (w : World) {v u1 : Value} (c : Cfg) (h : CfgV w v c) (ht : TokOk v) (s : List Int) (hk : Sl Ty.int w u1 s) :
    Calls Try.prog 4 #[v, u1] w fun e w' => e = .returned (.bool true) ∧ Below w.heap.size w w' := by
  obtain ⟨a0, b0, d0, rfl, h1, h2, h3⟩ := id h
  obtain ⟨A1, c1, rfl, hc1, hm1, _, hr1⟩ := id h1
  obtain ⟨A2, c2, rfl, hc2, hm2, _, hr2⟩ := id h2
  obtain ⟨A3, c3, rfl, hc3, hm3, hl3, hr3⟩ := id h3
  obtain ⟨AT, cT, rfl, t1, t2, t3, _⟩ := id hk
  unfold LB at hl3 t3
  have HH := Lib.hid (And.intro h (And.intro ht hk))
  clear h ht hk h1 h2 h3 hr1 hr2 hr3
  have hB1 := Box.new w #[.slice A1 c.toks.length c1, .slice A2 c.names.length c2, .slice A3 c.alts.length c3] 25
  have hb1 : Below w.heap.size w (w.alloc (.cells #[.slice A1 c.toks.length c1, .slice A2 c.names.length c2, .slice A3 c.alts.length c3] 25)) := (Below.refl _ _).alloc (Nat.le_refl _) _
  have HB := Lib.hid (And.intro hB1 hb1)
  clear hB1 hb1
  go_enter Try.func4, Try.ntmps4
  by_cases hlen : 100 < s.length
  · have hd : decide ((s.length : Int) > 100) = true := decide_eq_true (by omega)
    go_wp2_with (first | (go_at_call 12; refine (live9_calls _).mono ?_; rintro e w1 ⟨rfl, hbl⟩; have hbx1 := HB.out.1.below hbl; have x0 := hbx1.cell 0 (v := .slice A1 c.toks.length c1) rfl; have x1 := hbx1.cell 1 (v := .slice A2 c.names.length c2) rfl; have x2 := hbx1.cell 2 (v := .slice A3 c.alts.length c3) rfl; have H1 := Lib.hid (And.intro (below2 HB.out.2 hbl) hbx1); clear hbl hbx1) | (go_at_call 13; refine (fewS_calls _ c _ (HH.out.1.below H1.out.1) HH.out.2.1).mono ?_; rintro e w2 ⟨bf, rfl, hbf, hfw⟩; have H2 := Lib.hid (below2 H1.out.1 hbf); clear hbf hfw; cases bf))
    · go_ret
      exact ⟨rfl, H2.out⟩
    · go_ret
      exact ⟨rfl, H2.out⟩
  · have hd : decide ((s.length : Int) > 100) = false := decide_eq_false (by omega)
    go_wp2_with (first
      | (go_at_call 12; refine (live9_calls _).mono ?_; rintro e w1 ⟨rfl, hbl⟩; have hbx1 := HB.out.1.below hbl; have x0 := hbx1.cell 0 (v := .slice A1 c.toks.length c1) rfl; have x1 := hbx1.cell 1 (v := .slice A2 c.names.length c2) rfl; have x2 := hbx1.cell 2 (v := .slice A3 c.alts.length c3) rfl; have H1 := Lib.hid (And.intro (below2 HB.out.2 hbl) hbx1); clear hbl hbx1)
      | (go_at_call 13; refine (fewS_calls _ c _ (HH.out.1.below H1.out.1) HH.out.2.1).mono ?_; rintro e w2 ⟨bf, rfl, hbf, hfw⟩; have hbx2 := H1.out.2.below hbf; have y0 := hbx2.cell 0 (v := .slice A1 c.toks.length c1) rfl; have y1 := hbx2.cell 1 (v := .slice A2 c.names.length c2) rfl; have y2 := hbx2.cell 2 (v := .slice A3 c.alts.length c3) rfl; have H2 := Lib.hid (And.intro (below2 H1.out.1 hbf) (And.intro hbx2 hfw)); clear hbf hbx2 hfw; cases bf; all_goals first | (have hfs := H2.out.2.2 (by first | rfl | trivial); have hsa : c.alts.length ≤ 200 := (by have q1 := hfs.2.1.1; have q2 := hfs.1.1; omega); have hsb : c.toks.length ≤ 200 := (by have q1 := hfs.2.1.1; have q2 := hfs.1.1; omega); have HF := Lib.hid hfs; clear hfs) | skip)
      | (go_at_call 25; refine (within_calls c s _ _ _ (HH.out.1.below H2.out.1) (HH.out.2.2.below H2.out.1) (by omega) (by omega) (by omega)).mono ?_; rintro e w3 ⟨v3, rfl, hO3, hb3⟩; have hs3 := hO3.sl; obtain ⟨A5, c5, rfl, g1, g2, g3, _⟩ := id hs3; have hbx3 := H2.out.2.1.below hb3; have z0 := hbx3.cell 0 (v := .slice A1 c.toks.length c1) rfl; have z1 := hbx3.cell 1 (v := .slice A2 c.names.length c2) rfl; have z2 := hbx3.cell 2 (v := .slice A3 c.alts.length c3) rfl; have hfl : (s.filter (isOf c)).length ≤ 100 := Nat.le_trans (List.length_filter_le _ _) (by omega); have H3 := Lib.hid (And.intro hs3 (And.intro (below2 H2.out.1 hb3) (And.intro hbx3 hfl))); clear hO3 hs3 hb3 hbx3 g1 g2 g3 hfl)
      | (go_at_call 26; refine (plead_calls c _ _ (s.filter (isOf c)) _ (HH.out.1.below H3.out.2.1) HF.out.2.1 HF.out.1 H3.out.1 isOf_lt (by have := H3.out.2.2.2; omega)).mono ?_; rintro e w4 ⟨v4, k4, be4, rfl, hI4, hR4, hm4, he4, hb4⟩; obtain ⟨A6, c6, rfl, _, _, _, _⟩ := id hI4.sl; have hbx4 := H3.out.2.2.1.below hb4; have q0 := hbx4.cell 0 (v := .slice A1 c.toks.length c1) rfl; have q1 := hbx4.cell 1 (v := .slice A2 c.names.length c2) rfl; have q2 := hbx4.cell 2 (v := .slice A3 c.alts.length c3) rfl; have H4 := Lib.hid (And.intro hI4 (And.intro hR4 (And.intro hm4 (And.intro he4 (And.intro hb4 (below2 H3.out.2.1 hb4)))))); clear hI4 hR4 hm4 he4 hb4 hbx4)
      | (go_at_call 27; refine (refLead_calls c _ _ (s.filter (isOf c)) _ (HH.out.1.below H4.out.2.2.2.2.2) HF.out.2.1 HF.out.1 HF.out.2.2 (H3.out.1.below H4.out.2.2.2.2.1) (by have := H3.out.2.2.2; omega)).mono ?_; rintro e w5 ⟨v5, k5, be5, rfl, hI5, hR5, hm5, he5, hb5⟩; obtain ⟨e1, e2⟩ := lead9_one H4.out.2.1 hR5 H4.out.2.2.1 hm5 H4.out.2.2.2.1 he5; subst e1; subst e2; obtain ⟨A7, c7, rfl, _, _, _, _⟩ := id hI5.sl; have hsame := sameInts_calls _ _ _ _ w5 (H4.out.1.ki (KI.below hb5)).sl hI5.sl; rw [decide_eq_true (rfl : k5 = k5)] at hsame; have H5 := Lib.hid (And.intro hsame (below2 H4.out.2.2.2.2.2 hb5)); clear hsame hI5 hR5 hm5 he5 hb5)
      | (go_at_call 22; refine H5.out.1.mono ?_; rintro e w6 ⟨rfl, hD6⟩))
    · go_ret
      exact ⟨rfl, H2.out.1⟩
    · go_ret
      exact ⟨rfl, below2 H5.out.2 hD6.below⟩
end Go.Proofs.Ytigbfankkmmnbaa
set_option linter.unusedVariables false
set_option linter.unusedSimpArgs false
namespace Go.Proofs.Ytigbfankkmmnbaa
open Go.RowKit Gk

def best9 (short : List Int) (al : List (List Int)) : Int := al.foldl (fun m a => min m (sum9 short a)) farI
theorem ShortOk.inv {c : Cfg} {s : List Int} (h : ShortOk c s) : ShI c s := ⟨h.1, fun r m hm => ⟨(h.2 r m hm).nn, (h.2 r m hm).le, (h.2 r m hm).at_⟩⟩
theorem ShortOk.cl {c : Cfg} {s : List Int} (hok : CfgOk c) (h : ShortOk c s) : ShC c s := fun r m al a hm hal ha => by
  rw [len9_eq h.inv]
  have hin : ∀ k ∈ a, k < 0 → -1 - k < c.alts.length := fun k hk hk0 => by
    have h9 := hok.1
    have := hok.2 al (List.mem_of_getElem? hal) a ha k hk
    rcases this with h | h <;> omega
  by_cases hlt : sum9 s a < farI
  · obtain ⟨x, hx, hl⟩ := sum9_sound h.inv a hin hlt
    have := (h.2 r m hm).lb al a x hal ha hx
    omega
  · have := (h.2 r m hm).le
    omega
theorem best9_le (short : List Int) : ∀ (al : List (List Int)) (m : Int), al.foldl (fun m a => min m (sum9 short a)) m ≤ m ∧ ∀ a ∈ al, al.foldl (fun m a => min m (sum9 short a)) m ≤ sum9 short a := by
  intro al
  induction al with
  | nil => intro m; exact ⟨Int.le_refl _, fun a h => by simp at h⟩
  | cons a al ih =>
    intro m
    obtain ⟨h1, h2⟩ := ih (min m (sum9 short a))
    rw [List.foldl_cons]
    refine ⟨by omega, fun b hb => ?_⟩
    rcases List.mem_cons.1 hb with rfl | hb
    · omega
    · exact h2 b hb
theorem best9_ge (short : List Int) : ∀ (al : List (List Int)) (m k : Int), k ≤ m → (∀ a ∈ al, k ≤ sum9 short a) → k ≤ al.foldl (fun m a => min m (sum9 short a)) m := by
  intro al
  induction al with
  | nil => intro m k h _; exact h
  | cons a al ih =>
    intro m k h h2
    rw [List.foldl_cons]
    have := h2 a (by simp)
    exact ih _ k (by omega) fun b hb => h2 b (by simp [hb])
theorem short_best {c : Cfg} {s : List Int} (hok : CfgOk c) (h : ShortOk c s) {r : Nat} {m : Int} {al : List (List Int)} (hm : s[r]? = some m) (hal : c.alts[r]? = some al) : m = best9 s al := by
  have hm' := h.2 r m hm
  have h1 : m ≤ best9 s al := best9_ge s al farI m hm'.le fun a ha => by
    have := h.cl hok r m al a hm hal ha
    rw [len9_eq h.inv] at this; omega
  have h2 := best9_le s al farI
  by_cases hf : m < farI
  · obtain ⟨al', a, x, e1, e2, e3, e4⟩ := hm'.at_ hf
    rw [hal] at e1; injection e1 with e1; subst e1
    have h3 := sum9_complete h.inv (h.cl hok) e3
    have h4 := h2.2 a e2
    unfold best9 at *; omega
  · have := h2.1
    unfold best9 at *; omega
theorem sum9_snoc (out : List Int) : ∀ (s : List Int) (k : Int), sum9 out (s ++ [k]) = sum9 out s + mor9 out k := by
  intro s
  induction s with
  | nil => intro k; simp [sum9]
  | cons a s ih => intro k; simp only [List.cons_append, sum9, ih]; omega
theorem sum9_le {c : Cfg} {out : List Int} (h : ShI c out) : ∀ s : List Int, sum9 out s ≤ s.length * farI := by
  intro s
  induction s with
  | nil => simp [sum9]
  | cons k s ih =>
    have := (mor9_nn h k).2
    simp only [sum9, List.length_cons]
    have : ((s.length + 1 : Nat) : Int) * farI = s.length * farI + farI := by unfold farI; omega
    omega
set_option maxRecDepth 100000 in
set_option maxHeartbeats 8000000 in
theorem setsShort_walk (w : World) {v : Value} (c : Cfg) (h : CfgV w v c) (ht : TokOk v) :
    Calls Try.prog 7 #[v] w fun e w' => e = .returned (.bool true) ∧ Below w.heap.size w w' := by
  obtain ⟨a0, b0, d0, rfl, h1, h2, h3⟩ := id h
  obtain ⟨A1, c1, rfl, hc1, hm1, _, hr1⟩ := id h1
  obtain ⟨A2, c2, rfl, hc2, hm2, _, hr2⟩ := id h2
  obtain ⟨A3, c3, rfl, hc3, hm3, hl3, hr3⟩ := id h3
  unfold LB at hl3
  have HH := Lib.hid (And.intro h (And.intro ht True.intro))
  clear h ht h1 h2 h3 hr1 hr2
  have hB1 := Box.new w #[.slice A1 c.toks.length c1, .slice A2 c.names.length c2, .slice A3 c.alts.length c3] 25
  have hb1 : Below w.heap.size w (w.alloc (.cells #[.slice A1 c.toks.length c1, .slice A2 c.names.length c2, .slice A3 c.alts.length c3] 25)) := (Below.refl _ _).alloc (Nat.le_refl _) _
  have HB := Lib.hid (And.intro hB1 hb1)
  clear hB1 hb1
  go_enter Try.func7, Try.ntmps7
  go_wp2_with (first
      | (go_at_call 12; refine (live9_calls _).mono ?_; rintro e w1 ⟨rfl, hbl⟩; have hbx1 := HB.out.1.below hbl; have x0 := hbx1.cell 0 (v := .slice A1 c.toks.length c1) rfl; have x1 := hbx1.cell 1 (v := .slice A2 c.names.length c2) rfl; have x2 := hbx1.cell 2 (v := .slice A3 c.alts.length c3) rfl; have H1 := Lib.hid (And.intro (below2 HB.out.2 hbl) hbx1); clear hbl hbx1)
      | (go_at_call 13; refine (fewS_calls _ c _ (HH.out.1.below H1.out.1) HH.out.2.1).mono ?_; rintro e w2 ⟨bf, rfl, hbf, hfw⟩; have hbx2 := H1.out.2.below hbf; have y0 := hbx2.cell 0 (v := .slice A1 c.toks.length c1) rfl; have y1 := hbx2.cell 1 (v := .slice A2 c.names.length c2) rfl; have y2 := hbx2.cell 2 (v := .slice A3 c.alts.length c3) rfl; have H2 := Lib.hid (And.intro (below2 H1.out.1 hbf) (And.intro hbx2 hfw)); clear hbf hbx2 hfw; cases bf; all_goals first | (have hfs := H2.out.2.2 (by first | rfl | trivial); have hsa : c.alts.length ≤ 200 := (by have q1 := hfs.2.1.1; have q2 := hfs.1.1; omega); have hsb : c.toks.length ≤ 200 := (by have q1 := hfs.2.1.1; have q2 := hfs.1.1; omega); have HF := Lib.hid hfs; clear hfs) | skip)
      | (go_at_call 23; refine (short_calls c _ _ (HH.out.1.below H2.out.1) HF.out.2.1 HF.out.1 HF.out.2.2).mono ?_; rintro e w3 ⟨v3, short, rfl, hso, hI3, hb3⟩; obtain ⟨A4, f4, rfl, g1, g2, g3, hr4⟩ := id hI3.sl; (rw [hso.1] at g1 g3 ⊢); unfold LB at g3; have hbx3 := H2.out.2.1.below hb3; have z0 := hbx3.cell 0 (v := .slice A1 c.toks.length c1) rfl; have z1 := hbx3.cell 1 (v := .slice A2 c.names.length c2) rfl; have z2 := hbx3.cell 2 (v := .slice A3 c.alts.length c3) rfl; have H3 := Lib.hid (And.intro hso (below2 H2.out.1 hb3)); clear hso hI3 hb3 hbx3))
  · go_ret
    exact ⟨rfl, H2.out.1⟩
  · go_loopw [29] (fun i wr => (∃ s : Nat, s ≤ c.alts.length ∧ i = .int .i64 s) ∧ Below w3.heap.size w3 wr) (fun i _ => c.alts.length - (intOf i).toNat)
    case atStart => exact ⟨⟨0, Nat.zero_le _, rfl⟩, Below.refl _ _⟩
    case round =>
      obtain ⟨⟨s, hs, rfl⟩, hB⟩ := hrel
      have HBr := Lib.hid (And.intro hB (below2 H3.out.2 hB))
      clear hB
      by_cases hlt : s < c.alts.length
      · obtain ⟨al, hal1⟩ := at_lt c.alts hlt
        obtain ⟨ad3, B3, c4, rfl, hcellB, g1', g2', g3', g4⟩ := (hr3.below HBr.out.2).slice hal1
        obtain ⟨m, hm⟩ := at_lt short (show s < short.length by rw [H3.out.1.1]; exact hlt)
        have hbest := short_best HF.out.2.1 H3.out.1 hm hal1
        have hall := (HF.out.1.2 al (List.mem_of_getElem? hal1)).1
        have hal2 := (HF.out.1.2 al (List.mem_of_getElem? hal1)).2
        have hinA := HF.out.2.1.2 al (List.mem_of_getElem? hal1)
        have HM := Lib.hid (And.intro hm (And.intro hbest (And.intro hal2 hinA)))
        clear hm hbest hal1 hal2 hinA
        obtain ⟨wo, rfl⟩ : ∃ wo : World, wo = wr := ⟨_, rfl⟩
        go_wp2
        go_loopw [36, 7] (fun i q wr => (∃ (j : Nat) (x : Int), j ≤ al.length ∧ i = .int .i64 j ∧ q = .int .i64 x ∧ 0 ≤ x ∧ x ≤ 2147483647 ∧ Hid (x = best9 short (al.take j))) ∧ Below wo.heap.size wo wr) (fun i _ _ => al.length - (intOf i).toNat)
        case atStart => exact ⟨⟨0, 2147483647, Nat.zero_le _, rfl, rfl, by omega, by omega, by simp [Hid, best9, farI]⟩, Below.refl _ _⟩
        case round =>
          obtain ⟨⟨j, x, hj, rfl, rfl, hx0, hx1, hE⟩, hB2⟩ := hrel
          have HE := Lib.hid (And.intro (show x = best9 short (al.take j) from hE) hB2)
          have g4r := g4.below hB2
          clear hE hB2
          by_cases hlt2 : j < al.length
          · obtain ⟨a, ha⟩ := at_lt al hlt2
            obtain ⟨adA, BA, cA, rfl, hcellA, a1, a2, a3, a4⟩ := g4r.slice ha
            have hal := HM.out.2.2.1 a (List.mem_of_getElem? ha)
            have hina := HM.out.2.2.2 a (List.mem_of_getElem? ha)
            have HA := Lib.hid (And.intro ha hina)
            clear ha hina
            obtain ⟨wp, rfl⟩ : ∃ wp : World, wp = wr := ⟨_, rfl⟩
            go_wp2
            go_loopw [42, 10] (fun i q wr => (∃ (n : Nat) (y : Int), n ≤ a.length ∧ i = .int .i64 n ∧ q = .int .i64 y ∧ 0 ≤ y ∧ y ≤ n * 2147483647 ∧ Hid (y = sum9 short (a.take n))) ∧ Below wp.heap.size wp wr) (fun i _ _ => a.length - (intOf i).toNat)
            case atStart => exact ⟨⟨0, 0, Nat.zero_le _, rfl, rfl, by omega, by omega, by simp [Hid, sum9]⟩, Below.refl _ _⟩
            case round =>
              obtain ⟨⟨n, y, hn, rfl, rfl, hy0, hy1, hY⟩, hB3⟩ := hrel
              have HY := Lib.hid (And.intro (show y = sum9 short (a.take n) from hY) hB3)
              have a4r := a4.below hB3
              have hr4r := ((hr4.below HBr.out.1).below HE.out.2).below hB3
              clear hY hB3
              by_cases hlt3 : n < a.length
              · obtain ⟨k, hk⟩ := at_lt a hlt3
                obtain ⟨adK, rfl, hk64, hcellK⟩ := a4r.int hk
                have hstep : Hid (sum9 short (a.take (n + 1)) = sum9 short (a.take n) + mor9 short k) := by
                  show _ = _
                  rw [take_next hk, sum9_snoc]
                have hkin := HA.out.2 k (List.mem_of_getElem? hk)
                have hka := hk64.1
                have hkb := hk64.2
                clear hk
                by_cases hk0 : k ≥ 0
                · have hmor : Hid (mor9 short k = 1) := by show _ = _; unfold mor9; rw [if_neg (by omega)]
                  clear hkin hk64
                  go_wp2
                  refine ⟨⟨⟨n + 1, y + 1, by omega, by simp, rfl, by omega, by omega, ?_⟩, HY.out.2⟩, by simp [intOf]; omega⟩
                  show _ = _
                  have h1 : sum9 short _ = _ := hstep
                  have h2 : mor9 short k = 1 := hmor
                  rw [h1, h2, ← HY.out.1]
                · have hkr : -1 - k < (c.alts.length : Int) := by have := HF.out.2.1.1; rcases hkin with h | h <;> omega
                  obtain ⟨ρ, hρ⟩ : ∃ ρ : Nat, -1 - k = ρ := ⟨(-1 - k).toNat, by omega⟩
                  have hρl : ρ < short.length := by rw [H3.out.1.1]; omega
                  have hwr : IntKind.i64.wrap (-1 - k) = ρ := by rw [IntKind.wrap_i64]; omega
                  have hρc : ρ < c.alts.length := by omega
                  obtain ⟨z, hz⟩ := at_lt short hρl
                  have hzr := H3.out.1.2 ρ z hz
                  have hz0 := hzr.nn
                  have hz1 : z ≤ 2147483647 := hzr.le
                  obtain ⟨ad4, rfl, hz64, hcellz⟩ := hr4r.int hz
                  have hmor : Hid (mor9 short k = z) := by
                    show _ = _
                    unfold mor9; rw [if_pos (by omega), show (-1 - k).toNat = ρ by omega, hz]
                  clear hkin hk64 hz hzr hz64 hρl
                  have HR := Lib.hid hρ
                  clear hρ
                  go_wp2
                  refine ⟨⟨⟨n + 1, y + z, by omega, by simp, rfl, by omega, by omega, ?_⟩, HY.out.2⟩, by simp [intOf]; omega⟩
                  show _ = _
                  have h1 : sum9 short _ = _ := hstep
                  have h2 : mor9 short k = z := hmor
                  rw [h1, h2, ← HY.out.1]
              · have hne : n = a.length := by omega
                subst hne
                go_wp2
                refine ⟨⟨⟨j + 1, min x y, by omega, by simp, rfl, by omega, by omega, ?_⟩, below2 HE.out.2 HY.out.2⟩, by simp [intOf]; omega⟩
                show _ = _
                have h2 := HY.out.1
                rw [List.take_length] at h2
                unfold best9
                rw [take_next HA.out.1, List.foldl_append, h2, HE.out.1]
                rfl
          · have hje : j = al.length := by omega
            subst hje
            have hxm : x = m := by
              have h2 := HE.out.1
              rw [List.take_length] at h2
              rw [h2, HM.out.2.1]
            subst hxm
            obtain ⟨ad4, rfl, hz64, hcellz⟩ := ((hr4.below HBr.out.1).below HE.out.2).int HM.out.1
            clear hz64
            go_wp2
            exact ⟨⟨⟨s + 1, by omega, by simp⟩, below2 HBr.out.1 HE.out.2⟩, by simp [intOf]; omega⟩
      · have hse : s = c.alts.length := by omega
        subst hse
        go_wp2
        go_ret
        exact ⟨rfl, HBr.out.2⟩
end Go.Proofs.Ytigbfankkmmnbaa
