/- few of layer 09: if it answers yes the grammar is in shape; within: the walk; The reference's Lead: the walk; SetsLead: the walk; A region of open order in which a slot may be read before its writer, and edges that bind nothing may look ahead. -/
import Derived.Test.YtigbfankkmmnbaaZ06
import Derived.Test.YtigbfankkmmnbaaZ08
import Derived.Test.YtigbfankkmmnbaaZ19
import Derived.Test.YtigbfankkmmnbaaZ07
import Derived.Test.YtigbfankkmmnbaaZ20
set_option linter.unusedVariables false
set_option linter.unusedSimpArgs false
namespace Go.Proofs.Ytigbfankkmmnbaa
open Go.RowKit Gk

set_option maxRecDepth 100000 in
set_option maxHeartbeats 4000000 in
theorem fewS_calls (v : Value) (c : Cfg) (w : World) (h : CfgV w v c) (hu : TokOk v) :
    Calls Try.prog 13 #[v] w (fewOk c w) := by
  have h0 := h
  obtain ⟨a0, b0, d0, rfl, h1, h2, h3⟩ := h
  obtain ⟨A1, c1, rfl, hc1, hm1, _, hr1⟩ := h1
  obtain ⟨A2, c2, rfl, hc2, hm2, _, hr2⟩ := h2
  obtain ⟨A3, c3, rfl, hc3, hm3, _, hr3⟩ := h3
  clear hr1 hr2 hr3
  have hA := (Below.refl w.heap.size w).alloc (Nat.le_refl _) (.cells #[.slice A1 c.toks.length c1, .slice A2 c.names.length c2, .slice A3 c.alts.length c3] 25)
  have hB := Box.new w #[.slice A1 c.toks.length c1, .slice A2 c.names.length c2, .slice A3 c.alts.length c3] 25
  have kf := few_calls _ c 200 _ (h0.below hA) (by omega) (by omega)
  go_enter Try.func13, Try.ntmps13
  go_wp2_with (first | (go_at_call 41; (with_reducible refine kf.mono ?_); rintro e w1 ⟨b1, rfl, hW1, hsm0⟩; have hsm : b1 = true → Small 200 c := fun h => (hsm0 h).le (by omega); clear hsm0; have hB1 := hB.below hW1; have b10 := hB1.cell 0 (v := .slice A1 c.toks.length c1) rfl; have b11 := hB1.cell 1 (v := .slice A2 c.names.length c2) rfl; have b12 := hB1.cell 2 (v := .slice A3 c.alts.length c3) rfl; have hBW := below2 hA hW1; replace hsm : IfSmall b1 c := hsm; cases b1) | (go_at_call 42; refine (valid_calls _ c _ (h0.below hBW) hu (hsm rfl)).mono ?_; rintro e w2 ⟨r, rfl, hW2, hok⟩; have hBW2 := below2 hBW hW2; have hok := Lib.hid hok; rcases icmp_any r 0 with ⟨y1, y2, y3⟩ | ⟨y1, y2, y3⟩))
  all_goals
    go_ret
    first
      | exact ⟨true, rfl, hBW2, fun _ => ⟨hsm rfl, hok.out y3.out⟩⟩
      | exact ⟨false, rfl, hBW2, fun h => by cases h⟩
      | exact ⟨false, rfl, hBW, fun h => by cases h⟩
end Go.Proofs.Ytigbfankkmmnbaa
set_option linter.unusedVariables false
set_option linter.unusedSimpArgs false
namespace Go.Proofs.Ytigbfankkmmnbaa
open Go.RowKit Gk

abbrev OwnI (B : Nat) (w : World) (v : Value) (x : List Int) : Prop := Own Ty.int 3 B (fun _ => True) w v x
def isOf (c : Cfg) (k : Int) : Bool := decide ((k < 0 ∧ -1 - k < c.alts.length) ∨ (0 ≤ k ∧ k < c.toks.length))
def withinEnd (c : Cfg) (s : List Int) (w : World) (e : Ending) (w' : World) : Prop := ∃ v, e = .returned v ∧ OwnI w.heap.size w' v (s.filter (isOf c)) ∧ Below w.heap.size w w'
set_option maxRecDepth 100000 in
set_option maxHeartbeats 4000000 in
theorem within_calls (c : Cfg) (s : List Int) (v u : Value) (w : World) (h : CfgV w v c) (hu : Sl Ty.int w u s) (hsl : s.length ≤ 1000) (hal : c.alts.length ≤ 1000) (htk : c.toks.length ≤ 1000) :
    Calls Try.prog 25 #[v, u] w (withinEnd c s w) := by
  obtain ⟨a0, b0, d0, rfl, h1, h2, h3⟩ := id h
  obtain ⟨A1, c1, rfl, hc1, hm1, hl1, hr1⟩ := id h1
  obtain ⟨A2, c2, rfl, hc2, hm2, hl2, hr2⟩ := id h2
  obtain ⟨A3, c3, rfl, hc3, hm3, hl3, hr3⟩ := id h3
  obtain ⟨AU, cU, rfl, ku1, ku2, ku3, ku4⟩ := id hu
  unfold LB at hl1 hl3 ku3
  clear h h1 h2 h3 hu hr1 hr2 hr3
  go_enter Try.func25, Try.ntmps25
  have hbx := Box.new w #[.slice A1 c.toks.length c1, .slice A2 c.names.length c2, .slice A3 c.alts.length c3] 25
  have hba : Below w.heap.size w (w.alloc (.cells #[.slice A1 c.toks.length c1, .slice A2 c.names.length c2, .slice A3 c.alts.length c3] 25)) := (Below.refl _ _).alloc (Nat.le_refl _) _
  have hszb : (w.alloc (.cells #[.slice A1 c.toks.length c1, .slice A2 c.names.length c2, .slice A3 c.alts.length c3] 25)).heap.size = w.heap.size + 1 := by simp
  go_wp2
  generalize w.alloc (.cells #[.slice A1 c.toks.length c1, .slice A2 c.names.length c2, .slice A3 c.alts.length c3] 25) = wb at *
  go_loopw [10, 5] (fun i o wr => (∃ n : Nat, n ≤ s.length ∧ i = .int .i64 n ∧ OwnI (w.heap.size + 1) wr o ((s.take n).filter (isOf c))) ∧ Below wb.heap.size wb wr) (fun i _ _ => s.length - (intOf i).toNat)
  case atStart => exact ⟨⟨0, Nat.zero_le _, rfl, Own.nil _ _ _ _ _⟩, Below.refl _ _⟩
  case round =>
    obtain ⟨⟨n, hn, rfl, hO⟩, hB⟩ := hrel
    have HB := Lib.hid (And.intro hO hB)
    have hwr := below2 hba hB
    have ku4r := ku4.below hwr
    have hbr := hbx.below hB
    have x0 := hbr.cell 0 (v := .slice A1 c.toks.length c1) rfl
    have x2 := hbr.cell 2 (v := .slice A3 c.alts.length c3) rfl
    have hszr := hB.size
    clear hO hB hwr
    by_cases hlt : n < s.length
    · obtain ⟨k, hk⟩ := at_lt s hlt
      obtain ⟨ad, rfl, hk64, hcell⟩ := ku4r.int hk
      have HK := Lib.hid hk; clear hk
      have hk1 := hk64.1
      have hk2 := hk64.2
      have hyes : isOf c k = true → Hid ((s.take (n + 1)).filter (isOf c) = (s.take n).filter (isOf c) ++ [k]) := fun h => by
        show _ = _; rw [take_next HK.out, List.filter_append]; simp [h]
      have hno : isOf c k = false → Hid ((s.take (n + 1)).filter (isOf c) = (s.take n).filter (isOf c)) := fun h => by
        show _ = _; rw [take_next HK.out, List.filter_append]; simp [h]
      have HY := Lib.hid (And.intro hyes hno)
      have hO' := Lib.hid HB.out.1
      clear hyes hno
      have hfl : ((s.take n).filter (isOf c)).length ≤ 1000 := Nat.le_trans (List.length_filter_le _ _) (by simp; omega)
      obtain ⟨A5, c5, o5, _, _, _, _⟩ := HB.out.1.sl
      obtain ⟨fl, hfe⟩ : ∃ fl, fl = (s.take n).filter (isOf c) := ⟨_, rfl⟩
      rw [← hfe] at hfl
      have HFE := Lib.hid hfe; clear hfe
      have hO2 : Hid (OwnI (w.heap.size + 1) wr u5 fl) := by rw [HFE.out]; exact HB.out.1
      clear o5
      by_cases hk0 : k < 0
      · have hwp : IntKind.i64.wrap (-1 - k) = -1 - k := by rw [IntKind.wrap_i64]; omega
        by_cases hr : -1 - k < (c.alts.length : Int)
        · have hy : isOf c k = true := decide_eq_true (.inl ⟨hk0, hr⟩)
          have hd : decide (-1 - k < (c.alts.length : Int)) = true := decide_eq_true hr
          obtain ⟨wo, rfl⟩ : ∃ wo : World, wo = wr := ⟨_, rfl⟩
          go_wp2_with (at_builtin; refine wpList_app (T := Ty.int) (xs := fl) (w0 := wb) (W := wo) (B := w.heap.size + 1) (D := fun _ => True) rfl (.tmp 35) (.tmp 37) 35 3 8 rfl elemInt rfl k #[.int .i64 k] _ rfl rfl hO2 (fun _ _ => trivial) (fun _ _ _ => ⟨rfl, hk64⟩) (HB.out.2.mono (by omega)) (by omega) (by omega) ?_; intro v3 w3 hO3 hB3 _ _)
          refine ⟨⟨⟨n + 1, by omega, by simp, ?_⟩, by rw [hszb]; exact hB3⟩, by simp [intOf]; omega⟩
          have h := HY.out.1 hy
          rw [show List.filter _ _ = _ from h, ← HFE.out]; exact hO3
        · have hy : isOf c k = false := decide_eq_false (fun h => by omega)
          have hd : decide (-1 - k < (c.alts.length : Int)) = false := decide_eq_false hr
          go_wp2
          refine ⟨⟨⟨n + 1, by omega, by simp, ?_⟩, HB.out.2⟩, by simp [intOf]; omega⟩
          have h := HY.out.2 hy
          rw [show List.filter _ _ = _ from h]; exact HB.out.1
      · by_cases hr : k < (c.toks.length : Int)
        · have hy : isOf c k = true := decide_eq_true (.inr ⟨by omega, hr⟩)
          obtain ⟨wo, rfl⟩ : ∃ wo : World, wo = wr := ⟨_, rfl⟩
          go_wp2_with (at_builtin; refine wpList_app (T := Ty.int) (xs := fl) (w0 := wb) (W := wo) (B := w.heap.size + 1) (D := fun _ => True) rfl (.tmp 35) (.tmp 37) 35 3 8 rfl elemInt rfl k #[.int .i64 k] _ rfl rfl hO2 (fun _ _ => trivial) (fun _ _ _ => ⟨rfl, hk64⟩) (HB.out.2.mono (by omega)) (by omega) (by omega) ?_; intro v3 w3 hO3 hB3 _ _)
          refine ⟨⟨⟨n + 1, by omega, by simp, ?_⟩, by rw [hszb]; exact hB3⟩, by simp [intOf]; omega⟩
          have h := HY.out.1 hy
          rw [show List.filter _ _ = _ from h, ← HFE.out]; exact hO3
        · have hy : isOf c k = false := decide_eq_false (fun h => by omega)
          go_wp2
          refine ⟨⟨⟨n + 1, by omega, by simp, ?_⟩, HB.out.2⟩, by simp [intOf]; omega⟩
          have h := HY.out.2 hy
          rw [show List.filter _ _ = _ from h]; exact HB.out.1
    · have hne : n = s.length := by omega
      have HNE := Lib.hid hne; clear hne
      obtain ⟨A5, c5, o5, _, _, _, _⟩ := HB.out.1.sl
      clear o5
      go_wp2
      go_ret
      refine ⟨_, rfl, ?_, below2 hba HB.out.2⟩
      have h := HB.out.1
      rw [HNE.out, List.take_length] at h
      obtain ⟨css, ⟨g1, g2⟩, q2, q3, q5, q4⟩ := h
      refine ⟨css, ⟨g1, ?_⟩, q2, q3, q5, q4⟩
      rcases g2 with g2 | ⟨g, cap, cur, e, r1, r2⟩
      · exact .inl g2
      · exact .inr ⟨g, cap, cur, e, by omega, r2⟩
end Go.Proofs.Ytigbfankkmmnbaa
set_option linter.unusedVariables false
set_option linter.unusedSimpArgs false
namespace Go.Proofs.Ytigbfankkmmnbaa
open Go.RowKit Gk

def LdV (c : Cfg) (s : List Int) (N : Nat) (nl : List Bool) (cv uv : Value) (i : Nat) (v : Value) (w : World) : Prop := match i with
  | 0 => v = cv
  | 1 => v = uv
  | 2 => v = .slice (some ⟨N, 0, none⟩) c.alts.length c.alts.length
  | 3 => v = cv
  | 4 => ∃ O ls, v = .slice (some ⟨O, 0, none⟩) c.alts.length c.alts.length ∧ LRow w O ls ∧ RisAll c.alts.length (Frs c) ls
  | 5 => ∃ ks, IL w v ks ∧ Rising ks ∧ ∀ t, t ∈ ks ↔ Ldp c s t
  | 6 => v = cv
  | 7 => v = uv
  | 8 => v = .slice (some ⟨N, 0, none⟩) c.alts.length c.alts.length
  | 9 => v = .bool (emptyP nl s)
  | 10 => ∃ ks, IL w v ks ∧ Rising ks ∧ ∀ t, t ∈ ks ↔ Ldp c s t
  | _ => v = .bool (emptyP nl s)
theorem LdV.below {c : Cfg} {s : List Int} {N : Nat} {nl : List Bool} {cv uv : Value} : ∀ (i : Nat) (v : Value) (w w' : World), LdV c s N nl cv uv i v w → Below w.heap.size w w' → LdV c s N nl cv uv i v w'
  | 0, _, _, _, h, _ => h
  | 1, _, _, _, h, _ => h
  | 2, _, _, _, h, _ => h
  | 3, _, _, _, h, _ => h
  | 4, _, _, _, ⟨O, ls, h1, h2, h3⟩, k => ⟨O, ls, h1, h2.below k, h3⟩
  | 5, _, _, _, ⟨ks, h, h2⟩, k => ⟨ks, h.ki (KI.below k), h2⟩
  | 6, _, _, _, h, _ => h
  | 7, _, _, _, h, _ => h
  | 8, _, _, _, h, _ => h
  | 9, _, _, _, h, _ => h
  | 10, _, _, _, ⟨ks, h, h2⟩, k => ⟨ks, h.ki (KI.below k), h2⟩
  | _ + 11, _, _, _, h, _ => h
theorem frsI_of {c : Cfg} {ls : List (List Int)} (h : RisAll c.alts.length (Frs c) ls) : FrsI c ls := ⟨h.1, fun r l hl t ht => ((h.2 r l hl).2 t).1 ht⟩
theorem frsC_of {c : Cfg} {nl : List Bool} (hn : NulOk c nl) {ls : List (List Int)} (h : RisAll c.alts.length (Frs c) ls) : FrsC c nl ls := fun r al a hal ha t ht => by
  have hr : r < ls.length := by rw [h.1]; exact (List.getElem?_eq_some_iff.1 hal).1
  rw [getD_some (List.getElem?_eq_getElem hr)]
  exact ((h.2 r _ (List.getElem?_eq_getElem hr)).2 t).2 ⟨al, a, hal, ha, lead_sound hn (frsI_of h) a t ht⟩
theorem ris_bound {c : Cfg} (hok : CfgOk c) {ls : List (List Int)} (h : RisAll c.alts.length (Frs c) ls) : ∀ l ∈ ls, l.length ≤ c.toks.length + 1 := fun l hl => by
  obtain ⟨i, hi⟩ := List.mem_iff_getElem?.1 hl
  refine nodup_small (rising_nodup (h.2 i l hi).1) fun t ht => ?_
  have := frs_tok hok (((h.2 i l hi).2 t).1 ht)
  omega
set_option maxRecDepth 100000 in
set_option maxHeartbeats 4000000 in
theorem refLead_calls (c : Cfg) (v u : Value) (s : List Int) (w : World) (h : CfgV w v c) (hok : CfgOk c) (hsm : Small 200 c) (h0 : 0 < c.alts.length) (hu : Sl Ty.int w u s) (hsl : s.length ≤ 200) : Calls Try.prog 27 #[v, u] w (leadEnd9 c s w) := by
  have hal : c.alts.length ≤ 200 := by have := hok.1; have := hsm.1; omega
  have htl : c.toks.length ≤ 200 := by have := hsm.1; omega
  obtain ⟨a0, b0, d0, rfl, h1, h2, h3⟩ := id h
  obtain ⟨A1, c1, rfl, hc1, hm1, _, hr1⟩ := id h1
  obtain ⟨A2, c2, rfl, hc2, hm2, _, hr2⟩ := id h2
  obtain ⟨A3, c3, rfl, hc3, hm3, hl3, hr3⟩ := id h3
  have hB1 := Box.new w #[.slice A1 c.toks.length c1, .slice A2 c.names.length c2, .slice A3 c.alts.length c3] 25
  have hb1 : Below w.heap.size w (w.alloc (.cells #[.slice A1 c.toks.length c1, .slice A2 c.names.length c2, .slice A3 c.alts.length c3] 25)) := (Below.refl _ _).alloc (Nat.le_refl _) _
  have hnul := nullable_calls c _ _ (h.below hb1) hok hsm h0
  have HH := Lib.hid (And.intro h (And.intro hok (And.intro hsm (And.intro hB1 (And.intro hb1 (And.intro hnul hu))))))
  clear h hok hsm h1 h2 h3 hr1 hr2 hr3 hB1 hb1 hnul hu
  go_enter Try.func27, Try.ntmps27
  go_wp2_with (go_at_call 16; refine HH.out.2.2.2.2.2.1.mono ?_; rintro e w2 ⟨N, nl, rfl, hNb, hni, hnc, hb2⟩; have H2 := Lib.hid (And.intro hNb (And.intro (NulOk.mk hni hnc) (And.intro (below2 HH.out.2.2.2.2.1 hb2) (HH.out.2.2.2.1.below hb2)))); clear hNb hni hnc hb2)
  refine wp_region_grow (by kernel_rfl) (by kernel_rfl) (by kernel_rfl) (LdV c s N nl (.agg #[.slice A1 c.toks.length c1, .slice A2 c.names.length c2, .slice A3 c.alts.length c3]) u) LdV.below ?_ ?_
  · intro i o ho val w3 hB3 hd
    have hX := H2.out.2.2.2.below hB3
    have x0 := hX.cell 0 (v := .slice A1 c.toks.length c1) rfl
    have x1 := hX.cell 1 (v := .slice A2 c.names.length c2) rfl
    have x2 := hX.cell 2 (v := .slice A3 c.alts.length c3) rfl
    have hb30 := below2 H2.out.2.2.1 hB3
    have hcfg := HH.out.1.below hb30
    have hu3 := HH.out.2.2.2.2.2.2.below hb30
    have hns := slBool (H2.out.1.below hB3) H2.out.2.1.inv.1 (by omega)
    have hi : i < 12 := (List.getElem?_eq_some_iff.1 ho).1
    have : i = 0 ∨ i = 1 ∨ i = 2 ∨ i = 3 ∨ i = 4 ∨ i = 5 ∨ i = 6 ∨ i = 7 ∨ i = 8 ∨ i = 9 ∨ i = 10 ∨ i = 11 := by omega
    rcases this with rfl | rfl | rfl | rfl | rfl | rfl | rfl | rfl | rfl | rfl | rfl | rfl <;> cases ho
    · exact does_value (exec_load rfl rfl (by go_simp)) ⟨Below.refl _ _, rfl⟩
    · exact does_value (exec_move (.inl rfl) rfl) ⟨Below.refl _ _, rfl⟩
    · exact does_value (exec_move (.inl rfl) rfl) ⟨Below.refl _ _, rfl⟩
    · exact does_value (exec_load rfl rfl (by go_simp)) ⟨Below.refl _ _, rfl⟩
    · have e3 : val 3 = .agg #[.slice A1 c.toks.length c1, .slice A2 c.names.length c2, .slice A3 c.alts.length c3] := hd 3 ⟨⟨3, .data⟩, by simp, rfl, rfl⟩
      refine does_enter (f := 19) (args := #[.agg #[.slice A1 c.toks.length c1, .slice A2 c.names.length c2, .slice A3 c.alts.length c3]]) (w := w3) (exec_call rfl rfl (by simp only [List.map_toArray, List.map_cons, List.map_nil]; exact congrArg (fun x => #[x]) e3) Try.func19 (by decide) rfl) ?_
      refine (refFirst_calls c _ w3 hcfg HH.out.2.1 HH.out.2.2.1 h0).mono ?_
      rintro e w' ⟨O, ls, rfl, hL, hR, hb, _⟩
      exact ⟨_, rfl, hb, O, ls, rfl, hL, hR⟩
    · have e0 : val 0 = .agg #[.slice A1 c.toks.length c1, .slice A2 c.names.length c2, .slice A3 c.alts.length c3] := hd 0 ⟨⟨0, .data⟩, by simp, rfl, rfl⟩
      have e1 : val 1 = u := hd 1 ⟨⟨1, .data⟩, by simp, rfl, rfl⟩
      have e2 : val 2 = .slice (some ⟨N, 0, none⟩) c.alts.length c.alts.length := hd 2 ⟨⟨2, .data⟩, by simp, rfl, rfl⟩
      obtain ⟨O, ls, e4, hL, hR⟩ : ∃ O ls, val 4 = .slice (some ⟨O, 0, none⟩) c.alts.length c.alts.length ∧ LRow w3 O ls ∧ RisAll c.alts.length (Frs c) ls := hd 4 ⟨⟨4, .data⟩, by simp, rfl, rfl⟩
      refine does_enter (f := 48) (args := #[.agg #[.slice A1 c.toks.length c1, .slice A2 c.names.length c2, .slice A3 c.alts.length c3], u, .slice (some ⟨N, 0, none⟩) c.alts.length c.alts.length, .slice (some ⟨O, 0, none⟩) c.alts.length c.alts.length]) (w := w3) (exec_call rfl rfl (by simp only [List.map_toArray, List.map_cons, List.map_nil]; exact args4 e0 e1 e2 e4) Try.func48 (by decide) rfl) ?_
      refine (rlead_calls c s nl ls _ _ _ _ w3 hcfg hu3 hns (hL.sl hR.1 (by omega)) H2.out.2.1.inv.1 hR.1 (by omega) (fun l hl => by have := ris_bound HH.out.2.1 hR l hl; omega) hsl).mono ?_
      rintro e w' ⟨v', ks, rfl, hI', hR', hm', hk', hb⟩
      exact ⟨_, rfl, hb, ks, hI', hR', fun t => (hm' t).trans (lead_iff H2.out.2.1 (frsI_of hR) (frsC_of H2.out.2.1 hR) s t)⟩
    · exact does_value (exec_load rfl rfl (by go_simp)) ⟨Below.refl _ _, rfl⟩
    · exact does_value (exec_move (.inl rfl) rfl) ⟨Below.refl _ _, rfl⟩
    · exact does_value (exec_move (.inl rfl) rfl) ⟨Below.refl _ _, rfl⟩
    · have e6 : val 6 = .agg #[.slice A1 c.toks.length c1, .slice A2 c.names.length c2, .slice A3 c.alts.length c3] := hd 6 ⟨⟨6, .data⟩, by simp, rfl, rfl⟩
      have e7 : val 7 = u := hd 7 ⟨⟨7, .data⟩, by simp, rfl, rfl⟩
      have e8 : val 8 = .slice (some ⟨N, 0, none⟩) c.alts.length c.alts.length := hd 8 ⟨⟨8, .data⟩, by simp, rfl, rfl⟩
      refine does_enter (f := 44) (args := #[.agg #[.slice A1 c.toks.length c1, .slice A2 c.names.length c2, .slice A3 c.alts.length c3], u, .slice (some ⟨N, 0, none⟩) c.alts.length c.alts.length]) (w := w3) (exec_call rfl rfl (by simp only [List.map_toArray, List.map_cons, List.map_nil]; exact args3 e6 e7 e8) Try.func44 (by decide) rfl) ?_
      refine (empty_calls c s nl _ _ _ w3 hcfg hu3 hns H2.out.2.1.inv.1 (by omega)).mono ?_
      rintro e w' ⟨rfl, hb⟩
      exact ⟨_, rfl, hb, rfl⟩
    · obtain ⟨ks, h1, h2⟩ : ∃ ks, IL w3 (val 5) ks ∧ Rising ks ∧ ∀ t, t ∈ ks ↔ Ldp c s t := hd 5 ⟨⟨5, .data⟩, by simp, rfl, rfl⟩
      exact does_value (v := val 5) (w := w3) (exec_move (.inr rfl) rfl) ⟨Below.refl _ _, ks, h1, h2⟩
    · have e9 : val 9 = .bool (emptyP nl s) := hd 9 ⟨⟨9, .data⟩, by simp, rfl, rfl⟩
      exact does_value (v := .bool (emptyP nl s)) (w := w3) (exec_move (.inr rfl) e9) ⟨Below.refl _ _, rfl⟩
  · intro val w3 hB3 hV
    obtain ⟨ks, hI, hR, hm⟩ : ∃ ks, IL w3 (val 10) ks ∧ Rising ks ∧ ∀ t, t ∈ ks ↔ Ldp c s t := hV 10 (by decide)
    have e11 : val 11 = .bool (emptyP nl s) := hV 11 (by decide)
    obtain ⟨v10, hv10⟩ : ∃ v10, v10 = val 10 := ⟨_, rfl⟩
    rw [← hv10] at hI
    have e10 : val 10 = v10 := hv10.symm
    obtain ⟨A10, c10, rfl, _, _, _, _⟩ := id hI.sl
    have H3 := Lib.hid (And.intro hI (And.intro hR (And.intro hm hB3)))
    clear hV hI hR hm hB3 hv10
    simp [fillAll, List.range, List.range.loop, dstOf, Act.put, e10, e11]
    clear e10 e11
    go_wp2
    go_ret2
    exact ⟨_, ks, _, rfl, H3.out.1, H3.out.2.1, H3.out.2.2.1, empty_iff H2.out.2.1 s, below2 H2.out.2.2.1 H3.out.2.2.2⟩
end Go.Proofs.Ytigbfankkmmnbaa
set_option linter.unusedVariables false
set_option linter.unusedSimpArgs false
namespace Go.Proofs.Ytigbfankkmmnbaa
open Go.RowKit Gk

theorem isOf_lt {c : Cfg} {s : List Int} : ∀ k ∈ s.filter (isOf c), k < c.toks.length := fun k hk => by
  have h := (List.mem_filter.1 hk).2
  unfold isOf at h
  have := of_decide_eq_true h
  omega
/-- two tellings of one lead are one -/
theorem lead9_one {c : Cfg} {s a b : List Int} {x y : Bool} (ha : Rising a) (hb : Rising b) (h1 : ∀ t, t ∈ a ↔ Ldp c s t) (h2 : ∀ t, t ∈ b ↔ Ldp c s t) (hx : x = true ↔ Gen c s []) (hy : y = true ↔ Gen c s []) : b = a ∧ y = x :=
  ⟨rising_ext hb ha fun t => (h2 t).trans (h1 t).symm, by rw [Bool.eq_iff_iff]; exact hy.trans hx.symm⟩
set_option maxRecDepth 100000 in
set_option maxHeartbeats 8000000 in
theorem setsLead_walk (w : World) {v u1 : Value} (c : Cfg) (h : CfgV w v c) (ht : TokOk v) (s : List Int) (hk : Sl Ty.int w u1 s) :
    Calls Try.prog 4 #[v, u1] w fun e w' => e = .returned (.bool true) ∧ Below w.heap.size w w' := by
  obtain ⟨a0, b0, d0, rfl, h1, h2, h3⟩ := id h
  obtain ⟨A1, c1, rfl, hc1, hm1, _, hr1⟩ := id h1
  obtain ⟨A2, c2, rfl, hc2, hm2, _, hr2⟩ := id h2
  obtain ⟨A3, c3, rfl, hc3, hm3, hl3, hr3⟩ := id h3
  obtain ⟨AT, cT, rfl, t1, t2, t3, _⟩ := id hk
  unfold LB at hl3 t3
  have HH := Lib.hid (And.intro h (And.intro ht hk))
  clear h ht hk h1 h2 h3 hr1 hr2 hr3
  have hB1 := Box.new w #[.slice A1 c.toks.length c1, .slice A2 c.names.length c2, .slice A3 c.alts.length c3] 25
  have hb1 : Below w.heap.size w (w.alloc (.cells #[.slice A1 c.toks.length c1, .slice A2 c.names.length c2, .slice A3 c.alts.length c3] 25)) := (Below.refl _ _).alloc (Nat.le_refl _) _
  have HB := Lib.hid (And.intro hB1 hb1)
  clear hB1 hb1
  go_enter Try.func4, Try.ntmps4
  by_cases hlen : 100 < s.length
  · have hd : decide ((s.length : Int) > 100) = true := decide_eq_true (by omega)
    go_wp2_with (first | (go_at_call 12; refine (live9_calls _).mono ?_; rintro e w1 ⟨rfl, hbl⟩; have hbx1 := HB.out.1.below hbl; have x0 := hbx1.cell 0 (v := .slice A1 c.toks.length c1) rfl; have x1 := hbx1.cell 1 (v := .slice A2 c.names.length c2) rfl; have x2 := hbx1.cell 2 (v := .slice A3 c.alts.length c3) rfl; have H1 := Lib.hid (And.intro (below2 HB.out.2 hbl) hbx1); clear hbl hbx1) | (go_at_call 13; refine (fewS_calls _ c _ (HH.out.1.below H1.out.1) HH.out.2.1).mono ?_; rintro e w2 ⟨bf, rfl, hbf, hfw⟩; have H2 := Lib.hid (below2 H1.out.1 hbf); clear hbf hfw; cases bf))
    · go_ret
      exact ⟨rfl, H2.out⟩
    · go_ret
      exact ⟨rfl, H2.out⟩
  · have hd : decide ((s.length : Int) > 100) = false := decide_eq_false (by omega)
    go_wp2_with (first
      | (go_at_call 12; refine (live9_calls _).mono ?_; rintro e w1 ⟨rfl, hbl⟩; have hbx1 := HB.out.1.below hbl; have x0 := hbx1.cell 0 (v := .slice A1 c.toks.length c1) rfl; have x1 := hbx1.cell 1 (v := .slice A2 c.names.length c2) rfl; have x2 := hbx1.cell 2 (v := .slice A3 c.alts.length c3) rfl; have H1 := Lib.hid (And.intro (below2 HB.out.2 hbl) hbx1); clear hbl hbx1)
      | (go_at_call 13; refine (fewS_calls _ c _ (HH.out.1.below H1.out.1) HH.out.2.1).mono ?_; rintro e w2 ⟨bf, rfl, hbf, hfw⟩; have hbx2 := H1.out.2.below hbf; have y0 := hbx2.cell 0 (v := .slice A1 c.toks.length c1) rfl; have y1 := hbx2.cell 1 (v := .slice A2 c.names.length c2) rfl; have y2 := hbx2.cell 2 (v := .slice A3 c.alts.length c3) rfl; have H2 := Lib.hid (And.intro (below2 H1.out.1 hbf) (And.intro hbx2 hfw)); clear hbf hbx2 hfw; cases bf; all_goals first | (have hfs := H2.out.2.2 (by first | rfl | trivial); have hsa : c.alts.length ≤ 200 := (by have q1 := hfs.2.1.1; have q2 := hfs.1.1; omega); have hsb : c.toks.length ≤ 200 := (by have q1 := hfs.2.1.1; have q2 := hfs.1.1; omega); have HF := Lib.hid hfs; clear hfs) | skip)
      | (go_at_call 25; refine (within_calls c s _ _ _ (HH.out.1.below H2.out.1) (HH.out.2.2.below H2.out.1) (by omega) (by omega) (by omega)).mono ?_; rintro e w3 ⟨v3, rfl, hO3, hb3⟩; have hs3 := hO3.sl; obtain ⟨A5, c5, rfl, g1, g2, g3, _⟩ := id hs3; have hbx3 := H2.out.2.1.below hb3; have z0 := hbx3.cell 0 (v := .slice A1 c.toks.length c1) rfl; have z1 := hbx3.cell 1 (v := .slice A2 c.names.length c2) rfl; have z2 := hbx3.cell 2 (v := .slice A3 c.alts.length c3) rfl; have hfl : (s.filter (isOf c)).length ≤ 100 := Nat.le_trans (List.length_filter_le _ _) (by omega); have H3 := Lib.hid (And.intro hs3 (And.intro (below2 H2.out.1 hb3) (And.intro hbx3 hfl))); clear hO3 hs3 hb3 hbx3 g1 g2 g3 hfl)
      | (go_at_call 26; refine (plead_calls c _ _ (s.filter (isOf c)) _ (HH.out.1.below H3.out.2.1) HF.out.2.1 HF.out.1 H3.out.1 isOf_lt (by have := H3.out.2.2.2; omega)).mono ?_; rintro e w4 ⟨v4, k4, be4, rfl, hI4, hR4, hm4, he4, hb4⟩; obtain ⟨A6, c6, rfl, _, _, _, _⟩ := id hI4.sl; have hbx4 := H3.out.2.2.1.below hb4; have q0 := hbx4.cell 0 (v := .slice A1 c.toks.length c1) rfl; have q1 := hbx4.cell 1 (v := .slice A2 c.names.length c2) rfl; have q2 := hbx4.cell 2 (v := .slice A3 c.alts.length c3) rfl; have H4 := Lib.hid (And.intro hI4 (And.intro hR4 (And.intro hm4 (And.intro he4 (And.intro hb4 (below2 H3.out.2.1 hb4)))))); clear hI4 hR4 hm4 he4 hb4 hbx4)
      | (go_at_call 27; refine (refLead_calls c _ _ (s.filter (isOf c)) _ (HH.out.1.below H4.out.2.2.2.2.2) HF.out.2.1 HF.out.1 HF.out.2.2 (H3.out.1.below H4.out.2.2.2.2.1) (by have := H3.out.2.2.2; omega)).mono ?_; rintro e w5 ⟨v5, k5, be5, rfl, hI5, hR5, hm5, he5, hb5⟩; obtain ⟨e1, e2⟩ := lead9_one H4.out.2.1 hR5 H4.out.2.2.1 hm5 H4.out.2.2.2.1 he5; subst e1; subst e2; obtain ⟨A7, c7, rfl, _, _, _, _⟩ := id hI5.sl; have hsame := sameInts_calls _ _ _ _ w5 (H4.out.1.ki (KI.below hb5)).sl hI5.sl; rw [decide_eq_true (rfl : k5 = k5)] at hsame; have H5 := Lib.hid (And.intro hsame (below2 H4.out.2.2.2.2.2 hb5)); clear hsame hI5 hR5 hm5 he5 hb5)
      | (go_at_call 22; refine H5.out.1.mono ?_; rintro e w6 ⟨rfl, hD6⟩))
    · go_ret
      exact ⟨rfl, H2.out.1⟩
    · go_ret
      exact ⟨rfl, below2 H5.out.2 hD6.below⟩
end Go.Proofs.Ytigbfankkmmnbaa
set_option linter.unusedVariables false
set_option linter.unusedSimpArgs false
namespace Gk
open Go Go.RowKit
section
variable {P : Program} {ops : Array Oper} {Q : Exit → Act → World → Prop}
/-- each slot is filled by one operation, guards and edges look back, no select -/
def regOk7 (ops : Array Oper) (n : Nat) : Bool :=
  (List.range ops.size).all fun j => match ops[j]? with
    | none => false
    | some o => (match o.dst with | some t => dstIdx ops t == some j && decide (t < n) | none => true) && o.after.toList.all (fun e => !Region.binds .any e || decide (e.on < j)) &&
      (match o.guard with | some (g, _) => o.after.toList.any (fun e => e.on == g && Region.binds .any e) | none => true) &&
      o.op.operands.toList.all (fun x => match x with | .tmp t => (match dstIdx ops t with | some k => o.after.toList.any (fun e => e.on == k && Region.binds .any e) || late ops j k | none => true) | _ => true) &&
      (match o.op with | .select .. => false | .defer .. => false | _ => true)
def StepOb7 (P : Program) (ops : Array Oper) (a0 : Act) (I : (Nat → Bool) → (Nat → Value) → World → Prop) (i : Nat) : Prop :=
  ∀ o, ops[i]? = some o → ∀ L val w, I L val w → L i = false → (∀ e ∈ o.after, Region.binds .any e = true → L e.on = true) →
    if guardv val ops o.guard = true then does P ((execOp (opv4 ops a0 val i) o).run P w) (fun v w' => I (up L i) (upd val i v) w') else I (up L i) (upd val i undef) w
theorem regOk7_at {n : Nat} (h : regOk7 ops n = true) {j : Nat} {o : Oper} (hj : ops[j]? = some o) :
    (∀ t : Nat, o.dst = some t → dstIdx ops t = some j ∧ t < n) ∧ (∀ e ∈ o.after, Region.binds .any e = true → e.on < j) ∧ (∀ g b, o.guard = some (g, b) → ∃ e ∈ o.after, e.on = g ∧ Region.binds .any e = true) ∧
    (∀ t k, .tmp t ∈ o.op.operands → dstIdx ops t = some k → (∃ e ∈ o.after, e.on = k ∧ Region.binds .any e = true) ∨ late ops j k = true) ∧ (∀ cs b, o.op ≠ .select cs b) ∧ (∀ c, o.op ≠ .defer c) := by
  have hlt : j < ops.size := (Array.getElem?_eq_some_iff.1 hj).1
  have h1 := List.all_eq_true.1 h j (List.mem_range.2 hlt)
  rw [hj] at h1
  simp only [Bool.and_eq_true] at h1
  obtain ⟨⟨⟨⟨h1, h2⟩, h3⟩, h4⟩, h5⟩ := h1
  refine ⟨fun t ht => ?_, fun e he hb9 => ?_, fun g b hg => ?_, fun t k ht hk => ?_, fun cs b hs => ?_, fun c hc => ?_⟩
  · rw [ht] at h1; simp at h1; exact h1
  · have := List.all_eq_true.1 h2 e (Array.mem_toList_iff.2 he); rw [hb9] at this; simpa using this
  · rw [hg] at h3
    obtain ⟨e, he, h3⟩ := List.any_eq_true.1 h3
    simp at h3; exact ⟨e, Array.mem_toList_iff.1 he, h3.1, h3.2⟩
  · have h4 := List.all_eq_true.1 h4 _ (Array.mem_toList_iff.2 ht)
    simp only [hk] at h4
    rcases Bool.or_eq_true_iff.1 h4 with h4 | h4
    · obtain ⟨e, he, h4⟩ := List.any_eq_true.1 h4
      simp at h4; exact .inl ⟨e, Array.mem_toList_iff.1 he, h4.1, h4.2⟩
    · exact .inr h4
  · rw [hs] at h5; simp at h5
  · rw [hc] at h5; simp at h5

theorem Fr.put7 {n : Nat} (h : regOk7 ops n = true) {a0 a : Act} {L : Nat → Bool} {val : Nat → Value} (hn : n ≤ a0.tmps.size) (hf : Fr ops a0 L val a) {i : Nat} {o : Oper} (hi : ops[i]? = some o) (v : Value) : Fr ops a0 (up L i) (upd val i v) (a.put o.dst v) := by
  obtain ⟨h1, h2, h3, h4, h5⟩ := regOk7_at h hi
  have hother : ∀ t, o.dst ≠ some t → slotv ops a0 (up L i) (upd val i v) t = slotv ops a0 L val t := by
    intro t ht
    unfold slotv
    split
    · rename_i j hj
      have hji : j ≠ i := by
        rintro rfl
        have := List.find?_some hj
        simp [dstOf, hi] at this
        exact ht this
      simp [up, upd, hji]
    · rfl
  cases hd : o.dst with
  | none => exact ⟨hf.defers, hf.size, fun t => by rw [hother t (by simp [hd])]; exact hf.slot t⟩
  | some d =>
    obtain ⟨e1, e2⟩ := h1 d hd
    refine ⟨hf.defers, by simp [Act.put, hf.size], fun t => ?_⟩
    by_cases htd : t = d
    · subst htd
      have hsz : t < a.tmps.size := by rw [hf.size]; exact Nat.lt_of_lt_of_le e2 hn
      simp [Act.put, slotv, e1, up, upd, Array.getD_eq_getD_getElem?, hsz]
    · rw [hother t (by rw [hd]; intro e; injection e with e; exact htd e.symm), ← hf.slot t]
      simp only [Act.put, Array.getD_eq_getD_getElem?]
      rw [Array.getElem?_setIfInBounds_ne (by intro e; exact htd e.symm)]

theorem Fr.exec7 {n : Nat} (h : regOk7 ops n = true) {a0 a : Act} {L : Nat → Bool} {val : Nat → Value} (hf : Fr ops a0 L val a) {i : Nat} {o : Oper} (hi : ops[i]? = some o) (hL : ∀ e ∈ o.after, Region.binds .any e = true → L e.on = true) (hLi : L i = false) (hcl : ∀ k o, ops[k]? = some o → L k = true → ∀ e ∈ o.after, Region.binds .any e = true → L e.on = true) :
    execOp a.eval o = execOp (opv4 ops a0 val i) o := by
  obtain ⟨h1, h2, h3, h4, h5, h6⟩ := regOk7_at h hi
  refine execOp_congr o h5 fun x hx => ?_
  cases x with
  | tmp t =>
    show a.tmps.getD t undef = _
    rw [hf.slot t]
    show _ = (match dstIdx ops t with | some j => if late ops i j then a0.tmps.getD t undef else val j | none => a0.tmps.getD t undef)
    unfold slotv
    split
    · rename_i j hj
      show _ = (match dstIdx ops t with | some j => if late ops i j then a0.tmps.getD t undef else val j | none => a0.tmps.getD t undef)
      rw [hj]
      show _ = (if late ops i j then a0.tmps.getD t undef else val j)
      by_cases hlt : late ops i j = true
      · rw [if_pos hlt]
        have hLj : L j = false := by
          rcases hLj : L j with _ | _
          · rfl
          · exfalso
            unfold late at hlt
            cases hoj : ops[j]? with
            | none => rw [hoj] at hlt; cases hlt
            | some oj =>
              rw [hoj] at hlt
              obtain ⟨e, he, h7⟩ := List.any_eq_true.1 hlt
              simp at h7
              have := hcl j oj hoj hLj e (Array.mem_toList_iff.1 he) h7.2
              rw [h7.1, hLi] at this; cases this
        rw [if_neg (by rw [hLj]; decide)]
      · rcases h4 t j hx hj with ⟨e, he, hej, hb⟩ | h7
        · rw [if_neg hlt, if_pos (by rw [← hej]; exact hL e he hb)]
        · exact absurd h7 hlt
    · rename_i hj
      rw [hj]
  | const v => rfl
  | global g => rfl
  | func f => rfl
theorem Fr.wanted7 {n : Nat} (h : regOk7 ops n = true) {a0 a : Act} {L : Nat → Bool} {val : Nat → Value} (hn : n ≤ a0.tmps.size) (hf : Fr ops a0 L val a) {i : Nat} {o : Oper} (hi : ops[i]? = some o) (hL : ∀ e ∈ o.after, Region.binds .any e = true → L e.on = true) :
    Region.wanted o (yielded ops a.tmps) = guardv val ops o.guard := by
  obtain ⟨h1, h2, h3, h4, h5, h6⟩ := regOk7_at h hi
  unfold Region.wanted guardv
  cases hg : o.guard with
  | none => rfl
  | some gb =>
    obtain ⟨g, b⟩ := gb
    obtain ⟨e, he, heg, hb⟩ := h3 g b hg
    have hLg : L g = true := by rw [← heg]; exact hL e he hb
    simp only [yielded, dstOf]
    cases hog : ops[g]? with
    | none => rfl
    | some og =>
      simp only [Option.bind_some]
      cases hdg : og.dst with
      | none => rfl
      | some d =>
        obtain ⟨e1, e2⟩ := (regOk7_at h hog).1 d hdg
        have hs := hf.slot d
        unfold slotv at hs
        rw [e1] at hs
        simp only [hLg, if_true] at hs
        have hsz : d < a.tmps.size := by rw [hf.size]; exact Nat.lt_of_lt_of_le e2 hn
        have hv : a.tmps[d]? = some (val g) := by
          rw [← hs]; simp [Array.getD_eq_getD_getElem?, hsz]
        simp only [Option.bind_some, hv]
        cases val g <;> first | rfl | simp

theorem wpAny_inv7 {n : Nat} (h : regOk7 ops n = true) {a0 : Act} (hn : n ≤ a0.tmps.size) (I : (Nat → Bool) → (Nat → Value) → World → Prop) (hs : ∀ i, i < ops.size → StepOb7 P ops a0 I i)
    (hend : ∀ val w a, I (fun j => decide (j < ops.size)) val w → Fr ops a0 (fun j => decide (j < ops.size)) val a → Q .normal a w) :
    ∀ (fuel : Nat) (L : Nat → Bool) (val : Nat → Value) (l : Array Bool) (a : Act) (w : World), todo L ops.size ≤ fuel → l.size = ops.size → (∀ j, j < ops.size → l.getD j true = L j) → (∀ j, ops.size ≤ j → L j = false) → I L val w → Fr ops a0 L val a → (∀ k o, ops[k]? = some o → L k = true → ∀ e ∈ o.after, Region.binds .any e = true → L e.on = true) →
      wpAny P .any ops Q fuel l a w := by
  intro fuel
  -- where nothing may come up all is done
  have hall : ∀ (L : Nat → Bool) (l : Array Bool), l.size = ops.size → (∀ j, j < ops.size → l.getD j true = L j) → Region.ready .any ops l = [] → ∀ j, j < ops.size → L j = true := by
    intro L l hl hL hr j
    induction j using Nat.strongRecOn with
    | _ j ih =>
      intro hj
      rcases hLj : L j with _ | _
      · exfalso
        have hoj : ops[j]? = some ops[j] := Array.getElem?_eq_getElem hj
        have hmem : j ∈ Region.ready .any ops l := by
          unfold Region.ready
          rw [List.mem_filter]
          refine ⟨List.mem_range.2 hj, ?_⟩
          rw [hL j hj, hLj, hoj]
          simp only [Bool.not_false, Bool.true_and, Option.map_some, Option.getD_some]
          rw [Array.all_eq_true_iff_forall_mem]
          intro e he
          cases hb9 : Region.binds .any e with
          | false => rfl
          | true =>
          have hlt := (regOk7_at h hoj).2.1 e he hb9
          have := ih e.on hlt (by omega)
          have h2 := hL e.on (by omega)
          rw [this] at h2
          have h3 : l.getD e.on false = true := by
            rw [Array.getD_eq_getD_getElem?] at h2 ⊢
            rw [Array.getElem?_eq_getElem (by omega)] at h2 ⊢
            simpa using h2
          simp [h3]
        rw [hr] at hmem; simp at hmem
      · rfl
  have hdone : ∀ (L : Nat → Bool) (val : Nat → Value) (l : Array Bool) (a : Act) (w : World), l.size = ops.size → (∀ j, j < ops.size → l.getD j true = L j) → (∀ j, ops.size ≤ j → L j = false) → I L val w → Fr ops a0 L val a → Region.ready .any ops l = [] → Q .normal a w := by
    intro L val l a w hl hL hL2 hI hF hr
    have : L = fun j => decide (j < ops.size) := by
      funext j
      by_cases hj : j < ops.size
      · rw [hall L l hl hL hr j hj]; simp [hj]
      · rw [hL2 j (by omega)]; simp [hj]
    subst this
    exact hend val w a hI hF
  induction fuel with
  | zero =>
    intro L val l a w ht hl hL hL2 hI hF hcl
    have hr : Region.ready .any ops l = [] := by
      unfold Region.ready
      rw [List.filter_eq_nil_iff]
      intro j hj
      have hj := List.mem_range.1 hj
      have : L j = true := by
        rcases hLj : L j with _ | _
        · exfalso
          have : j ∈ (List.range ops.size).filter fun j => !L j := List.mem_filter.2 ⟨List.mem_range.2 hj, by simp [hLj]⟩
          have := List.length_pos_of_mem this
          unfold todo at ht; omega
        · rfl
      rw [hL j hj, this]; simp
    exact ⟨hr, hdone L val l a w hl hL hL2 hI hF hr⟩
  | succ fuel ih =>
    intro L val l a w ht hl hL hL2 hI hF hcl
    refine ⟨hdone L val l a w hl hL hL2 hI hF, fun i hi => ?_⟩
    unfold Region.ready at hi
    rw [List.mem_filter] at hi
    obtain ⟨hi1, hi2⟩ := hi
    have hi1 := List.mem_range.1 hi1
    have hoi : ops[i]? = some ops[i] := Array.getElem?_eq_getElem hi1
    rw [hL i hi1, hoi] at hi2
    simp only [Bool.and_eq_true, Bool.not_eq_true', Option.map_some, Option.getD_some] at hi2
    obtain ⟨hLi, hdep⟩ := hi2
    have hdep' : ∀ e ∈ ops[i].after, Region.binds .any e = true → L e.on = true := by
      intro e he hb
      have h1 := Array.all_eq_true_iff_forall_mem.1 hdep e he
      have hlt := (regOk7_at h hoi).2.1 e he hb
      simp only [hb, Bool.not_true, Bool.false_or] at h1
      rw [← hL e.on (by omega)]
      rw [Array.getD_eq_getD_getElem?] at h1 ⊢
      rw [Array.getElem?_eq_getElem (by omega)] at h1 ⊢
      simpa using h1
    have hob := hs i hi1 ops[i] hoi L val w hI hLi hdep'
    have hnext : ∀ v w', I (up L i) (upd val i v) w' → wpAny P .any ops Q fuel (l.setIfInBounds i true) (a.put ops[i].dst v) w' := by
      intro v w' hI'
      refine ih (up L i) (upd val i v) _ _ w' (by have := todo_up hi1 hLi; omega) (by simpa using hl) ?_ ?_ hI' (hF.put7 h hn hoi v) ?_
      · intro j hj
        by_cases hji : j = i
        · subst hji
          simp [Array.getD_eq_getD_getElem?, up, hl, hj]
        · rw [Array.getD_eq_getD_getElem?, Array.getElem?_setIfInBounds_ne (by intro e; exact hji e.symm), ← Array.getD_eq_getD_getElem?, hL j hj]
          simp [up, hji]
      · intro j hj
        simp [up, show j ≠ i by omega, hL2 j hj]
      · intro k o hk hLk e he hb
        unfold up at hLk ⊢
        by_cases hei : e.on = i
        · rw [if_pos hei]
        · rw [if_neg hei]
          by_cases hki : k = i
          · subst hki
            rw [hoi] at hk; cases hk
            exact hdep' e he hb
          · rw [if_neg hki] at hLk
            exact hcl k o hk hLk e he hb
    unfold wpOp
    rw [hoi]
    simp only []
    rw [hF.wanted7 h hn hoi hdep']
    by_cases hw : guardv val ops ops[i].guard = true
    · rw [if_pos hw] at hob ⊢
      left
      rw [← hF.exec7 h hoi hdep' hLi hcl] at hob
      exact wp_of_does hob hnext
    · rw [if_neg hw] at hob ⊢
      exact hnext undef w hob

theorem Fr.fillTo7 {n : Nat} (h : regOk7 ops n = true) {a0 : Act} (hn : n ≤ a0.tmps.size) (val : Nat → Value) : ∀ m, m ≤ ops.size → Fr ops a0 (fun j => decide (j < m)) val ((List.range m).foldl (fun a j => a.put (dstOf ops j) (val j)) a0) := by
  intro m
  induction m with
  | zero => intro _; simpa using Fr.start (ops := ops) a0 val
  | succ m ih =>
    intro hm
    have h1 := (ih (by omega)).put7 h hn (i := m) (o := ops[m]) (Array.getElem?_eq_getElem (by omega)) (val m)
    rw [List.range_succ, List.foldl_append]
    simp only [List.foldl_cons, List.foldl_nil]
    have e1 : dstOf ops m = ops[m].dst := by simp [dstOf, Array.getElem?_eq_getElem (show m < ops.size by omega)]
    rw [e1]
    refine ⟨h1.defers, h1.size, fun t => ?_⟩
    rw [h1.slot t]
    unfold slotv
    split
    · rename_i j hj
      by_cases hjm : j = m
      · subst hjm; simp [up, upd]
      · have : (decide (j < m + 1)) = decide (j < m) := by
          by_cases h2 : j < m
          · simp [h2, show j < m + 1 by omega]
          · simp [h2, show ¬ j < m + 1 by omega]
        simp [up, upd, hjm, this]
    · rfl
/-- THE RULE: the region's operations, whatever their order. -/
theorem wp_region_inv7 {id : Nat} {l : List Oper} {a0 : Act} {w : World} (hm : P.follows .mixedOrders = true) (h : regOk7 l.toArray a0.tmps.size = true) (I : (Nat → Bool) → (Nat → Value) → World → Prop) (val0 : Nat → Value)
    (h0 : I (fun _ => false) val0 (w.drewN 1)) (hs : ∀ i, i < l.length → StepOb7 P l.toArray a0 I i)
    (hend : ∀ val w, I (fun j => decide (j < l.length)) val w → Q .normal (fillAll l.toArray val a0) w) : (Code.region id l.toArray true).wp P Q a0 w := by
  refine wp_region_any hm ?_
  refine wpAny_inv7 h (Nat.le_refl _) I (by simpa using hs) (fun val w' a hI hF => ?_) _ (fun _ => false) val0 _ a0 _ ?_ (by simp) ?_ (by simp) h0 (Fr.start a0 val0) (fun k o _ h => by cases h)
  · have := hF.eq (Fr.fillTo7 h (Nat.le_refl _) val l.toArray.size (Nat.le_refl _))
    rw [this]
    exact hend val w' (by simpa using hI)
  · unfold todo; exact Nat.le_trans (List.length_filter_le _ _) (by simp)
  · intro j hj
    simp [Array.getD_eq_getD_getElem?, Array.getElem?_replicate, show j < l.length by simpa using hj]
/-- the same, with guards -/
theorem wp_region_growG7 {id : Nat} {l : List Oper} {a0 : Act} {w : World} (hm : P.follows .mixedOrders = true) (h : regOk7 l.toArray a0.tmps.size = true) (V : Nat → Value → World → Prop)
    (hV : ∀ i v w w', V i v w → Below w.heap.size w w' → V i v w')
    (hstep : ∀ i o, l[i]? = some o → ∀ (val : Nat → Value) (w2 : World), Below w.heap.size w w2 → (∀ j, (∃ e ∈ o.after.toList, e.on = j ∧ Region.binds .any e = true) → V j (val j) w2) → if guardv val l.toArray o.guard = true then does P ((execOp (opv4 l.toArray a0 val i) o).run P w2) (fun v w' => Below w2.heap.size w2 w' ∧ V i v w') else V i undef w2)
    (hend : ∀ (val : Nat → Value) (w2 : World), Below w.heap.size w w2 → (∀ i, i < l.length → V i (val i) w2) → Q .normal (fillAll l.toArray val a0) w2) :
    (Code.region id l.toArray true).wp P Q a0 w := by
  refine wp_region_inv7 hm h (fun L val w2 => Below w.heap.size w w2 ∧ ∀ i, i < l.length → L i = true → V i (val i) w2) (fun _ => undef) ⟨below_drewN (Below.refl _ _) 1, fun i _ hL => by simp at hL⟩ ?_ ?_
  · intro i hi o ho L val w2 hI hL hd
    have hol : l[i]? = some o := by simpa using ho
    have hil : i < l.length := hi
    have hs := hstep i o hol val w2 hI.1 fun j hj => by
      obtain ⟨e, he, rfl, hb⟩ := hj
      have hlt := (regOk7_at h ho).2.1 e (Array.mem_toList_iff.1 he) hb
      exact hI.2 _ (by omega) (hd e (Array.mem_toList_iff.1 he) hb)
    split at hs
    · rename_i hg
      rw [if_pos hg]
      refine does_mono hs fun v w' hv => ⟨below2 hI.1 hv.1, fun j hj hLj => ?_⟩
      by_cases e : j = i
      · subst e; simpa [upd] using hv.2
      · simp only [up, e, if_false] at hLj
        have := hI.2 j hj hLj
        simpa [upd, e] using hV _ _ _ _ this hv.1
    · rename_i hg
      rw [if_neg hg]
      refine ⟨hI.1, fun j hj hLj => ?_⟩
      by_cases e : j = i
      · subst e; simpa [upd] using hs
      · simp only [up, e, if_false] at hLj
        have := hI.2 j hj hLj
        simpa [upd, e] using this
  · intro val w2 hI
    exact hend val w2 hI.1 fun i hi => hI.2 i hi (by simp [hi])
end
theorem StepOb7.of {P : Program} {ops : Array Oper} {a0 : Act} {I : (Nat → Bool) → (Nat → Value) → World → Prop} {i : Nat} {o : Oper} (ho : ops[i]? = some o) (hg : o.guard = none)
    (h : ∀ L val w, I L val w → L i = false → (∀ e ∈ o.after.toList, Region.binds .any e = true → L e.on = true) → does P ((execOp (opv4 ops a0 val i) o).run P w) (fun v w' => I (up L i) (upd val i v) w')) : StepOb7 P ops a0 I i := by
  intro o' ho' L val w hI hL hd
  rw [ho] at ho'; cases ho'
  rw [hg, if_pos (by rfl)]
  exact h L val w hI hL fun e he hb => hd e (Array.mem_toList_iff.1 he) hb
end Gk
