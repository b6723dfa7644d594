/- The program's Short: rule, the closure, each: the walks. -/
import Derived.Test.YtgjobbapnileiaaShM
import Derived.Test.YtgjobbapnileiaaRep
import Derived.Test.YtgjobbapnileiaaSenR
import Derived.Test.YtgjobbapnileiaaVal
import Derived.Deep.LoopGhost
set_option linter.unusedVariables false
set_option linter.unusedSimpArgs false
namespace Go.Proofs.Ytgjobbapnileiaa
open Go.RowKit Gk

set_option maxHeartbeats 1000000 in
theorem rule_calls (T : Nat) (a b x y z : Value) (A : Option Addr) (n c : Nat) (k : Int) (w : World) (hT : Box w T #[a, b, .slice A n c, x, y, z] 78) (hk : Ty.i64 k) (hn : n ≤ 1000000) :
    Calls Try.prog 32 #[.pointer (some ⟨T, 0, none⟩), .int .i64 k] w fun e w' => (∃ q, e = .returned (.tuple #[.int .i64 q, .bool (decide (k < 0 ∧ -1 - k < n))]) ∧ (k < 0 → q = -1 - k)) ∧ Drawn w w' := by
  have hc := hT.cell 2 (v := .slice A n c) rfl
  clear hT
  by_cases hk0 : k < 0
  · obtain ⟨r, hr, hxor⟩ := notOf hk hk0
    have hxor' : bits .xor .i64 (if IntKind.i64.signed = true then -1 else 9223372036854775807) k = r := hxor
    by_cases hrn : r < n
    · have hd : decide (k < 0 ∧ -1 - k < n) = true := decide_eq_true ⟨hk0, by omega⟩
      rw [hd]
      have HR := Lib.hid hr; clear hr
      go_enter Try.func32, Try.ntmps32
      go_wp2
      go_quiet (fail)
      go_wp2
      go_ret2
      exact ⟨⟨_, rfl, fun _ => HR.out.symm⟩, (Drawn.refl _).more _⟩
    · have hd : decide (k < 0 ∧ -1 - k < n) = false := decide_eq_false (fun h => by omega)
      rw [hd]
      have HR := Lib.hid hr; clear hr
      go_enter Try.func32, Try.ntmps32
      go_wp2
      go_quiet (fail)
      go_wp2
      go_ret2
      exact ⟨⟨_, rfl, fun _ => HR.out.symm⟩, (Drawn.refl _).more _⟩
  · have hd : decide (k < 0 ∧ -1 - k < n) = false := decide_eq_false (fun h => by omega)
    rw [hd]
    obtain ⟨q, hq⟩ : ∃ q, bits .xor .i64 (-1) k = q := ⟨_, rfl⟩
    have hq' : bits .xor .i64 (if IntKind.i64.signed = true then -1 else 9223372036854775807) k = q := hq
    have hk0' : decide (k < 0) = false := decide_eq_false hk0
    go_enter Try.func32, Try.ntmps32
    go_wp2
    go_quiet (fail)
    go_wp2
    go_ret2
    exact ⟨⟨_, rfl, fun h => by omega⟩, (Drawn.refl _).more _⟩
/-- what is known, in memory -/
structure ShS (w0 : World) (T P2 P3 O : Nat) (a b d : Value) (c : Cfg) (out : List Int) (w : World) : Prop where
  tb : Box w T #[a, b, d, .slice none 0 0, .slice none 0 0, .slice none 0 0] 78
  p2 : Box w P2 #[.pointer (some ⟨T, 0, none⟩)] 75
  p3 : Box w P3 #[.slice (some ⟨O, 0, none⟩) c.alts.length c.alts.length] 34
  ob : Box w O (out.map (Value.int .i64)).toArray 3
  ne : O ≠ T ∧ O ≠ P2 ∧ O ≠ P3
  bl : Below w0.heap.size w0 w
  lb : w0.heap.size ≤ O
  inv : ShI c out
theorem ShS.below {w0 : World} {T P2 P3 O : Nat} {a b d : Value} {c : Cfg} {out : List Int} {w w' : World} (h : ShS w0 T P2 P3 O a b d c out w) (k : Below w.heap.size w w') : ShS w0 T P2 P3 O a b d c out w' :=
  ⟨h.tb.below k, h.p2.below k, h.p3.below k, h.ob.below k, h.ne, below2 h.bl k, h.lb, h.inv⟩
theorem ShS.cell {w0 : World} {T P2 P3 O : Nat} {a b d : Value} {c : Cfg} {out : List Int} {w : World} (h : ShS w0 T P2 P3 O a b d c out w) {r : Nat} {m : Int} (hm : out[r]? = some m) : w.cell? ⟨O, r, none⟩ = some (.int .i64 m) :=
  h.ob.cell r (by simp [hm])
theorem ShS.set {w0 : World} {T P2 P3 O : Nat} {a b d : Value} {c : Cfg} {out : List Int} {w : World} (h : ShS w0 T P2 P3 O a b d c out w) {r : Nat} {m : Int} (hi : ShI c (out.set r m)) : ShS w0 T P2 P3 O a b d c (out.set r m) (w.setCell ⟨O, r, none⟩ (.int .i64 m)) := by
  have hk : ∀ g, g ≠ O → (w.setCell ⟨O, r, none⟩ (.int .i64 m)).heap[g]? = w.heap[g]? := fun g hg => Below.heap_setCell w ⟨O, r, none⟩ _ g hg
  refine ⟨h.tb.keep (hk _ h.ne.1.symm), h.p2.keep (hk _ h.ne.2.1.symm), h.p3.keep (hk _ h.ne.2.2.symm), ?_, h.ne, h.bl.setCell h.lb _, h.lb, hi⟩
  have := h.ob.set r (.int .i64 m)
  rwa [List.setIfInBounds_toArray, ← List.map_set] at this
def closEnd (w0 : World) (T P2 P3 O : Nat) (a b d : Value) (c : Cfg) (out : List Int) (r : Nat) (al : List Int) (e : Ending) (w' : World) : Prop :=
  ∃ out' bb, e = .returned (.bool bb) ∧ ShS w0 T P2 P3 O a b d c out' w' ∧ (bb = true → left9 out' < left9 out) ∧ (bb = false → out' = out ∧ ∀ m, out[r]? = some m → m ≤ len9 out al)
set_option maxRecDepth 100000 in
set_option maxHeartbeats 4000000 in
theorem clos_calls (w0 : World) (T P2 P3 O : Nat) (a b : Value) (A3 : Option Addr) (c3 : Nat) (c : Cfg) (out : List Int) (r : Nat) (al : List (List Int)) (s : List Int) (u : Value) (w : World) (h : ShS w0 T P2 P3 O a b (.slice A3 c.alts.length c3) c out w) (hal : c.alts[r]? = some al) (hs : s ∈ al) (hu : Sl Ty.int w u s) (hsl : s.length ≤ 1000) (hin : ∀ k ∈ s, k < 0 → -1 - k < c.alts.length) (hcl : c.alts.length ≤ 1000) :
    Calls Try.prog 31 #[.int .i64 r, u, .pointer (some ⟨P2, 0, none⟩), .pointer (some ⟨P3, 0, none⟩)] w (closEnd w0 T P2 P3 O a b (.slice A3 c.alts.length c3) c out r s) := by
  obtain ⟨AU, cU, rfl, ku1, ku2, ku3, ku4⟩ := id hu
  unfold LB at ku3
  have HH := Lib.hid (And.intro h (And.intro hal (And.intro hs hin)))
  have hlen := h.inv.1
  have hr : r < out.length := by rw [hlen]; exact (List.getElem?_eq_some_iff.1 hal).1
  clear h hal hs hin hu
  go_enter Try.func31, Try.ntmps31
  go_wp2
  go_loopw [15, 7] (fun i o wr => (∃ (n : Nat) (q : Int), n ≤ s.length ∧ i = .int .i64 n ∧ o = .int .i64 q ∧ 0 ≤ q ∧ q ≤ 2147483647 ∧ Hid (q = len9 out (s.take n))) ∧ Drawn w wr) (fun i _ _ => s.length - (intOf i).toNat)
  case atStart => exact ⟨⟨0, 0, Nat.zero_le _, rfl, rfl, by omega, by omega, by simp [Hid, len9]⟩, Drawn.refl _⟩
  case round =>
    obtain ⟨⟨n, q, hn, rfl, rfl, hq0, hq1, hq⟩, hD⟩ := hrel
    have HS := Lib.hid (HH.out.1.below hD.below)
    have ku4r := ku4.below hD.below
    have hp2 := HS.out.p2.cell 0 (v := .pointer (some ⟨T, 0, none⟩)) rfl
    have hp3 := HS.out.p3.cell 0 (v := .slice (some ⟨O, 0, none⟩) c.alts.length c.alts.length) rfl
    have HQ : Hid _ := hq
    clear hq
    by_cases hlt : n < s.length
    · obtain ⟨k, hk⟩ := at_lt s hlt
      obtain ⟨ad, rfl, hk64, hcell⟩ := ku4r.int hk
      have hstep : Hid (len9 out (s.take (n + 1)) = min (len9 out (s.take n) + mor9 out k) farI) := by
        rw [take_next hk, len9_snoc]; rfl
      have hkin := HH.out.2.2.2 k (List.mem_of_getElem? hk)
      clear hk
      have hrule := rule_calls T a b (.slice none 0 0) (.slice none 0 0) (.slice none 0 0) A3 c.alts.length c3 k wr HS.out.tb hk64 (by omega)
      by_cases hk0 : k < 0
      · have hr2 := hkin hk0
        have hd : decide (k < 0 ∧ -1 - k < c.alts.length) = true := decide_eq_true ⟨hk0, hr2⟩
        rw [hd] at hrule
        obtain ⟨rn, hrn⟩ : ∃ rn : Nat, -1 - k = rn := ⟨(-1 - k).toNat, by omega⟩
        have hrl : rn < out.length := by omega
        obtain ⟨m, hm⟩ := at_lt out hrl
        have hmr := HH.out.1.inv.2 rn m hm
        have hmor : Hid (mor9 out k = m) := by unfold mor9; rw [if_pos hk0, show (-1 - k).toNat = rn by omega, hm]; rfl
        have hmc := HS.out.cell hm
        have hm0 := hmr.1
        have hm1 : m ≤ 2147483647 := hmr.2.1
        have HRN := Lib.hid hrn
        have HRULE := Lib.hid hrule
        clear hrn hrule hm hmr hkin hr2
        go_wp2_with (go_at_call 32; refine HRULE.out.mono ?_; rintro e w1 ⟨⟨q1, rfl, hq1'⟩, hD1⟩; obtain rfl : q1 = (rn : Int) := (hq1' hk0).trans HRN.out; clear hq1'; have hmc1 := cell_far hmc hD1.below.block; have hp31 := cell_far hp3 hD1.below.block)
        refine ⟨⟨⟨n + 1, min (q + m) 2147483647, by omega, by simp, rfl, by omega, by omega, ?_⟩, hD.trans hD1⟩, by simp [intOf]; omega⟩
        have h1 : len9 out _ = _ := hstep
        have h2 : mor9 out k = m := hmor
        show _ = _
        rw [h1, h2, ← (show q = _ from HQ)]; rfl
      · have hd : decide (k < 0 ∧ -1 - k < c.alts.length) = false := decide_eq_false (fun h => hk0 h.1)
        rw [hd] at hrule
        have hmor : Hid (mor9 out k = 1) := by unfold mor9; rw [if_neg hk0]; rfl
        have HRULE := Lib.hid hrule
        clear hrule hkin
        go_wp2_with (go_at_call 32; refine HRULE.out.mono ?_; rintro e w1 ⟨⟨q1, rfl, hq1'⟩, hD1⟩)
        refine ⟨⟨⟨n + 1, min (q + 1) 2147483647, by omega, by simp, rfl, by omega, by omega, ?_⟩, hD.trans hD1⟩, by simp [intOf]; omega⟩
        have h1 : len9 out _ = _ := hstep
        have h2 : mor9 out k = 1 := hmor
        show _ = _
        rw [h1, h2, ← (show q = _ from HQ)]; rfl
    · have hne : n = s.length := by omega
      have hqf : Hid (q = len9 out s) := by
        have h : q = _ := HQ
        show _ = _
        rw [h, hne, List.take_length]
      have HNE := Lib.hid hne; clear hne
      obtain ⟨m, hm⟩ := at_lt out hr
      have hmc := HS.out.cell hm
      have hmf := HS.out.ob.frozen r
      have HM := Lib.hid hm; clear hm
      by_cases hge : m ≤ q
      · go_wp2
        go_ret
        refine ⟨out, false, rfl, HS.out, fun h => (by cases h), fun _ => ⟨rfl, fun m' hm' => ?_⟩⟩
        rw [HM.out] at hm'; injection hm' with hm'; rw [← hm', ← (show q = _ from hqf)]; exact hge
      · go_wp2
        go_ret
        have hset := HS.out.inv.set HH.out.2.1 HH.out.2.2.1 HH.out.2.2.2
        have h : q = _ := hqf
        rw [← h] at hset
        exact ⟨_, true, rfl, HS.out.set hset, fun _ => left9_set out r m q HM.out hq0 (by omega), fun h => (by cases h)⟩
end Go.Proofs.Ytgjobbapnileiaa
