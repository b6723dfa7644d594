/- The reference's Nullable: the walks. -/
import Derived.Test.YtgjobbapnileiaaNulM
import Derived.Test.YtgjobbapnileiaaSenR
import Derived.Test.YtgjobbapnileiaaVal
set_option linter.unusedVariables false
set_option linter.unusedSimpArgs false
namespace Go.Proofs.Ytgjobbapnileiaa
open Go.RowKit Gk

def rule9 (n : Nat) (k : Int) : Int := if k < 0 ∧ -1 - k < n then -1 - k else -1
set_option maxHeartbeats 1000000 in
theorem rule9_calls (A1 A2 A3 : Option Addr) (n1 n2 n c1 c2 c3 : Nat) (k : Int) (w : World) (hk : Ty.i64 k) (hn : n ≤ 1000000) :
    Calls Try.prog 41 #[.agg #[.slice A1 n1 c1, .slice A2 n2 c2, .slice A3 n c3], .int .i64 k] w fun e w' => e = .returned (.int .i64 (rule9 n k)) ∧ Below w.heap.size w w' := by
  have hb := Box.new w #[.slice A1 n1 c1, .slice A2 n2 c2, .slice A3 n c3] 25
  have hbb : Below w.heap.size w (w.alloc (.cells #[.slice A1 n1 c1, .slice A2 n2 c2, .slice A3 n c3] 25)) := (Below.refl _ _).alloc (Nat.le_refl _) _
  have hc := hb.cell 2 (v := .slice A3 n c3) rfl
  have hk1 := hk.1
  have hk2 := hk.2
  clear hb
  by_cases hk0 : k < 0
  · have hw : IntKind.i64.wrap (-1 - k) = -1 - k := by rw [IntKind.wrap_i64]; omega
    by_cases hr : -1 - k < (n : Int)
    · have e : rule9 n k = -1 - k := if_pos ⟨hk0, hr⟩
      rw [e]
      clear e
      go_enter Try.func41, Try.ntmps41
      go_wp2
      go_ret
      exact ⟨rfl, hbb⟩
    · have e : rule9 n k = -1 := if_neg (fun h => hr h.2)
      rw [e]
      clear e
      have hd : decide (-1 - k < (n : Int)) = false := decide_eq_false hr
      go_enter Try.func41, Try.ntmps41
      go_wp2
      go_ret
      exact ⟨rfl, hbb⟩
  · have e : rule9 n k = -1 := if_neg (fun h => hk0 h.1)
    rw [e]
    clear e
    go_enter Try.func41, Try.ntmps41
    go_wp2
    go_ret
    exact ⟨rfl, hbb⟩
theorem rule9_cases (out : List Bool) (k : Int) : (rule9 out.length k = -1 ∧ isN out k = false) ∨ ∃ (r : Nat) (b : Bool), rule9 out.length k = r ∧ r < out.length ∧ out[r]? = some b ∧ isN out k = b := by
  unfold rule9 isN
  by_cases hk : k < 0
  · by_cases hr : -1 - k < (out.length : Int)
    · obtain ⟨r, hr'⟩ : ∃ r : Nat, -1 - k = r := ⟨(-1 - k).toNat, by omega⟩
      have hl : r < out.length := by omega
      refine .inr ⟨r, out[r], by rw [if_pos ⟨hk, hr⟩]; exact hr', hl, List.getElem?_eq_getElem hl, ?_⟩
      rw [show (-1 - k).toNat = r by omega, List.getElem?_eq_getElem hl]; simp [hk]
    · refine .inl ⟨if_neg fun h => hr h.2, ?_⟩
      rw [List.getElem?_eq_none (by omega)]; simp
  · exact .inl ⟨if_neg fun h => hk h.1, by simp [hk]⟩
set_option maxRecDepth 100000 in
set_option maxHeartbeats 2000000 in
theorem empty_calls (c : Cfg) (s : List Int) (out : List Bool) (v u o : Value) (w : World) (h : CfgV w v c) (hu : Sl Ty.int w u s) (ho : Sl Ty.bool w o out) (hl : out.length = c.alts.length) (hal : c.alts.length ≤ 1000) :
    Calls Try.prog 25 #[v, u, o] w fun e w' => e = .returned (.bool (emptyP out s)) ∧ Below w.heap.size w w' := by
  obtain ⟨a0, b0, d0, rfl, h1, h2, h3⟩ := id h
  obtain ⟨A1, c1, rfl, hc1, hm1, hl1, hr1⟩ := id h1
  obtain ⟨A2, c2, rfl, hc2, hm2, hl2, hr2⟩ := id h2
  obtain ⟨A3, c3, rfl, hc3, hm3, hl3, hr3⟩ := id h3
  obtain ⟨AU, cU, rfl, ku1, ku2, ku3, ku4⟩ := id hu
  obtain ⟨AO, cO, rfl, ko1, ko2, ko3, ko4⟩ := id ho
  unfold LB at ku3 ko3
  have hB1 := Box.new w #[.slice A1 c.toks.length c1, .slice A2 c.names.length c2, .slice A3 c.alts.length c3] 25
  have hb1 : Below w.heap.size w (w.alloc (.cells #[.slice A1 c.toks.length c1, .slice A2 c.names.length c2, .slice A3 c.alts.length c3] 25)) := (Below.refl _ _).alloc (Nat.le_refl _) _
  have hsz1 : (w.alloc (.cells #[.slice A1 c.toks.length c1, .slice A2 c.names.length c2, .slice A3 c.alts.length c3] 25)).heap.size = w.heap.size + 1 := by simp
  have HLEN := Lib.hid hl
  clear h h1 h2 h3 hu ho hr1 hr2 hr3 hl
  go_enter Try.func25, Try.ntmps25
  go_wp2
  generalize w.alloc (.cells #[.slice A1 c.toks.length c1, .slice A2 c.names.length c2, .slice A3 c.alts.length c3] 25) = wb at *
  go_loopw [12] (fun i wr => (∃ n : Nat, n ≤ s.length ∧ i = .int .i64 n ∧ Hid (emptyP out (s.take n) = true)) ∧ Below wb.heap.size wb wr) (fun i _ => s.length - (intOf i).toNat)
  case atStart => exact ⟨⟨0, Nat.zero_le _, rfl, rfl⟩, Below.refl _ _⟩
  case round =>
    obtain ⟨⟨n, hn, rfl, hE⟩, hB⟩ := hrel
    have HB := Lib.hid (And.intro hE hB)
    have hwr := below2 hb1 hB
    have ku4r := ku4.below hwr
    have hbr := hB1.below hB
    have x0 := hbr.cell 0 (v := .slice A1 c.toks.length c1) rfl
    have x1 := hbr.cell 1 (v := .slice A2 c.names.length c2) rfl
    have x2 := hbr.cell 2 (v := .slice A3 c.alts.length c3) rfl
    have HWR := Lib.hid hwr
    clear hE hB hbr hwr
    by_cases hlt : n < s.length
    · obtain ⟨k, hk⟩ := at_lt s hlt
      obtain ⟨ad, rfl, hk64, hcell⟩ := ku4r.int hk
      have hstep : Hid (emptyP out (s.take (n + 1)) = (emptyP out (s.take n) && isN out k)) := by
        show _ = _
        unfold emptyP
        rw [take_next hk, List.all_append]; simp
      have hfull : Hid (isN out k = false → emptyP out s = false) := fun hf => by
        unfold emptyP
        rw [List.all_eq_false]
        exact ⟨k, List.mem_of_getElem? hk, by simp [hf]⟩
      have hrule := rule9_calls A1 A2 A3 c.toks.length c.names.length c.alts.length c1 c2 c3 k wr hk64 (by omega)
      rw [← HLEN.out] at hrule
      clear hk
      rcases rule9_cases out k with ⟨e1, e2⟩ | ⟨r, b, e1, hrl, hrb, e2⟩
      · rw [e1, HLEN.out] at hrule
        have HR := Lib.hid hrule
        have E2 := Lib.hid e2
        clear hrule e1 e2
        go_wp2_with (go_at_call 41; refine HR.out.mono ?_; rintro e w3 ⟨rfl, hb3⟩)
        go_ret
        exact ⟨ret_bool (by rw [hfull E2.out]), below2 HWR.out hb3⟩
      · rw [e1, HLEN.out] at hrule
        have HR := Lib.hid hrule
        have E2 := Lib.hid e2
        have hrl2 : r < c.alts.length := by have := HLEN.out; omega
        clear hrule e1 e2
        have HRB := Lib.hid hrb
        clear hrb
        have hcellb : Hid (∀ w' : World, Below w.heap.size w w' → ∃ ad, AO = some ad ∧ w'.cell? (ad.add r) = some (.bool b)) := fun w' hb => (ko4.below hb).bool HRB.out
        obtain ⟨ado, hao, _⟩ := hcellb.out w (Below.refl _ _)
        subst hao
        have HCB : Hid (∀ w' : World, Below w.heap.size w w' → w'.cell? (ado.add r) = some (.bool b)) := fun w' hb => by
          obtain ⟨ad', e', hc⟩ := hcellb.out w' hb
          injection e' with e'; subst e'; exact hc
        cases b with
        | true =>
          go_wp2_with (go_at_call 41; refine HR.out.mono ?_; rintro e w3 ⟨rfl, hb3⟩; have hcb := HCB.out w3 (below2 HWR.out hb3))
          refine ⟨⟨⟨n + 1, by omega, by simp, ?_⟩, below2 HB.out.2 hb3⟩, by simp [intOf]; omega⟩
          have h : emptyP out _ = _ := hstep
          show _ = _
          rw [h, E2.out, show emptyP out (s.take n) = true from HB.out.1]; rfl
        | false =>
          go_wp2_with (go_at_call 41; refine HR.out.mono ?_; rintro e w3 ⟨rfl, hb3⟩; have hcb := HCB.out w3 (below2 HWR.out hb3))
          go_ret
          exact ⟨ret_bool (by rw [hfull E2.out]), below2 HWR.out hb3⟩
    · go_wp2
      go_ret
      have h : emptyP out _ = true := HB.out.1
      rw [List.take_of_length_le (by omega)] at h
      exact ⟨ret_bool (by rw [h]), HWR.out⟩
end Go.Proofs.Ytgjobbapnileiaa
