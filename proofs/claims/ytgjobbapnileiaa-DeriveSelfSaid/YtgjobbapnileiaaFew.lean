/- Few: it tells some bool; if it is true, all lengths are small. -/
import Derived.Test.YtgjobbapnileiaaSame
set_option linter.unusedVariables false
set_option linter.unusedSimpArgs false
namespace Go.Proofs.Ytgjobbapnileiaa
open Go.RowKit Gk

/-- a grammar by numbers, as data -/
structure Cfg where
  toks : List ByteArray
  names : List ByteArray
  alts : List (List (List Int))
abbrev altsT : Ty (List (List (List Int))) := Ty.slice (Ty.slice (Ty.slice Ty.int))
abbrev rowsT : Ty (List (List Int)) := Ty.slice (Ty.slice Ty.int)
/-- a value of type api.Cfg -/
def CfgV (w : World) (v : Value) (c : Cfg) : Prop :=
  ∃ a b d, v = .agg #[a, b, d] ∧ Sl Ty.str w a c.toks ∧ Sl Ty.str w b c.names ∧ Sl rowsT w d c.alts
theorem CfgV.below {w w' : World} {v : Value} {c : Cfg} (h : CfgV w v c) (hb : Below w.heap.size w w') : CfgV w' v c := by
  obtain ⟨a, b, d, rfl, h1, h2, h3⟩ := h
  exact ⟨a, b, d, rfl, h1.below hb, h2.below hb, h3.below hb⟩
/-- at most so many of each -/
def Small (m : Int) (c : Cfg) : Prop :=
  (c.toks.length : Int) + c.names.length ≤ m ∧ ∀ al ∈ c.alts, (al.length : Int) ≤ m ∧ ∀ a ∈ al, (a.length : Int) ≤ m
def fewEnd (m : Int) (c : Cfg) (w : World) (e : Ending) (w' : World) : Prop :=
  ∃ b, e = .returned (.bool b) ∧ Below w.heap.size w w' ∧ (b = true → Small m c)
def Upto (n : Int) (al : List (List Int)) : Prop := (al.length : Int) ≤ n ∧ ∀ a ∈ al, (a.length : Int) ≤ n
/-- what holds of the first k rules, and of the first j alternatives of the next -/
def FewR (c : Cfg) (k j : Nat) (x : List (List Int)) (n : Int) : Prop :=
  (c.toks.length : Int) + c.names.length ≤ n ∧ (j : Int) ≤ n ∧ (∀ al ∈ c.alts.take k, Upto n al) ∧ ∀ a ∈ x.take j, (a.length : Int) ≤ n
theorem FewR.next {c : Cfg} {k j : Nat} {x : List (List Int)} {n : Int} (h : FewR c k j x n) {a : List Int} (ha : x[j]? = some a) : FewR c k (j + 1) x (n + (1 + a.length)) := by
  obtain ⟨h1, h2, h3, h4⟩ := h
  refine ⟨by omega, by omega, fun al hal => ⟨?_, fun b hb => ?_⟩, fun b hb => ?_⟩
  · have := (h3 al hal).1; omega
  · have := (h3 al hal).2 b hb; omega
  · rw [take_next ha] at hb
    rcases List.mem_append.1 hb with hb | hb
    · have := h4 b hb; omega
    · simp at hb; subst hb; omega
theorem FewR.done {c : Cfg} {k : Nat} {x : List (List Int)} {n : Int} (h : FewR c k x.length x n) (hx : c.alts[k]? = some x) : FewR c (k + 1) 0 [] n := by
  obtain ⟨h1, h2, h3, h4⟩ := h
  refine ⟨h1, by simp; omega, fun al hal => ?_, by simp⟩
  rw [take_next hx] at hal
  rcases List.mem_append.1 hal with hal | hal
  · exact h3 al hal
  · simp at hal; subst hal
    exact ⟨h2, fun a ha => h4 a (by rwa [List.take_length])⟩
theorem FewR.small {c : Cfg} {n m : Int} {x : List (List Int)} {j : Nat} (h : FewR c c.alts.length j x n) (hm : n ≤ m) : Small m c := by
  obtain ⟨h1, h2, h3, h4⟩ := h
  refine ⟨by omega, fun al hal => ?_⟩
  rw [List.take_length] at h3
  have := h3 al hal
  exact ⟨by have := this.1; omega, fun a ha => by have := this.2 a ha; omega⟩

set_option maxHeartbeats 1000000 in
theorem few_calls (v : Value) (c : Cfg) (m : Int) (w : World) (h : CfgV w v c) (hm0 : 0 ≤ m) (hm1 : m ≤ 1000000) :
    Calls Try.prog 16 #[v, .int .i64 m] w (fewEnd m c w) := by
  obtain ⟨a0, b0, d0, rfl, h1, h2, h3⟩ := h
  obtain ⟨A1, c1, rfl, hc1, hm1', hl1, hr1⟩ := h1
  obtain ⟨A2, c2, rfl, hc2, hm2, hl2, hr2⟩ := h2
  obtain ⟨A, cc, rfl, hc, hcm, hlb, hr⟩ := h3
  unfold LB at hlb hl1 hl2
  go_enter Try.func16, Try.ntmps16
  go_wp2
  go_loopw [20, 5] (fun i n wr => (∃ (k : Nat) (q : Int), k ≤ c.alts.length ∧ i = .int .i64 k ∧ n = .int .i64 q ∧ 0 ≤ q ∧ q ≤ 281474976710656 ∧ FewR c k 0 [] q) ∧ Below w.heap.size w wr) (fun i _ _ => c.alts.length - (intOf i).toNat)
  case atStart => exact ⟨⟨0, _, Nat.zero_le _, rfl, rfl, by omega, by omega, by simp [FewR]; omega⟩, by first | exact Below.refl _ _ | exact (Below.refl _ _).alloc (Nat.le_refl _) _⟩
  case round =>
    obtain ⟨⟨k, q, hk, rfl, rfl, hq0, hq1, hF⟩, hB⟩ := hrel
    replace hr := hr.below hB
    by_cases hlt : k < c.alts.length
    · obtain ⟨x, hx⟩ := at_lt c.alts hlt
      obtain ⟨ad, X, p, rfl, hcell, g1, g2, g3, g4⟩ := hr.slice hx
      have HX := Lib.hid hx; clear hx
      obtain ⟨wo, rfl⟩ : ∃ wo : World, wo = wr := ⟨_, rfl⟩
      go_wp2
      go_loopw [26, 5] (fun i n wr => (∃ (j : Nat) (q : Int), j ≤ x.length ∧ i = .int .i64 j ∧ n = .int .i64 q ∧ 0 ≤ q ∧ q ≤ 281474976710656 ∧ FewR c k j x q) ∧ Below wo.heap.size wo wr) (fun i _ _ => x.length - (intOf i).toNat)
      case atStart => exact ⟨⟨0, q, Nat.zero_le _, rfl, rfl, by omega, by omega, by obtain ⟨e1, e2, e3, e4⟩ := hF; exact ⟨e1, e2, e3, by simp⟩⟩, Below.refl _ _⟩
      case round =>
        obtain ⟨⟨j, q, hj, rfl, rfl, hq0, hq1, hF⟩, hB2⟩ := hrel
        replace g4 := g4.below hB2
        have hB3 := below2 hB hB2
        by_cases hjt : j < x.length
        · obtain ⟨y, hy⟩ := at_lt x hjt
          obtain ⟨ad2, Y, p2, rfl, hcell2, g5, g6, g7, g8⟩ := g4.slice hy
          have hN := hF.next hy
          clear hy
          by_cases hgt : m < q + (1 + y.length)
          · go_wp2
            go_ret
            exact ⟨_, rfl, hB3, by intro h; cases h⟩
          · go_wp2
            go_roundw
            case rel => exact ⟨⟨j + 1, _, by omega, by go_num, rfl, by omega, by omega, hN⟩, hB2⟩
            case measure => simp [intOf]; omega
        · have hjx : j = x.length := by omega
          have HJ := Lib.hid hjx; clear hjx
          go_wp2
          go_roundw
          case rel => exact ⟨⟨k + 1, q, by omega, by go_num, rfl, by omega, by omega, by have e := HJ.out; subst e; exact hF.done HX.out⟩, hB3⟩
          case measure => simp [intOf]; omega
    · go_wp2
      go_ret
      exact ⟨_, rfl, hB, fun h => FewR.small (m := m) (x := []) (j := 0) (by rwa [show k = c.alts.length by omega] at hF) (by simpa using h)⟩
end Go.Proofs.Ytgjobbapnileiaa
