/- Contracts of the reference's comparisons of lists: SameInts, SameNames, SameLists; Few: it tells some bool; if it is true, all lengths are small; lay: a list of flaws, perhaps with one more; IsName: it tells some bool; Contracts on grammars by names: Names, all, may, long, Check; Contracts on grammars by names: long, Check. -/
import Derived.Test.YtigbfankkmmnbaaZ01
set_option linter.unusedVariables false
set_option linter.unusedSimpArgs false
namespace Go.Proofs.Ytigbfankkmmnbaa
open Go.RowKit Gk

theorem take_same {α : Type} {xs ys : List α} {k : Nat} {x : α} (hx : xs[k]? = some x) (hy : ys[k]? = some x) (h : xs.take k = ys.take k) : xs.take (k + 1) = ys.take (k + 1) := by
  rw [take_next hx, take_next hy, h]
theorem ne_at {α : Type} {xs ys : List α} {k : Nat} {x y : α} (hx : xs[k]? = some x) (hy : ys[k]? = some y) (h : x ≠ y) : xs ≠ ys := by
  rintro rfl; rw [hx] at hy; exact h (Option.some.inj hy)
theorem eq_all {α : Type} {xs ys : List α} (hl : xs.length = ys.length) {k : Nat} (hk : ¬ k < xs.length) (h : xs.take k = ys.take k) : xs = ys := by
  rwa [List.take_of_length_le (by omega), List.take_of_length_le (by omega)] at h

set_option maxHeartbeats 400000 in
theorem sameInts_calls (v u : Value) (xs ys : List Int) (w : World) (h : Sl Ty.int w v xs) (h' : Sl Ty.int w u ys) :
    Calls Try.prog 22 #[v, u] w fun e w' => e = .returned (.bool (decide (xs = ys))) ∧ Drawn w w' := by
  obtain ⟨A, c, rfl, hc, hcm, hlb, hr⟩ := h
  obtain ⟨B, d, rfl, hd, hdm, hlb', hs⟩ := h'
  unfold LB at hlb hlb'
  by_cases hl : xs.length = ys.length
  · obtain ⟨q1, q2, q3, q4⟩ := cmp_eq hl
    have HL := Lib.hid hl; clear hl
    go_enter Try.func22, Try.ntmps22
    go_wp2
    go_loopw [13] (fun i w' => (∃ k : Nat, k ≤ xs.length ∧ i = .int .i64 k ∧ Hid (xs.take k = ys.take k)) ∧ Drawn w w') (fun i _ => xs.length - (intOf i).toNat)
    case atStart => exact ⟨⟨0, Nat.zero_le _, rfl, by simp [Hid]⟩, Drawn.refl _⟩
    case round =>
      obtain ⟨⟨k, hk, rfl, hH⟩, hD⟩ := hrel
      replace hr := hr.below hD.below
      replace hs := hs.below hD.below
      have hL := HL.out
      by_cases hlt : k < xs.length
      · have hlt2 : k < ys.length := by omega
        obtain ⟨x, hx⟩ := at_lt xs hlt
        obtain ⟨y, hy⟩ := at_lt ys hlt2
        obtain ⟨ad, rfl, hxs, hcell⟩ := hr.int hx
        obtain ⟨bd, rfl, hys, hcell2⟩ := hs.int hy
        have HX := Lib.hid hx; clear hx
        have HY := Lib.hid hy; clear hy
        clear hL
        by_cases he : x = y
        · obtain ⟨hb, hb2⟩ := icmp_eq he
          have HE := Lib.hid he; clear he
          go_wp2
          go_quiet (fail)
          go_wp2
          go_roundw
          case rel => exact ⟨⟨k + 1, by omega, by go_num, by
            have e := HE.out; subst e
            exact take_same HX.out HY.out hH⟩, hD.more _⟩
          case measure => simp [intOf]; omega
        · obtain ⟨hb, hb2⟩ := icmp_ne he
          have HE := Lib.hid he; clear he
          go_wp2
          go_quiet (fail)
          go_wp2
          go_ret
          exact ⟨ret_bool (decide_eq_false (ne_at HX.out HY.out HE.out)), hD.more _⟩
      · have hH2 := Lib.hid hH; clear hH hL
        go_wp2
        go_ret
        exact ⟨ret_bool (decide_eq_true (eq_all HL.out hlt hH2.out)), hD⟩
  · obtain ⟨q1, q2, q3, q4⟩ := cmp_ne hl
    have HL := Lib.hid hl; clear hl
    go_enter Try.func22, Try.ntmps22
    go_wp2
    go_ret
    exact ⟨ret_bool (decide_eq_false fun e => HL.out (by rw [e])), Drawn.refl _⟩

set_option maxHeartbeats 400000 in
theorem sameNames_calls (v u : Value) (xs ys : List ByteArray) (w : World) (h : Sl Ty.str w v xs) (h' : Sl Ty.str w u ys) :
    Calls Try.prog 82 #[v, u] w fun e w' => e = .returned (.bool (dec (xs = ys))) ∧ Drawn w w' := by
  obtain ⟨A, c, rfl, hc, hcm, hlb, hr⟩ := h
  obtain ⟨B, d, rfl, hd, hdm, hlb', hs⟩ := h'
  unfold LB at hlb hlb'
  by_cases hl : xs.length = ys.length
  · obtain ⟨q1, q2, q3, q4⟩ := cmp_eq hl
    have HL := Lib.hid hl; clear hl
    go_enter Try.func82, Try.ntmps82
    go_wp2
    go_loopw [13] (fun i w' => (∃ k : Nat, k ≤ xs.length ∧ i = .int .i64 k ∧ Hid (xs.take k = ys.take k)) ∧ Drawn w w') (fun i _ => xs.length - (intOf i).toNat)
    case atStart => exact ⟨⟨0, Nat.zero_le _, rfl, by simp [Hid]⟩, Drawn.refl _⟩
    case round =>
      obtain ⟨⟨k, hk, rfl, hH⟩, hD⟩ := hrel
      replace hr := hr.below hD.below
      replace hs := hs.below hD.below
      have hL := HL.out
      by_cases hlt : k < xs.length
      · have hlt2 : k < ys.length := by omega
        obtain ⟨x, hx⟩ := at_lt xs hlt
        obtain ⟨y, hy⟩ := at_lt ys hlt2
        obtain ⟨ad, rfl, hxs, hcell⟩ := hr.str hx
        obtain ⟨bd, rfl, hys, hcell2⟩ := hs.str hy
        have HX := Lib.hid hx; clear hx
        have HY := Lib.hid hy; clear hy
        clear hL
        by_cases he : x = y
        · have hb := str_eq he
          have HE := Lib.hid he; clear he
          go_wp2
          go_quiet (fail)
          go_wp2
          go_roundw
          case rel => exact ⟨⟨k + 1, by omega, by go_num, by
            have e := HE.out; subst e
            exact take_same HX.out HY.out hH⟩, hD.more _⟩
          case measure => simp [intOf]; omega
        · have hb := str_ne he
          have HE := Lib.hid he; clear he
          go_wp2
          go_quiet (fail)
          go_wp2
          go_ret
          exact ⟨ret_bool (dec_false (ne_at HX.out HY.out HE.out)), hD.more _⟩
      · have hH2 := Lib.hid hH; clear hH hL
        go_wp2
        go_ret
        exact ⟨ret_bool (dec_true (eq_all HL.out hlt hH2.out)), hD⟩
  · obtain ⟨q1, q2, q3, q4⟩ := cmp_ne hl
    have HL := Lib.hid hl; clear hl
    go_enter Try.func82, Try.ntmps82
    go_wp2
    go_ret
    exact ⟨ret_bool (dec_false fun e => HL.out (by rw [e])), Drawn.refl _⟩

set_option maxHeartbeats 400000 in
theorem sameLists_calls (v u : Value) (xs ys : List (List Int)) (w : World) (h : Sl (Ty.slice Ty.int) w v xs) (h' : Sl (Ty.slice Ty.int) w u ys) :
    Calls Try.prog 17 #[v, u] w fun e w' => e = .returned (.bool (decide (xs = ys))) ∧ Drawn w w' := by
  obtain ⟨A, c, rfl, hc, hcm, hlb, hr⟩ := h
  obtain ⟨B, d, rfl, hd, hdm, hlb', hs⟩ := h'
  unfold LB at hlb hlb'
  by_cases hl : xs.length = ys.length
  · obtain ⟨q1, q2, q3, q4⟩ := cmp_eq hl
    have HL := Lib.hid hl; clear hl
    go_enter Try.func17, Try.ntmps17
    go_wp2
    go_loopw [13] (fun i w' => (∃ k : Nat, k ≤ xs.length ∧ i = .int .i64 k ∧ Hid (xs.take k = ys.take k)) ∧ Drawn w w') (fun i _ => xs.length - (intOf i).toNat)
    case atStart => exact ⟨⟨0, Nat.zero_le _, rfl, by simp [Hid]⟩, Drawn.refl _⟩
    case round =>
      obtain ⟨⟨k, hk, rfl, hH⟩, hD⟩ := hrel
      replace hr := hr.below hD.below
      replace hs := hs.below hD.below
      have hL := HL.out
      by_cases hlt : k < xs.length
      · have hlt2 : k < ys.length := by omega
        obtain ⟨x, hx⟩ := at_lt xs hlt
        obtain ⟨y, hy⟩ := at_lt ys hlt2
        obtain ⟨ad, X, p, rfl, hcell, g1, g2, g3, g4⟩ := hr.slice hx
        obtain ⟨bd, Y, q, rfl, hcell2, g5, g6, g7, g8⟩ := hs.slice hy
        have HX := Lib.hid hx; clear hx
        have HY := Lib.hid hy; clear hy
        have hcall : ∀ n, Calls Try.prog 22 #[.slice X x.length p, .slice Y y.length q] (wr.drewN n) fun e w' => e = .returned (.bool (decide (x = y))) ∧ Drawn (wr.drewN n) w' :=
          fun n => sameInts_calls _ _ x y _ (Sl.drewN ⟨X, p, rfl, g1, g2, g3, g4⟩ n) (Sl.drewN ⟨Y, q, rfl, g5, g6, g7, g8⟩ n)
        clear hL
        by_cases he : x = y
        · have hb : decide (x = y) = true := by simpa using he
          have HE := Lib.hid he; clear he
          rw [hb] at hcall
          go_wp2
          go_quiet ((go_at_call 22; exact Calls.quiet (hcall _)))
          go_wp2
          go_roundw
          case rel => exact ⟨⟨k + 1, by omega, by go_num, by
            have e := HE.out; subst e
            exact take_same HX.out HY.out hH⟩, hD.more _⟩
          case measure => simp [intOf]; omega
        · have hb : decide (x = y) = false := by simpa using he
          have HE := Lib.hid he; clear he
          rw [hb] at hcall
          go_wp2
          go_quiet ((go_at_call 22; exact Calls.quiet (hcall _)))
          go_wp2
          go_ret
          exact ⟨ret_bool (decide_eq_false (ne_at HX.out HY.out HE.out)), hD.more _⟩
      · have hH2 := Lib.hid hH; clear hH hL
        go_wp2
        go_ret
        exact ⟨ret_bool (decide_eq_true (eq_all HL.out hlt hH2.out)), hD⟩
  · obtain ⟨q1, q2, q3, q4⟩ := cmp_ne hl
    have HL := Lib.hid hl; clear hl
    go_enter Try.func17, Try.ntmps17
    go_wp2
    go_ret
    exact ⟨ret_bool (decide_eq_false fun e => HL.out (by rw [e])), Drawn.refl _⟩
end Go.Proofs.Ytigbfankkmmnbaa
set_option linter.unusedVariables false
set_option linter.unusedSimpArgs false
namespace Go.Proofs.Ytigbfankkmmnbaa
open Go.RowKit Gk

/-- a grammar by numbers, as data -/
structure Cfg where
  toks : List ByteArray
  names : List ByteArray
  alts : List (List (List Int))
abbrev altsT : Ty (List (List (List Int))) := Ty.slice (Ty.slice (Ty.slice Ty.int))
abbrev rowsT : Ty (List (List Int)) := Ty.slice (Ty.slice Ty.int)
/-- a value of type api.Cfg -/
def CfgV (w : World) (v : Value) (c : Cfg) : Prop :=
  ∃ a b d, v = .agg #[a, b, d] ∧ Sl Ty.str w a c.toks ∧ Sl Ty.str w b c.names ∧ Sl rowsT w d c.alts
theorem CfgV.below {w w' : World} {v : Value} {c : Cfg} (h : CfgV w v c) (hb : Below w.heap.size w w') : CfgV w' v c := by
  obtain ⟨a, b, d, rfl, h1, h2, h3⟩ := h
  exact ⟨a, b, d, rfl, h1.below hb, h2.below hb, h3.below hb⟩
/-- at most so many of each -/
def Small (m : Int) (c : Cfg) : Prop :=
  (c.toks.length : Int) + c.names.length ≤ m ∧ ∀ al ∈ c.alts, (al.length : Int) ≤ m ∧ ∀ a ∈ al, (a.length : Int) ≤ m
def fewEnd (m : Int) (c : Cfg) (w : World) (e : Ending) (w' : World) : Prop :=
  ∃ b, e = .returned (.bool b) ∧ Below w.heap.size w w' ∧ (b = true → Small m c)
def Upto (n : Int) (al : List (List Int)) : Prop := (al.length : Int) ≤ n ∧ ∀ a ∈ al, (a.length : Int) ≤ n
/-- what holds of the first k rules, and of the first j alternatives of the next -/
def FewR (c : Cfg) (k j : Nat) (x : List (List Int)) (n : Int) : Prop :=
  (c.toks.length : Int) + c.names.length ≤ n ∧ (j : Int) ≤ n ∧ (∀ al ∈ c.alts.take k, Upto n al) ∧ ∀ a ∈ x.take j, (a.length : Int) ≤ n
theorem FewR.next {c : Cfg} {k j : Nat} {x : List (List Int)} {n : Int} (h : FewR c k j x n) {a : List Int} (ha : x[j]? = some a) : FewR c k (j + 1) x (n + (1 + a.length)) := by
  obtain ⟨h1, h2, h3, h4⟩ := h
  refine ⟨by omega, by omega, fun al hal => ⟨?_, fun b hb => ?_⟩, fun b hb => ?_⟩
  · have := (h3 al hal).1; omega
  · have := (h3 al hal).2 b hb; omega
  · rw [take_next ha] at hb
    rcases List.mem_append.1 hb with hb | hb
    · have := h4 b hb; omega
    · simp at hb; subst hb; omega
theorem FewR.done {c : Cfg} {k : Nat} {x : List (List Int)} {n : Int} (h : FewR c k x.length x n) (hx : c.alts[k]? = some x) : FewR c (k + 1) 0 [] n := by
  obtain ⟨h1, h2, h3, h4⟩ := h
  refine ⟨h1, by simp; omega, fun al hal => ?_, by simp⟩
  rw [take_next hx] at hal
  rcases List.mem_append.1 hal with hal | hal
  · exact h3 al hal
  · simp at hal; subst hal
    exact ⟨h2, fun a ha => h4 a (by rwa [List.take_length])⟩
theorem FewR.small {c : Cfg} {n m : Int} {x : List (List Int)} {j : Nat} (h : FewR c c.alts.length j x n) (hm : n ≤ m) : Small m c := by
  obtain ⟨h1, h2, h3, h4⟩ := h
  refine ⟨by omega, fun al hal => ?_⟩
  rw [List.take_length] at h3
  have := h3 al hal
  exact ⟨by have := this.1; omega, fun a ha => by have := this.2 a ha; omega⟩

set_option maxHeartbeats 1000000 in
theorem few_calls (v : Value) (c : Cfg) (m : Int) (w : World) (h : CfgV w v c) (hm0 : 0 ≤ m) (hm1 : m ≤ 1000000) :
    Calls Try.prog 41 #[v, .int .i64 m] w (fewEnd m c w) := by
  obtain ⟨a0, b0, d0, rfl, h1, h2, h3⟩ := h
  obtain ⟨A1, c1, rfl, hc1, hm1', hl1, hr1⟩ := h1
  obtain ⟨A2, c2, rfl, hc2, hm2, hl2, hr2⟩ := h2
  obtain ⟨A, cc, rfl, hc, hcm, hlb, hr⟩ := h3
  unfold LB at hlb hl1 hl2
  go_enter Try.func41, Try.ntmps41
  go_wp2
  go_loopw [20, 5] (fun i n wr => (∃ (k : Nat) (q : Int), k ≤ c.alts.length ∧ i = .int .i64 k ∧ n = .int .i64 q ∧ 0 ≤ q ∧ q ≤ 281474976710656 ∧ FewR c k 0 [] q) ∧ Below w.heap.size w wr) (fun i _ _ => c.alts.length - (intOf i).toNat)
  case atStart => exact ⟨⟨0, _, Nat.zero_le _, rfl, rfl, by omega, by omega, by simp [FewR]; omega⟩, by first | exact Below.refl _ _ | exact (Below.refl _ _).alloc (Nat.le_refl _) _⟩
  case round =>
    obtain ⟨⟨k, q, hk, rfl, rfl, hq0, hq1, hF⟩, hB⟩ := hrel
    replace hr := hr.below hB
    by_cases hlt : k < c.alts.length
    · obtain ⟨x, hx⟩ := at_lt c.alts hlt
      obtain ⟨ad, X, p, rfl, hcell, g1, g2, g3, g4⟩ := hr.slice hx
      have HX := Lib.hid hx; clear hx
      obtain ⟨wo, rfl⟩ : ∃ wo : World, wo = wr := ⟨_, rfl⟩
      go_wp2
      go_loopw [26, 5] (fun i n wr => (∃ (j : Nat) (q : Int), j ≤ x.length ∧ i = .int .i64 j ∧ n = .int .i64 q ∧ 0 ≤ q ∧ q ≤ 281474976710656 ∧ FewR c k j x q) ∧ Below wo.heap.size wo wr) (fun i _ _ => x.length - (intOf i).toNat)
      case atStart => exact ⟨⟨0, q, Nat.zero_le _, rfl, rfl, by omega, by omega, by obtain ⟨e1, e2, e3, e4⟩ := hF; exact ⟨e1, e2, e3, by simp⟩⟩, Below.refl _ _⟩
      case round =>
        obtain ⟨⟨j, q, hj, rfl, rfl, hq0, hq1, hF⟩, hB2⟩ := hrel
        replace g4 := g4.below hB2
        have hB3 := below2 hB hB2
        by_cases hjt : j < x.length
        · obtain ⟨y, hy⟩ := at_lt x hjt
          obtain ⟨ad2, Y, p2, rfl, hcell2, g5, g6, g7, g8⟩ := g4.slice hy
          have hN := hF.next hy
          clear hy
          by_cases hgt : m < q + (1 + y.length)
          · go_wp2
            go_ret
            exact ⟨_, rfl, hB3, by intro h; cases h⟩
          · go_wp2
            go_roundw
            case rel => exact ⟨⟨j + 1, _, by omega, by go_num, rfl, by omega, by omega, hN⟩, hB2⟩
            case measure => simp [intOf]; omega
        · have hjx : j = x.length := by omega
          have HJ := Lib.hid hjx; clear hjx
          go_wp2
          go_roundw
          case rel => exact ⟨⟨k + 1, q, by omega, by go_num, rfl, by omega, by omega, by have e := HJ.out; subst e; exact hF.done HX.out⟩, hB3⟩
          case measure => simp [intOf]; omega
    · go_wp2
      go_ret
      exact ⟨_, rfl, hB, fun h => FewR.small (m := m) (x := []) (j := 0) (by rwa [show k = c.alts.length by omega] at hF) (by simpa using h)⟩
end Go.Proofs.Ytigbfankkmmnbaa
set_option linter.unusedVariables false
set_option linter.unusedSimpArgs false
namespace Go.Proofs.Ytigbfankkmmnbaa
open Go.RowKit Gk

abbrev flawT : Ty (Int × ByteArray) := Ty.pair Ty.int Ty.str
theorem flaw_of {w : World} {x : Int × ByteArray} {u0 u1 : Value} (h : flawT.R w x [u0, u1]) : u0 = .int .i64 x.1 ∧ u1 = .string x.2 ∧ Ty.i64 x.1 ∧ x.2.size ≤ 140737488355328 := by
  obtain ⟨c1, c2, e, ⟨rfl, h1⟩, ⟨rfl, h2⟩⟩ := h
  simp only [List.singleton_append, List.cons.injEq, and_true] at e
  exact ⟨e.1, e.2, h1, h2⟩
theorem flaw_mk (w : World) (k : Int) (s : ByteArray) (hk : Ty.i64 k) (hs : s.size ≤ 140737488355328) : flawT.R w (k, s) [.int .i64 k, .string s] := ⟨[_], [_], rfl, ⟨rfl, hk⟩, ⟨rfl, hs⟩⟩
theorem flaw_far (D : Nat → Prop) (w : World) (k : Int) (s : ByteArray) (hk : Ty.i64 k) (hs : s.size ≤ 140737488355328) : Far D (fun w => flawT.R w (k, s) [.int .i64 k, .string s]) w :=
  fun w' _ _ => flaw_mk w' k s hk hs
theorem infoFlaw : (Try.prog.info? 129).map (fun i => (i.zero, i.size, i.bytes)) = some (some (.agg #[.int .i64 0, .string ⟨#[]⟩]), 2, 24) := by kernel_rfl
theorem elemFlaw : ElemOk Try.prog flawT 101 129 24 := ElemOk.of Try.underlying101 infoFlaw rfl (by omega)

/-- how a row that was handed in comes back: the same, or with more behind it -/
structure Grew {α : Type} (T : Ty α) (e : TypeId) (B : Nat) (D : Nat → Prop) (w : World) (v : Value) (w' : World) (v' : Value) (xs' : List α) : Prop where
  own : Own T e B D w' v' xs'
  grown : w.grownBy w' v.ownBlock
  at_ : v'.ownBlock = v.ownBlock ∨ ∃ k, v'.ownBlock = some k ∧ w.heap.size ≤ k
theorem Grew.below {α : Type} {T : Ty α} {e : TypeId} {B : Nat} {D : Nat → Prop} {w w' : World} {v v' : Value} {xs xs' : List α} (h : Grew T e B D w v w' v' xs') (ho : Own T e B D w v xs) (hB : B ≤ w.heap.size) : Below B w w' :=
  (Below.refl B w).grown h.grown hB fun k hk => (ho.lt k hk).1
def layEnd (B : Nat) (D : Nat → Prop) (w : World) (v : Value) (xs : List (Int × ByteArray)) (e : Ending) (w' : World) : Prop :=
  ∃ v' xs', e = .returned v' ∧ xs'.length ≤ xs.length + 1 ∧ Grew flawT 129 B D w v w' v' xs'

set_option maxHeartbeats 1000000 in
theorem lay_calls (B : Nat) (D : Nat → Prop) (v : Value) (xs : List (Int × ByteArray)) (k : Int) (s : ByteArray) (w : World) (h : Own flawT 129 B D w v xs) (hD : ∀ b, w.heap.size ≤ b → D b) (hB : B ≤ w.heap.size)
    (hl : xs.length ≤ 4000000000) (hk : Ty.i64 k) (hs : s.size ≤ 140737488355328) :
    Calls Try.prog 90 #[v, .int .i64 k, .string s] w (layEnd B D w v xs) := by
  obtain ⟨A, c, rfl, hc, hcm, hlb, hr⟩ := h.sl
  have HO := Lib.hid h; clear h
  unfold LB at hlb
  go_enter Try.func90, Try.ntmps90
  go_wp2
  go_loopw [11] (fun i wr => (∃ j : Nat, j ≤ xs.length ∧ i = .int .i64 j) ∧ Below w.heap.size w wr) (fun i _ => xs.length - (intOf i).toNat)
  case atStart => exact ⟨⟨0, Nat.zero_le _, rfl⟩, Below.refl _ _⟩
  case round =>
    obtain ⟨⟨j, hj, rfl⟩, hW⟩ := hrel
    replace hr := hr.below hW
    have HO2 := Lib.hid (HO.out.below hW)
    have hsz := hW.size
    by_cases hlt : j < xs.length
    · obtain ⟨x, hx⟩ := at_lt xs hlt
      obtain ⟨ad, u0, u1, rfl, hx2, hcell0, hcell1⟩ := hr.two rfl hx
      clear hx
      obtain ⟨rfl, rfl, hx3, hx4⟩ := flaw_of hx2
      clear hx2
      have hW2 : Below w.heap.size w (wr.alloc (.cells #[.int .i64 x.1, .string x.2] 129)) := hW.alloc hsz _
      by_cases e1 : x.1 = k
      · obtain ⟨q1, q2⟩ := icmp_eq e1
        by_cases e2 : x.2 = s
        · have q3 := str_eq e2
          have := Lib.hid e1; clear e1
          have := Lib.hid e2; clear e2
          go_wp2
          go_ret
          exact ⟨_, xs, rfl, by omega, (HO2.out.alloc _), World.grownBy.trans ⟨hW.os, hW.tape, hW.output, hW.size, fun b hb _ => hW.block b hb⟩ (World.grownBy_alloc _ _ _), .inl rfl⟩
        · have q3 := str_ne e2
          have := Lib.hid e1; clear e1
          have := Lib.hid e2; clear e2
          go_wp2
          go_roundw
          case rel => exact ⟨⟨j + 1, by omega, by go_num⟩, hW2⟩
          case measure => simp [intOf]; omega
      · obtain ⟨q1, q2⟩ := icmp_ne e1
        have := Lib.hid e1; clear e1
        go_wp2
        go_roundw
        case rel => exact ⟨⟨j + 1, by omega, by go_num⟩, hW2⟩
        case measure => simp [intOf]; omega
    · have hW3 : w.grownBy wr (Value.slice A xs.length c).ownBlock := ⟨hW.os, hW.tape, hW.output, hW.size, fun b hb _ => hW.block b hb⟩
      have g1 : ∀ b, wr.heap.size ≤ b → D b := fun b hb => hD b (by omega)
      have g2 : Below B w wr := hW.mono hB
      have g3 : B ≤ wr.heap.size := by omega
      have g4 : (xs.length + 1) * 24 ≤ 140737488355328 := by omega
      go_wp2_with (at_builtin; refine wpList_app (T := flawT) (v := .slice A xs.length c) (xs := xs) (W := wr) (w0 := w) (B := B) (D := D) rfl (.tmp 27) (.tmp 31) 101 129 24 rfl elemFlaw rfl (k, s) #[.int .i64 k, .string s] _ rfl rfl HO2.out g1 (flaw_far _ _ k s hk hs) g2 g3 g4 ?_; intro v1 w1 hown hbel hgr hat)
      go_ret
      refine ⟨_, _, rfl, by simp, hown, World.grownBy.trans hW3 hgr, ?_⟩
      rcases hat with e | ⟨q, e, hq⟩
      · exact .inl e
      · exact .inr ⟨q, e, by omega⟩
end Go.Proofs.Ytigbfankkmmnbaa
set_option linter.unusedVariables false
set_option linter.unusedSimpArgs false
namespace Go.Proofs.Ytigbfankkmmnbaa
open Go.RowKit Gk
/-- it answers some bool; nothing turns -/
def someBool (w : World) (e : Ending) (w' : World) : Prop := ∃ b, e = .returned (.bool b) ∧ Drawn w w'
theorem someBool.mk {w : World} {b : Bool} : someBool w (.returned (.bool b)) w := ⟨b, rfl, Drawn.refl w⟩
set_option maxHeartbeats 1000000 in
theorem isName_calls (s : ByteArray) (w : World) (hs : s.size ≤ 140737488355328) :
    Calls Try.prog 77 #[.string s] w (someBool w) := by
  have hfin : ∀ b, someBool w (.returned (.bool b)) w := fun b => someBool.mk
  go_enter Try.func77, Try.ntmps77
  by_cases h1 : s.size < 1
  · go_wp2; go_ret; exact hfin _
  by_cases h2 : s.size > 32
  · go_wp2; go_ret; exact hfin _
  go_wp2
  go_loop [3] (fun i => ∃ k : Nat, k ≤ s.size ∧ i = .int .i64 k) (fun i => s.size - (intOf i).toNat)
  case atStart => exact ⟨0, Nat.zero_le _, rfl⟩
  case round =>
    obtain ⟨k, hk, rfl⟩ := hrel
    by_cases hlt : k < s.size
    · go_wp2
      all_goals first
        | (go_ret; exact hfin _)
        | (go_round
           case rel => exact ⟨k + 1, by omega, by go_num⟩
           case measure => simp [intOf]; omega)
    · go_wp2
      go_ret
      exact hfin _
end Go.Proofs.Ytigbfankkmmnbaa
set_option linter.unusedVariables false
set_option linter.unusedSimpArgs false
namespace Go.Proofs.Ytigbfankkmmnbaa
open Go.RowKit Gk

/-- a rule by names -/
abbrev ruleT : Ty (ByteArray × List (List ByteArray)) := Ty.pair Ty.str (Ty.slice (Ty.slice Ty.str))
abbrev Rules := List (ByteArray × List (List ByteArray))
theorem rule_of {w : World} {x : ByteArray × List (List ByteArray)} {u0 u1 : Value} (h : ruleT.R w x [u0, u1]) : u0 = .string x.1 ∧ x.1.size ≤ 140737488355328 ∧ Sl (Ty.slice Ty.str) w u1 x.2 := by
  obtain ⟨c1, c2, e, ⟨rfl, h1⟩, ⟨v, rfl, h2⟩⟩ := h
  simp only [List.singleton_append, List.cons.injEq, and_true] at e
  obtain ⟨rfl, rfl⟩ := e
  exact ⟨rfl, h1, h2⟩
theorem rule_mk {w : World} {x : ByteArray × List (List ByteArray)} {u1 : Value} (h1 : x.1.size ≤ 140737488355328) (h2 : Sl (Ty.slice Ty.str) w u1 x.2) : ruleT.R w x [.string x.1, u1] := ⟨[_], [_], rfl, ⟨rfl, h1⟩, ⟨_, rfl, h2⟩⟩
/-- a rule's cells in a row -/
theorem Row.rule {w : World} {A : Option Addr} {xs : Rules} (h : Row ruleT w A xs) {i : Nat} {x : ByteArray × List (List ByteArray)} (hx : xs[i]? = some x) :
    ∃ ad B c, A = some ad ∧ w.cell? (ad.add (i * 2)) = some (.string x.1) ∧ w.cell? ⟨(ad.add (i * 2)).block, (ad.add (i * 2)).off + 1, none⟩ = some (.slice B x.2.length c) ∧ x.1.size ≤ 140737488355328 ∧
      x.2.length ≤ c ∧ c ≤ maxLen ∧ x.2.length ≤ 140737488355328 ∧ Row (Ty.slice Ty.str) w B x.2 := by
  obtain ⟨ad, u0, u1, e, hr, h0, h1⟩ := h.two rfl hx
  obtain ⟨rfl, h2, B, c, rfl, h3⟩ := rule_of hr
  exact ⟨ad, B, c, e, h0, h1, h2, h3⟩
theorem infoStr : (Try.prog.info? 9).map (fun i => (i.zero, i.size, i.bytes)) = some (some (.string ⟨#[]⟩), 1, 16) := by kernel_rfl
theorem elemStr : ElemOk Try.prog Ty.str 22 9 16 := ElemOk.of Try.underlying22 infoStr rfl (by omega)
theorem infoStrs : (Try.prog.info? 22).map (fun i => (i.zero, i.size, i.bytes)) = some (some (.slice none 0 0), 1, 24) := by kernel_rfl
theorem elemStrs : ElemOk Try.prog (Ty.slice Ty.str) 95 22 24 := ElemOk.of Try.underlying95 infoStrs rfl (by omega)
theorem infoRule : (Try.prog.info? 97).map (fun i => (i.zero, i.size, i.bytes)) = some (some (.agg #[.string ⟨#[]⟩, .slice none 0 0]), 2, 40) := by kernel_rfl
theorem elemRule : ElemOk Try.prog ruleT 80 97 40 := ElemOk.of Try.underlying80 infoRule rfl (by omega)
theorem str_far (D : Nat → Prop) (w : World) (s : ByteArray) (hs : s.size ≤ 140737488355328) : Far D (fun w => Ty.str.R w s [.string s]) w := fun _ _ _ => ⟨rfl, hs⟩

/-- it answers a slice, and nothing that was there turns -/
def gives {α : Type} (T : Ty α) (w : World) (p : List α → Prop) (e : Ending) (w' : World) : Prop := ∃ v xs, e = .returned v ∧ p xs ∧ Far (fun b => w.heap.size ≤ b) (fun w => Sl T w v xs) w' ∧ Below w.heap.size w w'

set_option maxHeartbeats 1000000 in
theorem names_calls (v : Value) (rs : Rules) (w : World) (h : Sl ruleT w v rs) (hl : rs.length ≤ 1000000) :
    Calls Try.prog 80 #[.agg #[v]] w (gives Ty.str w (fun xs => xs = rs.map (·.1))) := by
  obtain ⟨A, c, rfl, hc, hcm, hlb, hr⟩ := h
  unfold LB at hlb
  go_enter Try.func80, Try.ntmps80
  go_wp2
  go_loopw [9, 3] (fun i o wr => (∃ j : Nat, j ≤ rs.length ∧ i = .int .i64 j ∧ Own Ty.str 9 w.heap.size (fun b => w.heap.size ≤ b) wr o ((rs.take j).map (·.1))) ∧ Below w.heap.size w wr) (fun i _ _ => rs.length - (intOf i).toNat)
  case atStart => exact ⟨⟨0, Nat.zero_le _, rfl, Own.nil _ _ _ _ _⟩, (Below.refl _ _).alloc (Nat.le_refl _) _⟩
  case round =>
    obtain ⟨⟨j, hj, rfl, hO⟩, hW⟩ := hrel
    replace hr := hr.below hW
    have hsz := hW.size
    by_cases hlt : j < rs.length
    · obtain ⟨x, hx⟩ := at_lt rs hlt
      obtain ⟨ad, B, c2, rfl, hcell0, hcell1, hx1, g1, g2, g3, g4⟩ := Row.rule hr hx
      have HX := Lib.hid hx; clear hx
      have HO := Lib.hid (hO.alloc (.cells #[.string x.1, .slice B x.2.length c2] 97)); clear hO
      have hW2 : Below w.heap.size w (wr.alloc (.cells #[.string x.1, .slice B x.2.length c2] 97)) := hW.alloc hsz _
      have g5 : w.heap.size ≤ (wr.alloc (.cells #[.string x.1, .slice B x.2.length c2] 97)).heap.size := hW2.size
      have g6 : (((rs.take j).map (·.1)).length + 1) * 16 ≤ 140737488355328 := by simp; omega
      have g7 := HO.out
      have g8 : ∀ b, (wr.alloc (.cells #[.string x.1, .slice B x.2.length c2] 97)).heap.size ≤ b → w.heap.size ≤ b := fun b hb => Nat.le_trans g5 hb
      go_wp2_with (at_builtin; refine wpList_app (T := Ty.str) (v := u3) (xs := (rs.take j).map (·.1)) (W := wr.alloc (.cells #[.string x.1, .slice B x.2.length c2] 97)) (w0 := w) (B := w.heap.size) (D := fun b => w.heap.size ≤ b) rfl (.tmp 13) (.tmp 16) 22 9 16 rfl elemStr rfl x.1 #[.string x.1] (wr.heap.size + 1) (by simp) rfl g7 g8 (str_far _ _ x.1 hx1) hW2 g5 g6 ?_; intro v1 w1 hown hbel hgr hat)
      go_roundw
      case rel => exact ⟨⟨j + 1, by omega, by go_num, by rw [take_next HX.out, List.map_append]; exact hown⟩, hbel⟩
      case measure => simp [intOf]; omega
    · have HO := Lib.hid hO; clear hO
      go_wp2
      go_ret
      exact ⟨_, _, rfl, by rw [List.take_of_length_le (by omega)], HO.out.far, hW⟩

set_option maxHeartbeats 1000000 in
theorem all_calls (v u : Value) (xs ys : List ByteArray) (w : World) (h : Sl Ty.str w v xs) (h' : Sl Ty.str w u ys) :
    Calls Try.prog 104 #[v, u] w fun e w' => e = .returned (.bool (dec (∀ x ∈ xs, x ∈ ys))) ∧ w = w' := by
  obtain ⟨A, c, rfl, hc, hcm, hlb, hr⟩ := h
  unfold LB at hlb
  go_enter Try.func104, Try.ntmps104
  go_wp2
  go_loop [9] (fun i => ∃ k : Nat, k ≤ xs.length ∧ i = .int .i64 k ∧ Hid (∀ x ∈ xs.take k, x ∈ ys)) (fun i => xs.length - (intOf i).toNat)
  case atStart => exact ⟨0, Nat.zero_le _, rfl, by simp [Hid]⟩
  case round =>
    obtain ⟨k, hk, rfl, hH⟩ := hrel
    have HH := Lib.hid hH; clear hH
    by_cases hlt : k < xs.length
    · obtain ⟨x, hx⟩ := at_lt xs hlt
      obtain ⟨ad, rfl, hxs, hcell⟩ := hr.str hx
      have HX := Lib.hid hx; clear hx
      have hcall := has_calls u ys x w h'
      by_cases he : x ∈ ys
      · rw [dec_true he] at hcall
        have HE := Lib.hid he; clear he
        go_wp2_with (go_at_call 78; refine hcall.mono ?_; rintro e w' ⟨rfl, rfl⟩)
        go_round
        case rel => exact ⟨k + 1, by omega, by go_num, by
          have hH := HH.out.out
          unfold Hid; rw [take_next HX.out]; intro y hy
          rcases List.mem_append.1 hy with hy | hy
          · exact hH y hy
          · simp at hy; subst hy; exact HE.out⟩
        case measure => simp [intOf]; omega
      · rw [dec_false he] at hcall
        have HE := Lib.hid he; clear he
        go_wp2_with (go_at_call 78; refine hcall.mono ?_; rintro e w' ⟨rfl, rfl⟩)
        go_ret
        exact ⟨ret_bool (dec_false fun hall => HE.out (hall x (List.mem_of_getElem? HX.out))), rfl⟩
    · go_wp2
      go_ret
      exact ⟨ret_bool (dec_true (by have := HH.out.out; rwa [List.take_of_length_le (by omega)] at this)), rfl⟩

/-- it answers some bool; nothing that was there turns -/
def aBool (w : World) (e : Ending) (w' : World) : Prop := ∃ b, e = .returned (.bool b) ∧ Below w.heap.size w w'
def aNum (p : Int → Prop) (w : World) (e : Ending) (w' : World) : Prop := ∃ r, e = .returned (.int .i64 r) ∧ p r ∧ Below w.heap.size w w'

/-- it answers some bool, and yes only if there is something -/
def mayEnd {α : Type} (rs : List α) (w : World) (e : Ending) (w' : World) : Prop := ∃ b, e = .returned (.bool b) ∧ Below w.heap.size w w' ∧ (b = true → 0 < rs.length)
set_option maxHeartbeats 2000000 in
theorem may_calls (v : Value) (rs : Rules) (w : World) (h : Sl ruleT w v rs) :
    Calls Try.prog 88 #[.agg #[v]] w (mayEnd rs w) := by
  have hfin : ∀ (b : Bool) w', b = false → Below w.heap.size w w' → mayEnd rs w (.returned (.bool b)) w' := fun b w' hb h => ⟨b, rfl, h, fun h => by rw [hb] at h; cases h⟩
  obtain ⟨A, c, rfl, hc, hcm, hlb, hr⟩ := h
  unfold LB at hlb
  go_enter Try.func88, Try.ntmps88
  go_wp2
  go_loopw [12] (fun i wr => (∃ j : Nat, j ≤ rs.length ∧ i = .int .i64 j) ∧ Below w.heap.size w wr ∧ Box wr w.heap.size #[.slice A rs.length c] 82) (fun i _ => rs.length - (intOf i).toNat)
  case atStart => exact ⟨⟨0, Nat.zero_le _, rfl⟩, (Below.refl _ _).alloc (Nat.le_refl _) _, Box.new _ _ _⟩
  case round =>
    obtain ⟨⟨j, hj, rfl⟩, hW, hbox⟩ := hrel
    replace hr := hr.below hW
    have hsz := hW.size
    by_cases hlt : j < rs.length
    · obtain ⟨x, hx⟩ := at_lt rs hlt
      obtain ⟨ad, B, c2, rfl, hcell0, hcell1, hx1, g1, g2, g3, g4⟩ := Row.rule hr hx
      clear hx
      have hN : wr.heap.size < (wr.alloc (.cells #[.string x.1, .slice B x.2.length c2] 97)).heap.size := by simp
      have hWa : Below wr.heap.size wr (wr.alloc (.cells #[.string x.1, .slice B x.2.length c2] 97)) := (Below.refl _ _).alloc (Nat.le_refl _) _
      have hboxX := Box.new wr #[.string x.1, .slice B x.2.length c2] 97
      by_cases h0 : (x.2.length : Int) = 0
      · obtain ⟨q1, q2⟩ := icmp_eq h0
        have := Lib.hid h0; clear h0
        go_wp2_with (go_at_call 77; refine (isName_calls x.1 _ hx1).mono ?_; rintro e w' ⟨b, rfl, ⟨m, rfl⟩⟩; cases b)
        all_goals (go_ret; exact hfin _ _ rfl (below_then hW hsz (below_drewN hWa _)))
      · obtain ⟨q1, q2⟩ := icmp_ne h0
        have h0 := Lib.hid h0
        obtain ⟨wo, rfl⟩ : ∃ wo : World, wo = wr := ⟨_, rfl⟩
        go_wp2_with (go_at_call 77; refine (isName_calls x.1 _ hx1).mono ?_; rintro e w' ⟨b, rfl, ⟨m, rfl⟩⟩; cases b)
        · go_ret
          exact hfin _ _ rfl (below_then hW hsz (below_drewN hWa _))
        go_loopw [29] (fun i wr => (∃ j : Nat, j ≤ x.2.length ∧ i = .int .i64 j) ∧ Below wo.heap.size wo wr) (fun i _ => x.2.length - (intOf i).toNat)
        case atStart => exact ⟨⟨0, Nat.zero_le _, rfl⟩, below_drewN hWa _⟩
        case round =>
          obtain ⟨⟨p, hp, rfl⟩, hW2⟩ := hrel
          have hW3 := below_then hW hsz hW2
          replace g4 := g4.below hW2
          by_cases hlt2 : p < x.2.length
          · obtain ⟨y, hy⟩ := at_lt x.2 hlt2
            obtain ⟨ad2, Y, c3, rfl, hcell2, g5, g6, g7, g8⟩ := g4.slice hy
            clear hy
            obtain ⟨wp, rfl⟩ : ∃ wp : World, wp = wr := ⟨_, rfl⟩
            go_wp2
            go_loopw [35] (fun i wr => (∃ j : Nat, j ≤ y.length ∧ i = .int .i64 j) ∧ Below wp.heap.size wp wr) (fun i _ => y.length - (intOf i).toNat)
            case atStart => exact ⟨⟨0, Nat.zero_le _, rfl⟩, Below.refl _ _⟩
            case round =>
              obtain ⟨⟨r, hr2, rfl⟩, hW4⟩ := hrel
              have hW5 := below2 hW3 hW4
              replace g8 := g8.below hW4
              by_cases hlt3 : r < y.length
              · obtain ⟨z, hz⟩ := at_lt y hlt3
                obtain ⟨ad3, rfl, hzs, hcell3⟩ := g8.str hz
                clear hz
                go_wp2_with (go_at_call 77; refine (isName_calls z _ hzs).mono ?_; rintro e w' ⟨b, rfl, ⟨m, rfl⟩⟩; cases b)
                · go_ret
                  exact hfin _ _ rfl (below_drewN hW5 _)
                · go_roundw
                  case rel => exact ⟨⟨r + 1, by omega, by go_num⟩, below_drewN hW4 _⟩
                  case measure => simp [intOf]; omega
              · go_wp2
                go_roundw
                case rel => exact ⟨⟨p + 1, by omega, by go_num⟩, below2 hW2 hW4⟩
                case measure => simp [intOf]; omega
          · go_wp2
            go_roundw
            case rel => exact ⟨⟨j + 1, by omega, by go_num⟩, hW3, hbox.below hW2⟩
            case measure => simp [intOf]; omega
    · have hb0 := hbox.cell 0 (v := .slice A rs.length c) rfl
      go_wp2
      go_ret
      exact ⟨_, rfl, hW, fun h => by simpa using h⟩
end Go.Proofs.Ytigbfankkmmnbaa
set_option linter.unusedVariables false
set_option linter.unusedSimpArgs false
namespace Go.Proofs.Ytigbfankkmmnbaa
open Go.RowKit Gk

set_option maxHeartbeats 2000000 in
theorem long_calls (v : Value) (rs : Rules) (w : World) (h : Sl ruleT w v rs) :
    Calls Try.prog 89 #[.agg #[v]] w (aBool w) := by
  have hfin : ∀ b w', Below w.heap.size w w' → aBool w (.returned (.bool b)) w' := fun b w' h => ⟨b, rfl, h⟩
  obtain ⟨A, c, rfl, hc, hcm, hlb, hr⟩ := h
  unfold LB at hlb
  go_enter Try.func89, Try.ntmps89
  go_wp2
  go_loopw [10] (fun i wr => (∃ j : Nat, j ≤ rs.length ∧ i = .int .i64 j) ∧ Below w.heap.size w wr ∧ Box wr w.heap.size #[.slice A rs.length c] 82) (fun i _ => rs.length - (intOf i).toNat)
  case atStart => exact ⟨⟨0, Nat.zero_le _, rfl⟩, (Below.refl _ _).alloc (Nat.le_refl _) _, Box.new _ _ _⟩
  case round =>
    obtain ⟨⟨j, hj, rfl⟩, hW, hbox⟩ := hrel
    replace hr := hr.below hW
    have hsz := hW.size
    by_cases hlt : j < rs.length
    · obtain ⟨x, hx⟩ := at_lt rs hlt
      obtain ⟨ad, B, c2, rfl, hcell0, hcell1, hx1, g1, g2, g3, g4⟩ := Row.rule hr hx
      clear hx
      have hWa : Below wr.heap.size wr (wr.alloc (.cells #[.string x.1, .slice B x.2.length c2] 97)) := (Below.refl _ _).alloc (Nat.le_refl _) _
      by_cases h0 : (x.2.length : Int) > 30
      · go_wp2
        go_ret
        exact hfin _ _ (below_then hW hsz hWa)
      · obtain ⟨wo, rfl⟩ : ∃ wo : World, wo = wr := ⟨_, rfl⟩
        go_wp2
        go_loopw [21] (fun i wr => (∃ j : Nat, j ≤ x.2.length ∧ i = .int .i64 j) ∧ Below wo.heap.size wo wr) (fun i _ => x.2.length - (intOf i).toNat)
        case atStart => exact ⟨⟨0, Nat.zero_le _, rfl⟩, hWa⟩
        case round =>
          obtain ⟨⟨p, hp, rfl⟩, hW2⟩ := hrel
          have hW3 := below_then hW hsz hW2
          replace g4 := g4.below hW2
          by_cases hlt2 : p < x.2.length
          · obtain ⟨y, hy⟩ := at_lt x.2 hlt2
            obtain ⟨ad2, Y, c3, rfl, hcell2, g5, g6, g7, g8⟩ := g4.slice hy
            clear hy
            by_cases h1 : (y.length : Int) > 30
            · go_wp2
              go_ret
              exact hfin _ _ hW3
            · go_wp2
              go_roundw
              case rel => exact ⟨⟨p + 1, by omega, by go_num⟩, hW2⟩
              case measure => simp [intOf]; omega
          · go_wp2
            go_roundw
            case rel => exact ⟨⟨j + 1, by omega, by go_num⟩, hW3, hbox.below hW2⟩
            case measure => simp [intOf]; omega
    · have hb0 := hbox.cell 0 (v := .slice A rs.length c) rfl
      go_wp2
      go_ret
      exact hfin _ _ hW

theorem check_calls (v : Value) (rs : Rules) (w : World) (h : Sl ruleT w v rs) :
    Calls Try.prog 76 #[.agg #[v]] w (aNum (fun r => 0 ≤ r ∧ r ≤ 2 ∧ (r = 0 → 0 < rs.length)) w) := by
  have h0 := h
  obtain ⟨A, c, rfl, hc, hcm, hlb, hr⟩ := h
  have hWa : Below w.heap.size w (w.alloc (.cells #[.slice A rs.length c] 82)) := (Below.refl _ _).alloc (Nat.le_refl _) _
  have hbox := Box.new w #[.slice A rs.length c] 82
  go_enter Try.func76, Try.ntmps76
  go_wp2_with (first
    | (go_at_call 88; refine (may_calls _ rs _ (h0.below hWa)).mono ?_; rintro e w1 ⟨b, rfl, hb, hbt⟩; have HBT : Hid (b = true → 0 < rs.length) := hbt; clear hbt; have hcell := (hbox.below hb).cell 0 (v := .slice A rs.length c) rfl; cases b)
    | (go_at_call 89; refine (long_calls _ rs _ ((h0.below hWa).below hb)).mono ?_; rintro e w2 ⟨b, rfl, hb2⟩; cases b))
  · go_ret
    exact ⟨_, rfl, ⟨by omega, by omega, fun h => by omega⟩, below2 hWa hb⟩
  all_goals (go_ret; exact ⟨_, rfl, ⟨by omega, by omega, fun _ => HBT (by first | rfl | trivial)⟩, below2 (below2 hWa hb) hb2⟩)
end Go.Proofs.Ytigbfankkmmnbaa
