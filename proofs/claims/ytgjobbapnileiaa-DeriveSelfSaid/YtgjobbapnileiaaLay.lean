/- lay: a list of flaws, perhaps with one more. -/
import Derived.Test.YtgjobbapnileiaaFew
set_option linter.unusedVariables false
set_option linter.unusedSimpArgs false
namespace Go.Proofs.Ytgjobbapnileiaa
open Go.RowKit Gk

abbrev flawT : Ty (Int × ByteArray) := Ty.pair Ty.int Ty.str
theorem flaw_of {w : World} {x : Int × ByteArray} {u0 u1 : Value} (h : flawT.R w x [u0, u1]) : u0 = .int .i64 x.1 ∧ u1 = .string x.2 ∧ Ty.i64 x.1 ∧ x.2.size ≤ 140737488355328 := by
  obtain ⟨c1, c2, e, ⟨rfl, h1⟩, ⟨rfl, h2⟩⟩ := h
  simp only [List.singleton_append, List.cons.injEq, and_true] at e
  exact ⟨e.1, e.2, h1, h2⟩
theorem flaw_mk (w : World) (k : Int) (s : ByteArray) (hk : Ty.i64 k) (hs : s.size ≤ 140737488355328) : flawT.R w (k, s) [.int .i64 k, .string s] := ⟨[_], [_], rfl, ⟨rfl, hk⟩, ⟨rfl, hs⟩⟩
theorem flaw_far (D : Nat → Prop) (w : World) (k : Int) (s : ByteArray) (hk : Ty.i64 k) (hs : s.size ≤ 140737488355328) : Far D (fun w => flawT.R w (k, s) [.int .i64 k, .string s]) w :=
  fun w' _ _ => flaw_mk w' k s hk hs
theorem infoFlaw : (Try.prog.info? 122).map (fun i => (i.zero, i.size, i.bytes)) = some (some (.agg #[.int .i64 0, .string ⟨#[]⟩]), 2, 24) := by kernel_rfl
theorem elemFlaw : ElemOk Try.prog flawT 99 122 24 := ElemOk.of Try.underlying99 infoFlaw rfl (by omega)

/-- how a row that was handed in comes back: the same, or with more behind it -/
structure Grew {α : Type} (T : Ty α) (e : TypeId) (B : Nat) (D : Nat → Prop) (w : World) (v : Value) (w' : World) (v' : Value) (xs' : List α) : Prop where
  own : Own T e B D w' v' xs'
  grown : w.grownBy w' v.ownBlock
  at_ : v'.ownBlock = v.ownBlock ∨ ∃ k, v'.ownBlock = some k ∧ w.heap.size ≤ k
theorem Grew.below {α : Type} {T : Ty α} {e : TypeId} {B : Nat} {D : Nat → Prop} {w w' : World} {v v' : Value} {xs xs' : List α} (h : Grew T e B D w v w' v' xs') (ho : Own T e B D w v xs) (hB : B ≤ w.heap.size) : Below B w w' :=
  (Below.refl B w).grown h.grown hB fun k hk => (ho.lt k hk).1
def layEnd (B : Nat) (D : Nat → Prop) (w : World) (v : Value) (xs : List (Int × ByteArray)) (e : Ending) (w' : World) : Prop :=
  ∃ v' xs', e = .returned v' ∧ xs'.length ≤ xs.length + 1 ∧ Grew flawT 122 B D w v w' v' xs'

set_option maxHeartbeats 1000000 in
theorem lay_calls (B : Nat) (D : Nat → Prop) (v : Value) (xs : List (Int × ByteArray)) (k : Int) (s : ByteArray) (w : World) (h : Own flawT 122 B D w v xs) (hD : ∀ b, w.heap.size ≤ b → D b) (hB : B ≤ w.heap.size)
    (hl : xs.length ≤ 4000000000) (hk : Ty.i64 k) (hs : s.size ≤ 140737488355328) :
    Calls Try.prog 58 #[v, .int .i64 k, .string s] w (layEnd B D w v xs) := by
  obtain ⟨A, c, rfl, hc, hcm, hlb, hr⟩ := h.sl
  have HO := Lib.hid h; clear h
  unfold LB at hlb
  go_enter Try.func58, Try.ntmps58
  go_wp2
  go_loopw [11] (fun i wr => (∃ j : Nat, j ≤ xs.length ∧ i = .int .i64 j) ∧ Below w.heap.size w wr) (fun i _ => xs.length - (intOf i).toNat)
  case atStart => exact ⟨⟨0, Nat.zero_le _, rfl⟩, Below.refl _ _⟩
  case round =>
    obtain ⟨⟨j, hj, rfl⟩, hW⟩ := hrel
    replace hr := hr.below hW
    have HO2 := Lib.hid (HO.out.below hW)
    have hsz := hW.size
    by_cases hlt : j < xs.length
    · obtain ⟨x, hx⟩ := at_lt xs hlt
      obtain ⟨ad, u0, u1, rfl, hx2, hcell0, hcell1⟩ := hr.two rfl hx
      clear hx
      obtain ⟨rfl, rfl, hx3, hx4⟩ := flaw_of hx2
      clear hx2
      have hW2 : Below w.heap.size w (wr.alloc (.cells #[.int .i64 x.1, .string x.2] 122)) := hW.alloc hsz _
      by_cases e1 : x.1 = k
      · obtain ⟨q1, q2⟩ := icmp_eq e1
        by_cases e2 : x.2 = s
        · have q3 := str_eq e2
          have := Lib.hid e1; clear e1
          have := Lib.hid e2; clear e2
          go_wp2
          go_ret
          exact ⟨_, xs, rfl, by omega, (HO2.out.alloc _), World.grownBy.trans ⟨hW.os, hW.tape, hW.output, hW.size, fun b hb _ => hW.block b hb⟩ (World.grownBy_alloc _ _ _), .inl rfl⟩
        · have q3 := str_ne e2
          have := Lib.hid e1; clear e1
          have := Lib.hid e2; clear e2
          go_wp2
          go_roundw
          case rel => exact ⟨⟨j + 1, by omega, by go_num⟩, hW2⟩
          case measure => simp [intOf]; omega
      · obtain ⟨q1, q2⟩ := icmp_ne e1
        have := Lib.hid e1; clear e1
        go_wp2
        go_roundw
        case rel => exact ⟨⟨j + 1, by omega, by go_num⟩, hW2⟩
        case measure => simp [intOf]; omega
    · have hW3 : w.grownBy wr (Value.slice A xs.length c).ownBlock := ⟨hW.os, hW.tape, hW.output, hW.size, fun b hb _ => hW.block b hb⟩
      have g1 : ∀ b, wr.heap.size ≤ b → D b := fun b hb => hD b (by omega)
      have g2 : Below B w wr := hW.mono hB
      have g3 : B ≤ wr.heap.size := by omega
      have g4 : (xs.length + 1) * 24 ≤ 140737488355328 := by omega
      go_wp2_with (at_builtin; refine wpList_app (T := flawT) (v := .slice A xs.length c) (xs := xs) (W := wr) (w0 := w) (B := B) (D := D) rfl (.tmp 27) (.tmp 31) 99 122 24 rfl elemFlaw rfl (k, s) #[.int .i64 k, .string s] _ rfl rfl HO2.out g1 (flaw_far _ _ k s hk hs) g2 g3 g4 ?_; intro v1 w1 hown hbel hgr hat)
      go_ret
      refine ⟨_, _, rfl, by simp, hown, World.grownBy.trans hW3 hgr, ?_⟩
      rcases hat with e | ⟨q, e, hq⟩
      · exact .inl e
      · exact .inr ⟨q, e, by omega⟩
end Go.Proofs.Ytgjobbapnileiaa
