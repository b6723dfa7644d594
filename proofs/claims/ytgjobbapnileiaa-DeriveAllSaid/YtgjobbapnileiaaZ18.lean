/- The reference's less and with: the walks. -/
import Derived.Test.YtgjobbapnileiaaZ09
import Derived.Test.YtgjobbapnileiaaZ12
import Derived.Test.YtgjobbapnileiaaZ17
set_option linter.unusedVariables false
set_option linter.unusedSimpArgs false
namespace Go.Proofs.Ytgjobbapnileiaa
open Go.RowKit Gk

set_option maxRecDepth 100000 in
set_option maxHeartbeats 1000000 in
theorem less_calls (v u : Value) (xs ys : List Int) (w : World) (h : Sl Ty.int w v xs) (h' : Sl Ty.int w u ys) :
    Calls Try.prog 39 #[v, u] w fun e w' => e = .returned (.bool (lessP xs ys)) ∧ Drawn w w' := by
  obtain ⟨A, c, rfl, hc, hcm, hlb, hr⟩ := h
  obtain ⟨B, d, rfl, hd, hdm, hlb', hs⟩ := h'
  unfold LB at hlb hlb'
  by_cases hl : xs.length = ys.length
  · obtain ⟨q1, q2, q3, q4⟩ := cmp_eq hl
    have HL := Lib.hid hl; clear hl
    go_enter Try.func39, Try.ntmps39
    go_wp2
    go_loopw [18] (fun i w' => (∃ k : Nat, k ≤ xs.length ∧ i = .int .i64 k ∧ Hid (xs.take k = ys.take k)) ∧ Drawn w w') (fun i _ => xs.length - (intOf i).toNat)
    case atStart => exact ⟨⟨0, Nat.zero_le _, rfl, by simp [Hid]⟩, Drawn.refl _⟩
    case round =>
      obtain ⟨⟨k, hk, rfl, hH⟩, hD⟩ := hrel
      replace hr := hr.below hD.below
      replace hs := hs.below hD.below
      have hL := HL.out
      by_cases hlt : k < xs.length
      · have hlt2 : k < ys.length := by omega
        obtain ⟨x, hx⟩ := at_lt xs hlt
        obtain ⟨y, hy⟩ := at_lt ys hlt2
        obtain ⟨ad, rfl, hxs, hcell⟩ := hr.int hx
        obtain ⟨bd, rfl, hys, hcell2⟩ := hs.int hy
        have HX := Lib.hid hx; clear hx
        have HY := Lib.hid hy; clear hy
        clear hL
        by_cases he : x = y
        · obtain ⟨hb, hb2⟩ := icmp_eq he
          have HE := Lib.hid he; clear he
          go_wp2
          go_quiet (fail)
          go_wp2
          go_roundw
          case rel => exact ⟨⟨k + 1, by omega, by go_num, by
            have e := HE.out; subst e
            exact take_same HX.out HY.out hH⟩, hD.more _⟩
          case measure => simp [intOf]; omega
        · obtain ⟨hb, hb2⟩ := icmp_ne he
          have HE := Lib.hid he; clear he
          have HR := Lib.hid (lessP_at HL.out hH.out HX.out HY.out HE.out)
          have hH2 := Lib.hid hH; clear hH
          go_wp2
          go_quiet (fail)
          go_wp2
          go_quiet (fail)
          go_wp2
          go_ret
          exact ⟨ret_bool HR.out, (hD.more _).more _⟩
      · have hH2 := Lib.hid hH; clear hH hL
        go_wp2
        go_ret
        have e := eq_all HL.out hlt hH2.out
        exact ⟨ret_bool (by rw [e]; exact lessP_irr _), hD⟩
  · obtain ⟨q1, q2, q3, q4⟩ := cmp_ne hl
    have HL := Lib.hid hl; clear hl
    have HR := Lib.hid (lessP_ne HL.out)
    go_enter Try.func39, Try.ntmps39
    go_wp2
    go_ret
    exact ⟨ret_bool (by rw [HR.out]), Drawn.refl _⟩
/-- a list of numbers that was made, as a kind -/
def ilT : Ty (List Int) where
  sz := 1
  pos := Nat.one_pos
  R := fun w x cs => ∃ v, cs = [v] ∧ IL w v x
  len := fun ⟨_, h, _⟩ => by rw [h]; rfl
  one := fun ⟨v, h, hs⟩ u hu => by
    rw [h] at hu; rw [List.mem_singleton.1 hu]
    obtain ⟨A, c, rfl, _⟩ := hs.sl
    rfl
  far := fun {w w'} {x cs} ⟨v, h, hs⟩ hb => ⟨v, h, hs.keep fun g hg => hb g (hs.lt g hg).2⟩
theorem elemIl : ElemOk Try.prog ilT 28 34 24 := ElemOk.of Try.underlying28 infoInts rfl (by omega)
theorem Bag.at_block {B : Nat} {w : World} {v : Value} {xs : List (List Int)} (h : Bag B w v xs) : ∀ g, v.ownBlock = some g → ∃ cur, w.heap[g]? = some (Obj.cells cur 34 (0, 0)) := by
  intro g hg
  obtain ⟨us, ⟨g1, g2⟩, h2, h3⟩ := h
  rcases g2 with ⟨rfl, h0⟩ | ⟨g', cap, cur', rfl, r1, r2, r3, r4, r5, r6⟩
  · simp [Value.ownBlock] at hg
  · simp [Value.ownBlock] at hg
    subst hg
    exact ⟨_, r2⟩
theorem ilFarOf {w : World} {u v : Value} {y : List Int} (h : IL w u y) (hv : ∀ g, v.ownBlock = some g → ∃ cur, w.heap[g]? = some (Obj.cells cur 34 (0, 0))) : Far (fun b => True ∧ some b ≠ v.ownBlock) (fun w => ilT.R w y [u]) w := by
  intro w2 s2 h2
  refine ⟨u, rfl, h.keep fun g hg => h2 g (h.lt g hg).2 ⟨trivial, fun e => ?_⟩⟩
  obtain ⟨cur, hc⟩ := hv g e.symm
  exact h.ne hc (by decide) hg
theorem Bag.own {B : Nat} {w : World} {v : Value} {xs : List (List Int)} (h : Bag B w v xs) : Own ilT 34 B (fun _ => True) w v xs := by
  have hb := h.at_block
  obtain ⟨us, g, h2, h3⟩ := h
  have hfl : ∀ l : List Value, (l.map fun u => [u]).flatten = l := by
    intro l
    induction l with
    | nil => rfl
    | cons a l ih => simp [ih]
  have hul : us.length = xs.length := by have := g.1; rw [this]; exact Nat.mul_one _
  refine ⟨us.map fun u => [u], by rw [hfl]; exact g, by simp [hul], h2, fun _ _ => trivial, fun i x hx => ?_⟩
  obtain ⟨u, hu, hi⟩ := h3 i x hx
  exact ⟨[u], by rw [List.getElem?_map, hu]; rfl, ilFarOf hi hb⟩
theorem Bag.ofOwn {B : Nat} {D : Nat → Prop} {w : World} {v : Value} {xs : List (List Int)} (h : Own ilT 34 B D w v xs) : Bag B w v xs := by
  obtain ⟨css, g, h2, h3, h5, h4⟩ := h
  have hl := Own.lens h2 h4
  refine ⟨css.flatten, g, h3, fun i x hx => ?_⟩
  obtain ⟨cs, hc, hf⟩ := h4 i x hx
  obtain ⟨u, rfl, hu⟩ := hf.now
  refine ⟨u, ?_, hu⟩
  have := flat_at _ css i [u] hl hc 0 u rfl
  simpa [show ilT.sz = 1 from rfl] using this
theorem Bag.slI {B : Nat} {w : World} {v : Value} {xs : List (List Int)} (h : Bag B w v xs) : Sl ilT w v xs := h.own.sl
theorem Bag.nilOr {B : Nat} {w : World} {v : Value} {xs : List (List Int)} (h : Bag B w v xs) : NilOr v := by
  obtain ⟨us, g, h2, h3⟩ := h
  rcases g.2 with ⟨h1, _⟩ | ⟨b, c, row, h1, _⟩
  · exact .inl h1
  · exact .inr ⟨_, _, _, h1⟩
/-- the first n -/
theorem ilTake {w : World} {v : Value} {s : List (List Int)} (h : Sl ilT w v s) (hv : NilOr v) {n : Nat} (hn : n ≤ s.length) : ∃ v', (∀ w2, (Instr.sliceAt 28 v none (some (.int .i64 n)) none).run Try.prog w2 = .ok v' w2) ∧ Sl ilT w v' (s.take n) ∧ NilOr v' := by
  obtain ⟨A, c, rfl, h1, h2, h3, h4⟩ := h
  have hl : (s.take n).length = n := by simp; omega
  unfold LB at h3
  simp only [maxLen] at h2
  have hnc : ¬ c < n := by omega
  have hnc2 : n ≤ c := by omega
  cases A with
  | none =>
    have hs0 : s.length = 0 ∧ c = 0 := by
      rcases hv with e | ⟨_, _, _, e⟩
      · injection e with e1 e2 e3; exact ⟨e2, e3⟩
      · cases e
    have hn0 : n = 0 := by omega
    obtain ⟨_, rfl⟩ := hs0
    subst hn0
    exact ⟨.slice none 0 0, fun w2 => by go_simp, by rw [List.take_zero]; exact Sl.nil _ _, .inl rfl⟩
  | some ad =>
    exact ⟨.slice (some ad) n c, fun w2 => by go_simp, ⟨some ad, c, by rw [hl], by omega, by simp only [maxLen]; omega, by rw [hl]; unfold LB; omega, h4.take n⟩, .inr ⟨_, _, _, rfl⟩⟩
/-- behind the first n -/
theorem ilDrop {w : World} {v : Value} {s : List (List Int)} (h : Sl ilT w v s) (hv : NilOr v) {n : Nat} (hn : n ≤ s.length) : ∃ v', (∀ w2, (Instr.sliceAt 28 v (some (.int .i64 n)) none none).run Try.prog w2 = .ok v' w2) ∧ Sl ilT w v' (s.drop n) ∧ NilOr v' := by
  obtain ⟨A, c, rfl, h1, h2, h3, h4⟩ := h
  have hl : (s.drop n).length = s.length - n := by simp
  unfold LB at h3
  simp only [maxLen] at h2
  cases A with
  | none =>
    have hs0 : s.length = 0 ∧ c = 0 := by
      rcases hv with e | ⟨_, _, _, e⟩
      · injection e with e1 e2 e3; exact ⟨e2, e3⟩
      · cases e
    have hn0 : n = 0 := by omega
    obtain ⟨hsl, rfl⟩ := hs0
    subst hn0
    have hse := List.eq_nil_of_length_eq_zero hsl
    subst hse
    exact ⟨.slice none 0 0, fun w2 => by go_simp, Sl.nil _ _, .inl rfl⟩
  | some ad =>
    by_cases hc : c = n
    · refine ⟨.slice (some ad) (s.length - n) (c - n), fun w2 => by go_simp, ⟨some ad, c - n, by rw [hl], by omega, by simp only [maxLen]; omega, by rw [hl]; unfold LB; omega, ?_⟩, .inr ⟨_, _, _, rfl⟩⟩
      have : s.drop n = [] := List.drop_eq_nil_of_le (by omega)
      rw [this]; exact Row.nil _ _ _
    · refine ⟨.slice (some (ad.add n)) (s.length - n) (c - n), fun w2 => by go_simp, ⟨some (ad.add n), c - n, by rw [hl], by omega, by simp only [maxLen]; omega, by rw [hl]; unfold LB; omega, ?_⟩, .inr ⟨_, _, _, rfl⟩⟩
      have := h4.drop n
      rwa [show n * ilT.sz = n from Nat.mul_one n] at this
/-- append(b, u...) of lists that were made -/
theorem run_appBag {B : Nat} {W : World} {v u : Value} {xs ys : List (List Int)} (ty : TypeId) (HB : Bag B W v xs) (HY : Sl ilT W u ys) (hu : NilOr u) (hbase : B ≤ W.heap.size) (hl : xs.length + ys.length ≤ 1000000) :
    ∃ v1 w1, (Builtin.append_ #[28, 28] ty #[v, u]).run Try.prog W = .ok v1 w1 ∧ Bag B w1 v1 (xs ++ ys) ∧ W.grownBy w1 v.ownBlock ∧ (v1.ownBlock = v.ownBlock ∨ ∃ b, v1.ownBlock = some b ∧ W.heap.size ≤ b) := by
  obtain ⟨v1, w1, h1, h2, h3, h4⟩ := run_appAll (P := Try.prog) 28 34 24 ty elemIl rfl u ys HB.own (fun _ _ => trivial) HY (fun y u' _ hR => by
    obtain ⟨v', e, hI⟩ := hR
    injection e with e; subst e
    exact ilFarOf hI HB.at_block) hu hbase (by omega)
  exact ⟨v1, w1, h1, .ofOwn h2, h3, h4⟩
/-- the region that puts one in: values -/
def WiW (w0 : World) (v u : Value) (l : Sents) (at_ : Nat) (i : Nat) (x : Value) : Prop := match i with
  | 0 => x = v
  | 1 => x = .int .i64 at_
  | 2 => Sl ilT w0 x (l.take at_) ∧ NilOr x
  | 4 => x = u
  | 7 => x = v
  | 8 => x = .int .i64 at_
  | 9 => Sl ilT w0 x (l.drop at_) ∧ NilOr x
  | _ => True
structure WiI (w0 : World) (v u : Value) (l : Sents) (x : List Int) (at_ : Nat) (L : Nat → Bool) (val : Nat → Value) (w : World) : Prop where
  below : Below w0.heap.size w0 w
  v : ∀ i, L i = true → WiW w0 v u l at_ i (val i)
  s5 : L 5 = true → L 6 = false → ∃ N, val 5 = .slice (some ⟨N, 0, none⟩) 1 1 ∧ Box w N #[u] 34 ∧ (L 3 = true → (val 3).ownBlock ≠ some N)
  o3 : L 3 = true → L 6 = false → Bag w0.heap.size w (val 3) (l.take at_)
  o6 : L 6 = true → L 10 = false → Bag w0.heap.size w (val 6) (l.take at_ ++ [x])
  o10 : L 10 = true → Bag w0.heap.size w (val 10) (l.take at_ ++ x :: l.drop at_)
  c3 : L 6 = true → L 3 = true
  c5 : L 6 = true → L 5 = true
  c6 : L 10 = true → L 6 = true
  m : L 11 = true → val 11 = val 10 ∧ L 10 = true
theorem WiI.next {w0 : World} {v u : Value} {l : Sents} {x : List Int} {at_ : Nat} {L : Nat → Bool} {val : Nat → Value} {w w' : World} (h : WiI w0 v u l x at_ L val w) (hb : Below w.heap.size w w') {i : Nat} (hi : i ≠ 3 ∧ i ≠ 5 ∧ i ≠ 6 ∧ i ≠ 10 ∧ i ≠ 11) {y : Value}
    (hy : WiW w0 v u l at_ i y) : WiI w0 v u l x at_ (up L i) (upd val i y) w' := by
  have hu : ∀ j, j ≠ i → up L i j = L j := fun j hj => by simp [up, hj]
  have hv : ∀ j, j ≠ i → upd val i y j = val j := fun j hj => by simp [upd, hj]
  obtain ⟨h3, h5, h6, h10, h11⟩ := hi
  refine ⟨below2 h.below hb, fun j hj => ?_, ?_, ?_, ?_, ?_, ?_, ?_, ?_, ?_⟩
  · by_cases e : j = i
    · subst e; rw [show upd val j y j = y by simp [upd]]; exact hy
    · rw [hu j e] at hj; rw [hv j e]; exact h.v j hj
  · rw [hu 5 h5.symm, hu 6 h6.symm, hu 3 h3.symm, hv 5 h5.symm, hv 3 h3.symm]
    exact fun a b => by obtain ⟨N, e1, e2, e3⟩ := h.s5 a b; exact ⟨N, e1, e2.below hb, e3⟩
  · rw [hu 3 h3.symm, hu 6 h6.symm, hv 3 h3.symm]; exact fun a b => (h.o3 a b).below hb
  · rw [hu 6 h6.symm, hu 10 h10.symm, hv 6 h6.symm]; exact fun a b => (h.o6 a b).below hb
  · rw [hu 10 h10.symm, hv 10 h10.symm]; exact fun a => (h.o10 a).below hb
  · rw [hu 6 h6.symm, hu 3 h3.symm]; exact h.c3
  · rw [hu 6 h6.symm, hu 5 h5.symm]; exact h.c5
  · rw [hu 10 h10.symm, hu 6 h6.symm]; exact h.c6
  · rw [hu 11 h11.symm, hu 10 h10.symm, hv 11 h11.symm, hv 10 h10.symm]; exact h.m
theorem WiI.off {w0 : World} {v u : Value} {l : Sents} {x : List Int} {at_ : Nat} {L : Nat → Bool} {val : Nat → Value} {w : World} (h : WiI w0 v u l x at_ L val w) : (L 3 = false → L 6 = false) ∧ (L 5 = false → L 6 = false) ∧ (L 6 = false → L 10 = false) ∧ (L 10 = false → L 11 = false) := by
  refine ⟨fun e => ?_, fun e => ?_, fun e => ?_, fun e => ?_⟩
  · cases e2 : L 6 with
    | false => rfl
    | true => rw [h.c3 e2] at e; cases e
  · cases e2 : L 6 with
    | false => rfl
    | true => rw [h.c5 e2] at e; cases e
  · cases e2 : L 10 with
    | false => rfl
    | true => rw [h.c6 e2] at e; cases e
  · cases e2 : L 11 with
    | false => rfl
    | true => rw [(h.m e2).2] at e; cases e
theorem WiI.vv {w0 : World} {v u : Value} {l : Sents} {x : List Int} {at_ : Nat} {L : Nat → Bool} {val : Nat → Value} {w : World} (h : WiI w0 v u l x at_ L val w) {i : Nat} (hi : i = 3 ∨ i = 5 ∨ i = 6 ∨ i = 10 ∨ i = 11) (y : Value) : ∀ j, up L i j = true → WiW w0 v u l at_ j (upd val i y j) := by
  intro j hj
  by_cases e : j = i
  · subst e; rcases hi with rfl | rfl | rfl | rfl | rfl <;> exact trivial
  · rw [show upd val i y j = val j by simp [upd, e]]; exact h.v j (by simpa [up, e] using hj)
theorem WiI.step5 {w0 : World} {v u : Value} {l : Sents} {x : List Int} {at_ : Nat} {L : Nat → Bool} {val : Nat → Value} {w : World} (h : WiI w0 v u l x at_ L val w) (hL : L 5 = false) : WiI w0 v u l x at_ (up L 5) (upd val 5 (.slice (some ⟨w.heap.size, 0, none⟩) 1 1)) (w.alloc (.cells #[u] 34)) := by
  obtain ⟨f1, f2, f3, f4⟩ := h.off
  have hL6 := f2 hL
  have hL10 := f3 hL6
  have hL11 := f4 hL10
  have hb : Below w.heap.size w (w.alloc (.cells #[u] 34)) := (Below.refl _ _).alloc (Nat.le_refl _) _
  refine ⟨below2 h.below hb, h.vv (by decide) _, fun _ _ => ⟨_, by simp [upd], Box.new _ _ _, fun h3 e => ?_⟩, fun h3 h6 => ?_, ?_, ?_, ?_, ?_, ?_, ?_⟩
  · have := ((h.o3 h3 hL6).lt w.heap.size e).2; omega
  · exact (h.o3 h3 h6).below hb
  · intro h6; rw [show up L 5 6 = L 6 from rfl, hL6] at h6; cases h6
  · intro h10; rw [show up L 5 10 = L 10 from rfl, hL10] at h10; cases h10
  · intro h6; rw [show up L 5 6 = L 6 from rfl, hL6] at h6; cases h6
  · intro h6; rfl
  · intro h10; rw [show up L 5 10 = L 10 from rfl, hL10] at h10; cases h10
  · intro h11; rw [show up L 5 11 = L 11 from rfl, hL11] at h11; cases h11
theorem WiI.step3 {w0 : World} {v u : Value} {l : Sents} {x : List Int} {at_ : Nat} {L : Nat → Bool} {val : Nat → Value} {w w' : World} (h : WiI w0 v u l x at_ L val w) (hL : L 3 = false) {y : Value} (hB : Bag w0.heap.size w' y (l.take at_)) (hb : Below w.heap.size w w') (hy : ∀ g, y.ownBlock = some g → w.heap.size ≤ g) : WiI w0 v u l x at_ (up L 3) (upd val 3 y) w' := by
  obtain ⟨f1, f2, f3, f4⟩ := h.off
  have hL6 := f1 hL
  have hL10 := f3 hL6
  have hL11 := f4 hL10
  refine ⟨below2 h.below hb, h.vv (by decide) _, fun h5 _ => ?_, fun h3 h6 => ?_, ?_, ?_, ?_, ?_, ?_, ?_⟩
  · obtain ⟨N, e1, e2, e3⟩ := h.s5 h5 hL6
    refine ⟨N, e1, e2.below hb, fun _ e => ?_⟩
    have := hy N e
    have := e2.lt; omega
  · exact hB
  · intro h6; rw [show up L 3 6 = L 6 from rfl, hL6] at h6; cases h6
  · intro h10; rw [show up L 3 10 = L 10 from rfl, hL10] at h10; cases h10
  · intro h6; rfl
  · intro h6; rw [show up L 3 6 = L 6 from rfl, hL6] at h6; cases h6
  · intro h10; rw [show up L 3 10 = L 10 from rfl, hL10] at h10; cases h10
  · intro h11; rw [show up L 3 11 = L 11 from rfl, hL11] at h11; cases h11
theorem WiI.step6 {w0 : World} {v u : Value} {l : Sents} {x : List Int} {at_ : Nat} {L : Nat → Bool} {val : Nat → Value} {w w' : World} (h : WiI w0 v u l x at_ L val w) (hL : L 6 = false) (h3 : L 3 = true) (h5 : L 5 = true) {y : Value} (hB : Bag w0.heap.size w' y (l.take at_ ++ [x])) (hb : Below w0.heap.size w0 w') : WiI w0 v u l x at_ (up L 6) (upd val 6 y) w' := by
  obtain ⟨f1, f2, f3, f4⟩ := h.off
  have hL10 := f3 hL
  have hL11 := f4 hL10
  refine ⟨hb, h.vv (by decide) _, fun _ h6 => ?_, fun _ h6 => ?_, fun _ _ => hB, ?_, fun _ => h3, fun _ => h5, ?_, ?_⟩
  · cases h6
  · cases h6
  · intro h10; rw [show up L 6 10 = L 10 from rfl, hL10] at h10; cases h10
  · intro h10; rfl
  · intro h11; rw [show up L 6 11 = L 11 from rfl, hL11] at h11; cases h11
theorem WiI.step10 {w0 : World} {v u : Value} {l : Sents} {x : List Int} {at_ : Nat} {L : Nat → Bool} {val : Nat → Value} {w w' : World} (h : WiI w0 v u l x at_ L val w) (hL : L 10 = false) (h6 : L 6 = true) {y : Value} (hB : Bag w0.heap.size w' y (l.take at_ ++ x :: l.drop at_)) (hb : Below w0.heap.size w0 w') : WiI w0 v u l x at_ (up L 10) (upd val 10 y) w' := by
  obtain ⟨f1, f2, f3, f4⟩ := h.off
  have hL11 := f4 hL
  refine ⟨hb, h.vv (by decide) _, fun _ h6' => ?_, fun _ h6' => ?_, fun _ h10 => ?_, fun _ => hB, h.c3, h.c5, fun _ => h6, ?_⟩
  · rw [show up L 10 6 = L 6 from rfl, h6] at h6'; cases h6'
  · rw [show up L 10 6 = L 6 from rfl, h6] at h6'; cases h6'
  · cases h10
  · intro h11; rw [show up L 10 11 = L 11 from rfl, hL11] at h11; cases h11
theorem WiI.step11 {w0 : World} {v u : Value} {l : Sents} {x : List Int} {at_ : Nat} {L : Nat → Bool} {val : Nat → Value} {w : World} (h : WiI w0 v u l x at_ L val w) (h10 : L 10 = true) : WiI w0 v u l x at_ (up L 11) (upd val 11 (val 10)) w :=
  ⟨h.below, h.vv (by decide) _, h.s5, h.o3, h.o6, h.o10, h.c3, h.c5, h.c6, fun _ => ⟨by simp [upd], h10⟩⟩
set_option maxRecDepth 100000 in
set_option maxHeartbeats 4000000 in
theorem with_calls (B : Nat) (v u : Value) (l : Sents) (x : List Int) (w : World) (h : Bag B w v l) (hx : IL w u x) (hs : Srt l) (hl : l.length ≤ 100000) (hB : B ≤ w.heap.size) :
    Calls Try.prog 23 #[v, u] w fun e w' => ∃ v', e = .returned v' ∧ Bag B w' v' (insS l x) ∧ Below w.heap.size w w' := by
  have HH := Lib.hid (And.intro h (And.intro hx hs))
  obtain ⟨A, c, rfl, hc, hcm, hlb, hrow⟩ := h.sl
  unfold LB at hlb
  obtain ⟨AX, cX, rfl, hx1, hx2, hx3, _⟩ := hx.sl
  unfold LB at hx3
  clear h hx hs
  go_enter Try.func23, Try.ntmps23
  go_wp2
  go_loopw [5] (fun i wr => (∃ n : Nat, n ≤ l.length ∧ i = .int .i64 n ∧ Hid (∀ j y, j < n → l[j]? = some y → lessP y x = true)) ∧ Below w.heap.size w wr) (fun i _ => l.length - (intOf i).toNat)
  case atStart => exact ⟨⟨0, Nat.zero_le _, rfl, fun j y hj _ => absurd hj (Nat.not_lt_zero _)⟩, Below.refl _ _⟩
  case round =>
    obtain ⟨⟨n, hn, rfl, hA⟩, hBe⟩ := hrel
    have H1 := Lib.hid (And.intro hA hBe)
    have hBr := HH.out.1.below hBe
    have hXr := HH.out.2.1.ki (KI.below hBe)
    have hsz := hBe.size
    clear hA
    by_cases hlt : n < l.length
    · obtain ⟨y, hy⟩ := at_lt l hlt
      obtain ⟨ad, U, cu, rfl, hcy, hIy, hy1, hy2, hy3⟩ := hBr.at_ hy
      have hless := less_calls (.slice U y.length cu) (.slice AX x.length cX) y x wr hIy.sl hXr.sl
      have hIYs := Lib.hid (And.intro hIy (And.intro hBr hXr))
      have HY := Lib.hid hy
      clear hy hIy hBr hXr hBe hrow
      obtain ⟨b, hb⟩ : ∃ b, b = lessP y x := ⟨_, rfl⟩
      rw [← hb] at hless
      have HLS := Lib.hid hless
      have HB := Lib.hid hb
      clear hless hb
      cases b with
      | true =>
        go_wp2_with (go_at_call 39; refine HLS.out.mono ?_; rintro e w1 ⟨rfl, hD⟩)
        refine ⟨⟨⟨n + 1, by omega, by simp, fun j z hj hz => ?_⟩, below2 H1.out.2 hD.below⟩, by simp [intOf]; omega⟩
        by_cases e : j = n
        · subst e; rw [HY.out] at hz; injection hz with hz; subst hz; exact HB.out.symm
        · exact H1.out.1 j z (by omega) hz
      | false =>
        have hpos : Hid (posP l x = n) := pos_of (by omega) H1.out.1 (fun z hz => by rw [HY.out] at hz; injection hz with hz; subst hz; exact HB.out.symm)
        have hsame := fun w2 hb2 => sameInts_calls (.slice U y.length cu) (.slice AX x.length cX) y x w2 (hIYs.out.1.sl.below hb2) (hIYs.out.2.2.sl.below hb2)
        obtain ⟨d, hd⟩ : ∃ d, d = decide (y = x) := ⟨_, rfl⟩
        rw [← hd] at hsame
        have HSM := Lib.hid hsame
        have HD := Lib.hid hd
        clear hsame hd
        cases d with
        | true =>
          have he : Hid (x ∈ l) := by
            have : y = x := of_decide_eq_true HD.out.symm
            subst this; exact List.mem_of_getElem? HY.out
          go_wp2_with (first | (go_at_call 39; refine HLS.out.mono ?_; rintro e w1 ⟨rfl, hD⟩; have hcy1 := cell_far hcy hD.below.block) | (go_at_call 13; refine (HSM.out w1 hD.below).mono ?_; rintro e w2 ⟨rfl, hD2⟩))
          go_ret
          exact ⟨_, rfl, by rw [insS_old he.out]; exact (HH.out.1.below (below2 (below2 H1.out.2 hD.below) hD2.below)), below2 (below2 H1.out.2 hD.below) hD2.below⟩
        | false =>
          have he : Hid (x ∉ l) := fun hm => by
            rw [mem_at HH.out.2.2, hpos.out, HY.out] at hm
            injection hm with hm
            have := HD.out; rw [hm] at this; simp at this
          go_wp2_with (first | (go_at_call 39; refine HLS.out.mono ?_; rintro e w1 ⟨rfl, hD⟩; have hcy1 := cell_far hcy hD.below.block) | (go_at_call 13; refine (HSM.out w1 hD.below).mono ?_; rintro e w2 ⟨rfl, hD2⟩))
          have HBX := Lib.hid (below2 (below2 H1.out.2 hD.below) hD2.below)
          clear hD hD2 hcy hcy1
          obtain ⟨wx, rfl⟩ : ∃ wx : World, wx = w2 := ⟨_, rfl⟩
          have hBx := Lib.hid (HH.out.1.below HBX.out)
          have hXx := Lib.hid (HH.out.2.1.ki (KI.below HBX.out))
          have hnl : n ≤ l.length := hn
          have hbx := HBX.out.size
          refine wp_region_inv (by kernel_rfl) (by kernel_rfl) (WiI wx (.slice (some ad) l.length c) (.slice AX x.length cX) l x n) (fun _ => undef) ?_ ?_ ?_
          · exact ⟨below_drewN (Below.refl _ _) 1, fun i h => by simp at h, fun h => by simp at h, fun h => by simp at h, fun h => by simp at h, fun h => by simp at h, fun h => by simp at h, fun h => by simp at h, fun h => by simp at h, fun h => by simp at h⟩
          · intro i hi
            have hi12 : i < 12 := hi
            have : i = 0 ∨ i = 1 ∨ i = 2 ∨ i = 3 ∨ i = 4 ∨ i = 5 ∨ i = 6 ∨ i = 7 ∨ i = 8 ∨ i = 9 ∨ i = 10 ∨ i = 11 := by omega
            rcases this with rfl | rfl | rfl | rfl | rfl | rfl | rfl | rfl | rfl | rfl | rfl | rfl
            · refine StepOb.of rfl rfl fun L val w3 hI hL hd => ?_
              exact does_value (exec_move (.inl rfl) rfl) (hI.next (Below.refl _ _) (by decide) rfl)
            · refine StepOb.of rfl rfl fun L val w3 hI hL hd => ?_
              exact does_value (exec_move (.inl rfl) rfl) (hI.next (Below.refl _ _) (by decide) rfl)
            · refine StepOb.of rfl rfl fun L val w3 hI hL hd => ?_
              have e0 : val 0 = .slice (some ad) l.length c := hI.v 0 (hd ⟨0, .data⟩ (by simp) rfl)
              have e1 : val 1 = .int .i64 n := hI.v 1 (hd ⟨1, .data⟩ (by simp) rfl)
              obtain ⟨v', hr, hs3, hs4⟩ := ilTake hBx.out.slI hBx.out.nilOr hnl
              exact does_value (exec_slice rfl e0 (l := none) rfl (h := some (.int .i64 n)) (congrArg some e1) (hr _)) (hI.next (Below.refl _ _) (by decide) ⟨hs3, hs4⟩)
            · refine StepOb.of rfl rfl fun L val w3 hI hL hd => ?_
              have e2 := hI.v 2 (hd ⟨2, .data⟩ (by simp) rfl)
              obtain ⟨g1, g2⟩ : Sl ilT wx (val 2) (l.take n) ∧ NilOr (val 2) := e2
              obtain ⟨v1, wa, hrun, hown, hgr, hat⟩ := run_appBag (W := w3) (v := .slice none 0 0) (xs := []) (B := wx.heap.size) 28 (Bag.nil _ _) (g1.below hI.below) g2 hI.below.size (by simp; omega)
              have hBa : Below w3.heap.size w3 wa := ⟨hgr.os, hgr.tape, hgr.output, hgr.size, fun b hb => hgr.block b hb (by simp [Value.ownBlock])⟩
              exact does_value (exec_append rfl rfl rfl hrun) (hI.step3 hL hown hBa (fun g hg => by
                rcases hat with e | ⟨b, e, hb⟩
                · rw [e] at hg; simp [Value.ownBlock] at hg
                · rw [e] at hg; injection hg with hg; omega))
            · refine StepOb.of rfl rfl fun L val w3 hI hL hd => ?_
              exact does_value (exec_move (.inl rfl) rfl) (hI.next (Below.refl _ _) (by decide) rfl)
            · refine StepOb.of rfl rfl fun L val w3 hI hL hd => ?_
              have e4 : val 4 = .slice AX x.length cX := hI.v 4 (hd ⟨4, .data⟩ (by simp) rfl)
              exact does_value (v := .slice (some ⟨w3.heap.size, 0, none⟩) 1 1) (w := w3.alloc (.cells #[.slice AX x.length cX] 34)) (exec_buildSlice (A := #[(0, .slice AX x.length cX)]) rfl (by simp; exact e4) (by go_simp)) (hI.step5 hL)
            · refine StepOb.of rfl rfl fun L val w3 hI hL hd => ?_
              have h3 := hd ⟨3, .data⟩ (by simp) rfl
              have h5 := hd ⟨5, .data⟩ (by simp) rfl
              obtain ⟨N, e5, hN, hne⟩ := hI.s5 h5 hL
              have hO3 := hI.o3 h3 hL
              have hXw : IL w3 (.slice AX x.length cX) x := hXx.out.ki (KI.below hI.below)
              have hsl : Sl ilT w3 (val 5) [x] := by
                rw [e5]
                refine ⟨_, _, rfl, Nat.le_refl _, by simp [maxLen], by simp [LB], fun i y hy => ?_⟩
                match i, hy with
                | 0, hy =>
                  simp at hy; subst hy
                  refine ⟨_, [_], rfl, ⟨_, rfl, hXw⟩, fun j u' hj => ?_⟩
                  match j, hj with
                  | 0, hj =>
                    simp at hj; subst hj
                    exact hN.cell 0 rfl
              obtain ⟨v1, wa, hrun, hown, hgr, hat⟩ := run_appBag (W := w3) (v := val 3) (xs := l.take n) (B := wx.heap.size) 28 hO3 hsl (by rw [e5]; exact .inr ⟨_, _, _, rfl⟩) hI.below.size (by simp; omega)
              exact does_value (exec_append rfl rfl rfl hrun) (hI.step6 hL h3 h5 hown (hI.below.grown hgr hI.below.size (fun k hk => (hO3.lt k hk).1)))
            · refine StepOb.of rfl rfl fun L val w3 hI hL hd => ?_
              exact does_value (exec_move (.inl rfl) rfl) (hI.next (Below.refl _ _) (by decide) rfl)
            · refine StepOb.of rfl rfl fun L val w3 hI hL hd => ?_
              exact does_value (exec_move (.inl rfl) rfl) (hI.next (Below.refl _ _) (by decide) rfl)
            · refine StepOb.of rfl rfl fun L val w3 hI hL hd => ?_
              have e7 : val 7 = .slice (some ad) l.length c := hI.v 7 (hd ⟨7, .data⟩ (by simp) rfl)
              have e8 : val 8 = .int .i64 n := hI.v 8 (hd ⟨8, .data⟩ (by simp) rfl)
              obtain ⟨v', hr, hs3, hs4⟩ := ilDrop hBx.out.slI hBx.out.nilOr hnl
              exact does_value (exec_slice rfl e7 (l := some (.int .i64 n)) (congrArg some e8) (h := none) rfl (hr _)) (hI.next (Below.refl _ _) (by decide) ⟨hs3, hs4⟩)
            · refine StepOb.of rfl rfl fun L val w3 hI hL hd => ?_
              have h6 := hd ⟨6, .data⟩ (by simp) rfl
              obtain ⟨g1, g2⟩ : Sl ilT wx (val 9) (l.drop n) ∧ NilOr (val 9) := hI.v 9 (hd ⟨9, .data⟩ (by simp) rfl)
              have hO6 := hI.o6 h6 hL
              obtain ⟨v1, wa, hrun, hown, hgr, hat⟩ := run_appBag (W := w3) (v := val 6) (xs := l.take n ++ [x]) (B := wx.heap.size) 28 hO6 (g1.below hI.below) g2 hI.below.size (by simp; omega)
              rw [List.append_assoc] at hown
              exact does_value (exec_append rfl rfl rfl hrun) (hI.step10 hL h6 hown (hI.below.grown hgr hI.below.size (fun k hk => (hO6.lt k hk).1)))
            · refine StepOb.of rfl rfl fun L val w3 hI hL hd => ?_
              exact does_value (exec_move (.inr rfl) rfl) (hI.step11 (hd ⟨10, .data⟩ (by simp) rfl))
          · intro val w3 hI
            have e11 : val 11 = val 10 := (hI.m (by decide)).1
            have hO := hI.o10 (by decide)
            obtain ⟨AR, cR, eR, _, _, _, _⟩ := hO.sl
            rw [← e11] at eR hO
            have HI := Lib.hid (And.intro hI.below hO)
            clear hI hO e11
            simp [fillAll, List.range, List.range.loop, dstOf, Act.put]
            rw [eR]
            go_wp2
            go_ret
            have h2 := HI.out.2
            rw [eR] at h2
            refine ⟨_, rfl, ?_, below2 HBX.out HI.out.1⟩
            rw [insS_new he.out, hpos.out]
            exact h2.mono fun k hk => by have := (h2.lt k hk).1; omega
    · have hne : n = l.length := by omega
      have hpos : Hid (posP l x = n) := pos_of (by omega) H1.out.1 (fun z hz => by rw [hne, List.getElem?_eq_none (by omega)] at hz; cases hz)
      have he : Hid (x ∉ l) := fun hm => by
        rw [mem_at HH.out.2.2, hpos.out, hne, List.getElem?_eq_none (by omega)] at hm
        cases hm
      clear hBr hXr hBe hrow
      go_wp2
      have HBX := Lib.hid H1.out.2
      obtain ⟨wx, rfl⟩ : ∃ wx : World, wx = wr := ⟨_, rfl⟩
      have hBx := Lib.hid (HH.out.1.below HBX.out)
      have hXx := Lib.hid (HH.out.2.1.ki (KI.below HBX.out))
      have hnl : n ≤ l.length := hn
      have hbx := HBX.out.size
      refine wp_region_inv (by kernel_rfl) (by kernel_rfl) (WiI wx (.slice A l.length c) (.slice AX x.length cX) l x n) (fun _ => undef) ?_ ?_ ?_
      · exact ⟨below_drewN (Below.refl _ _) 1, fun i h => by simp at h, fun h => by simp at h, fun h => by simp at h, fun h => by simp at h, fun h => by simp at h, fun h => by simp at h, fun h => by simp at h, fun h => by simp at h, fun h => by simp at h⟩
      · intro i hi
        have hi12 : i < 12 := hi
        have : i = 0 ∨ i = 1 ∨ i = 2 ∨ i = 3 ∨ i = 4 ∨ i = 5 ∨ i = 6 ∨ i = 7 ∨ i = 8 ∨ i = 9 ∨ i = 10 ∨ i = 11 := by omega
        rcases this with rfl | rfl | rfl | rfl | rfl | rfl | rfl | rfl | rfl | rfl | rfl | rfl
        · refine StepOb.of rfl rfl fun L val w3 hI hL hd => ?_
          exact does_value (exec_move (.inl rfl) rfl) (hI.next (Below.refl _ _) (by decide) rfl)
        · refine StepOb.of rfl rfl fun L val w3 hI hL hd => ?_
          exact does_value (exec_move (.inl rfl) rfl) (hI.next (Below.refl _ _) (by decide) rfl)
        · refine StepOb.of rfl rfl fun L val w3 hI hL hd => ?_
          have e0 : val 0 = .slice A l.length c := hI.v 0 (hd ⟨0, .data⟩ (by simp) rfl)
          have e1 : val 1 = .int .i64 n := hI.v 1 (hd ⟨1, .data⟩ (by simp) rfl)
          obtain ⟨v', hr, hs3, hs4⟩ := ilTake hBx.out.slI hBx.out.nilOr hnl
          exact does_value (exec_slice rfl e0 (l := none) rfl (h := some (.int .i64 n)) (congrArg some e1) (hr _)) (hI.next (Below.refl _ _) (by decide) ⟨hs3, hs4⟩)
        · refine StepOb.of rfl rfl fun L val w3 hI hL hd => ?_
          have e2 := hI.v 2 (hd ⟨2, .data⟩ (by simp) rfl)
          obtain ⟨g1, g2⟩ : Sl ilT wx (val 2) (l.take n) ∧ NilOr (val 2) := e2
          obtain ⟨v1, wa, hrun, hown, hgr, hat⟩ := run_appBag (W := w3) (v := .slice none 0 0) (xs := []) (B := wx.heap.size) 28 (Bag.nil _ _) (g1.below hI.below) g2 hI.below.size (by simp; omega)
          have hBa : Below w3.heap.size w3 wa := ⟨hgr.os, hgr.tape, hgr.output, hgr.size, fun b hb => hgr.block b hb (by simp [Value.ownBlock])⟩
          exact does_value (exec_append rfl rfl rfl hrun) (hI.step3 hL hown hBa (fun g hg => by
            rcases hat with e | ⟨b, e, hb⟩
            · rw [e] at hg; simp [Value.ownBlock] at hg
            · rw [e] at hg; injection hg with hg; omega))
        · refine StepOb.of rfl rfl fun L val w3 hI hL hd => ?_
          exact does_value (exec_move (.inl rfl) rfl) (hI.next (Below.refl _ _) (by decide) rfl)
        · refine StepOb.of rfl rfl fun L val w3 hI hL hd => ?_
          have e4 : val 4 = .slice AX x.length cX := hI.v 4 (hd ⟨4, .data⟩ (by simp) rfl)
          exact does_value (v := .slice (some ⟨w3.heap.size, 0, none⟩) 1 1) (w := w3.alloc (.cells #[.slice AX x.length cX] 34)) (exec_buildSlice (A := #[(0, .slice AX x.length cX)]) rfl (by simp; exact e4) (by go_simp)) (hI.step5 hL)
        · refine StepOb.of rfl rfl fun L val w3 hI hL hd => ?_
          have h3 := hd ⟨3, .data⟩ (by simp) rfl
          have h5 := hd ⟨5, .data⟩ (by simp) rfl
          obtain ⟨N, e5, hN, hne⟩ := hI.s5 h5 hL
          have hO3 := hI.o3 h3 hL
          have hXw : IL w3 (.slice AX x.length cX) x := hXx.out.ki (KI.below hI.below)
          have hsl : Sl ilT w3 (val 5) [x] := by
            rw [e5]
            refine ⟨_, _, rfl, Nat.le_refl _, by simp [maxLen], by simp [LB], fun i y hy => ?_⟩
            match i, hy with
            | 0, hy =>
              simp at hy; subst hy
              refine ⟨_, [_], rfl, ⟨_, rfl, hXw⟩, fun j u' hj => ?_⟩
              match j, hj with
              | 0, hj =>
                simp at hj; subst hj
                exact hN.cell 0 rfl
          obtain ⟨v1, wa, hrun, hown, hgr, hat⟩ := run_appBag (W := w3) (v := val 3) (xs := l.take n) (B := wx.heap.size) 28 hO3 hsl (by rw [e5]; exact .inr ⟨_, _, _, rfl⟩) hI.below.size (by simp; omega)
          exact does_value (exec_append rfl rfl rfl hrun) (hI.step6 hL h3 h5 hown (hI.below.grown hgr hI.below.size (fun k hk => (hO3.lt k hk).1)))
        · refine StepOb.of rfl rfl fun L val w3 hI hL hd => ?_
          exact does_value (exec_move (.inl rfl) rfl) (hI.next (Below.refl _ _) (by decide) rfl)
        · refine StepOb.of rfl rfl fun L val w3 hI hL hd => ?_
          exact does_value (exec_move (.inl rfl) rfl) (hI.next (Below.refl _ _) (by decide) rfl)
        · refine StepOb.of rfl rfl fun L val w3 hI hL hd => ?_
          have e7 : val 7 = .slice A l.length c := hI.v 7 (hd ⟨7, .data⟩ (by simp) rfl)
          have e8 : val 8 = .int .i64 n := hI.v 8 (hd ⟨8, .data⟩ (by simp) rfl)
          obtain ⟨v', hr, hs3, hs4⟩ := ilDrop hBx.out.slI hBx.out.nilOr hnl
          exact does_value (exec_slice rfl e7 (l := some (.int .i64 n)) (congrArg some e8) (h := none) rfl (hr _)) (hI.next (Below.refl _ _) (by decide) ⟨hs3, hs4⟩)
        · refine StepOb.of rfl rfl fun L val w3 hI hL hd => ?_
          have h6 := hd ⟨6, .data⟩ (by simp) rfl
          obtain ⟨g1, g2⟩ : Sl ilT wx (val 9) (l.drop n) ∧ NilOr (val 9) := hI.v 9 (hd ⟨9, .data⟩ (by simp) rfl)
          have hO6 := hI.o6 h6 hL
          obtain ⟨v1, wa, hrun, hown, hgr, hat⟩ := run_appBag (W := w3) (v := val 6) (xs := l.take n ++ [x]) (B := wx.heap.size) 28 hO6 (g1.below hI.below) g2 hI.below.size (by simp; omega)
          rw [List.append_assoc] at hown
          exact does_value (exec_append rfl rfl rfl hrun) (hI.step10 hL h6 hown (hI.below.grown hgr hI.below.size (fun k hk => (hO6.lt k hk).1)))
        · refine StepOb.of rfl rfl fun L val w3 hI hL hd => ?_
          exact does_value (exec_move (.inr rfl) rfl) (hI.step11 (hd ⟨10, .data⟩ (by simp) rfl))
      · intro val w3 hI
        have e11 : val 11 = val 10 := (hI.m (by decide)).1
        have hO := hI.o10 (by decide)
        obtain ⟨AR, cR, eR, _, _, _, _⟩ := hO.sl
        rw [← e11] at eR hO
        have HI := Lib.hid (And.intro hI.below hO)
        clear hI hO e11
        simp [fillAll, List.range, List.range.loop, dstOf, Act.put]
        rw [eR]
        go_wp2
        go_ret
        have h2 := HI.out.2
        rw [eR] at h2
        refine ⟨_, rfl, ?_, below2 HBX.out HI.out.1⟩
        rw [insS_new he.out, hpos.out]
        exact h2.mono fun k hk => by have := (h2.lt k hk).1; omega
end Go.Proofs.Ytgjobbapnileiaa
