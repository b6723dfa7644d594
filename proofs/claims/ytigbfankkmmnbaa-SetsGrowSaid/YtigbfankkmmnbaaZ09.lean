/- What Short tells; Rows of sets: how they lie; sets: the walk; Cells that are set one by one, as lists; bits.Mul, slices.Repeat of one number: the walks; The program's Short: rule, the closure, each: the walks; tables.empty: the walks. -/
import Derived.Test.YtigbfankkmmnbaaZ07
import Derived.Test.YtigbfankkmmnbaaZ08
import Derived.Test.YtigbfankkmmnbaaZ06
import Derived.Shelf.Spec.SlicesInsertGrow
import Derived.Shelf.Bits.Mul64
import Derived.Deep.LoopGhost
set_option linter.unusedVariables false
set_option linter.unusedSimpArgs false
namespace Go.Proofs.Ytigbfankkmmnbaa
open Go.RowKit Gk

def shortEnd (c : Cfg) (w : World) (e : Ending) (w' : World) : Prop := ∃ v short, e = .returned v ∧ ShortOk c short ∧ IL w' v short ∧ Below w.heap.size w w'
end Go.Proofs.Ytigbfankkmmnbaa
set_option linter.unusedVariables false
set_option linter.unusedSimpArgs false
namespace Go.Proofs.Ytigbfankkmmnbaa
open Go.RowKit Gk

abbrev ISet (w : World) (b : Nat) (K : List Int) : Prop := SetAt Try.prog 3 4 w b K
abbrev IRange (w : World) (b r : Nat) (K L : List Int) (cnt : Nat) : Prop := RangeAt Try.prog 3 4 w b r K L cnt
/-- what a step does: blocks of In may turn; In' may turn afterwards -/
structure Fx (w w' : World) (In In' : Nat → Prop) : Prop where
  os : w'.os = w.os
  tape : w'.tape = w.tape
  output : w'.output = w.output
  size : w.heap.size ≤ w'.heap.size
  block : ∀ c, c < w.heap.size → ¬ In c → w'.heap[c]? = w.heap[c]?
  new : ∀ c, In' c → In c ∨ w.heap.size ≤ c
theorem Fx.refl (w : World) (In : Nat → Prop) : Fx w w In In := ⟨rfl, rfl, rfl, Nat.le_refl _, fun _ _ _ => rfl, fun _ h => .inl h⟩
theorem Fx.trans {w w1 w2 : World} {In In1 In2 : Nat → Prop} (h : Fx w w1 In In1) (k : Fx w1 w2 In1 In2) : Fx w w2 In In2 := by
  have hs := h.size
  refine ⟨k.os.trans h.os, k.tape.trans h.tape, k.output.trans h.output, Nat.le_trans hs k.size, fun c hc hn => ?_, fun c hc => ?_⟩
  · rw [k.block c (by omega) (fun h1 => ?_), h.block c hc hn]
    rcases h.new c h1 with h2 | h2
    · exact hn h2
    · omega
  · rcases k.new c hc with h1 | h1
    · exact h.new c h1
    · exact .inr (by omega)
theorem Fx.grown {w w1 w2 : World} {In In1 : Nat → Prop} (h : Fx w w1 In In1) {row : Option Nat} (g : w1.grownBy w2 row) (hr : ∀ k, row = some k → In k ∨ w.heap.size ≤ k) : Fx w w2 In In1 := by
  have hs := h.size
  refine ⟨g.os.trans h.os, g.tape.trans h.tape, g.output.trans h.output, Nat.le_trans hs g.size, fun c hc hn => ?_, h.new⟩
  rw [g.block c (by omega) (fun e => by rcases hr c e.symm with h | h; exact hn h; omega), h.block c hc hn]
theorem Fx.below {w w1 w2 : World} {In In1 : Nat → Prop} (h : Fx w w1 In In1) (k : Below w1.heap.size w1 w2) : Fx w w2 In In1 := by
  have hs := h.size
  refine ⟨k.os.trans h.os, k.tape.trans h.tape, k.output.trans h.output, Nat.le_trans hs k.size, fun c hc hn => ?_, h.new⟩
  rw [k.block c (by omega), h.block c hc hn]
theorem Fx.to {w0 w w' : World} {In In' : Nat → Prop} (h : Fx w w' In In') (h0 : Below w0.heap.size w0 w) (hI : ∀ c, In c → w0.heap.size ≤ c) : Below w0.heap.size w0 w' := by
  have h0s := h0.size
  exact ⟨h.os.trans h0.os, h.tape.trans h0.tape, h.output.trans h0.output, Nat.le_trans h0s h.size, fun c hc => by rw [h.block c (by omega) (fun hi => by have := hI c hi; omega), h0.block c hc]⟩
theorem Fx.mono {w w' : World} {In In' J J' : Nat → Prop} (h : Fx w w' In In') (h1 : ∀ c, In c → J c) (h2 : ∀ c, J' c → J c ∨ w.heap.size ≤ c) : Fx w w' J J' :=
  ⟨h.os, h.tape, h.output, h.size, fun c hc hn => h.block c hc fun hi => hn (h1 c hi), h2⟩
/-- a row of sets -/
structure SetRow (w : World) (R : Nat) (E : Nat → Nat) (ks : List (List Int)) : Prop where
  box : Box w R ((List.range ks.length).map fun i => Value.map (some (E i))).toArray 65
  set : ∀ (i : Nat) k, ks[i]? = some k → ISet w (E i) k
  inj : ∀ i j, i < ks.length → j < ks.length → E i = E j → i = j
theorem SetRow.ne {w : World} {R : Nat} {E : Nat → Nat} {ks : List (List Int)} (h : SetRow w R E ks) {i : Nat} (hi : i < ks.length) : E i ≠ R := by
  intro e
  obtain ⟨D, ⟨es, clock, hb, _⟩, _⟩ := h.set i _ (List.getElem?_eq_getElem hi)
  have := h.box
  unfold Box at this
  rw [e, this] at hb; cases hb
theorem SetRow.keep {w w' : World} {R : Nat} {E : Nat → Nat} {ks : List (List Int)} (h : SetRow w R E ks) (hR : w'.heap[R]? = w.heap[R]?) (hE : ∀ i, i < ks.length → w'.heap[E i]? = w.heap[E i]?) : SetRow w' R E ks :=
  ⟨h.box.keep hR, fun i k hk => (h.set i k hk).keep (hE i (List.getElem?_eq_some_iff.1 hk).1), h.inj⟩
theorem SetRow.lt {w : World} {R : Nat} {E : Nat → Nat} {ks : List (List Int)} (h : SetRow w R E ks) : R < w.heap.size ∧ ∀ i, i < ks.length → E i < w.heap.size :=
  ⟨h.box.lt, fun i hi => (h.set i _ (List.getElem?_eq_getElem hi)).lt⟩
theorem SetRow.below {w w' : World} {R : Nat} {E : Nat → Nat} {ks : List (List Int)} (h : SetRow w R E ks) (k : Below w.heap.size w w') : SetRow w' R E ks :=
  h.keep (k.block _ h.lt.1) fun i hi => k.block _ (h.lt.2 i hi)
theorem SetRow.cell {w : World} {R : Nat} {E : Nat → Nat} {ks : List (List Int)} (h : SetRow w R E ks) {i : Nat} (hi : i < ks.length) : w.cell? ⟨R, i, none⟩ = some (.map (some (E i))) :=
  h.box.cell i (by simp [hi])
/-- the set at a place turns -/
theorem SetRow.put {w w' : World} {R : Nat} {E : Nat → Nat} {ks : List (List Int)} (h : SetRow w R E ks) {i : Nat} (hi : i < ks.length) {K : List Int} (hS : ISet w' (E i) K) (g : w.grownBy w' (some (E i))) : SetRow w' R E (ks.set i K) := by
  have hl := h.lt
  refine ⟨?_, fun j k hk => ?_, by simpa using h.inj⟩
  · rw [List.length_set]
    exact h.box.keep (g.block R hl.1 (fun e => h.ne hi (by injection e with e; exact e.symm)))
  · by_cases e : j = i
    · subst e
      rw [List.getElem?_set_self hi] at hk
      injection hk with hk; subst hk; exact hS
    · rw [List.getElem?_set_ne (fun e' => e e'.symm)] at hk
      have hj := (List.getElem?_eq_some_iff.1 hk).1
      exact (h.set j k hk).keep (g.block _ (hl.2 j hj) fun e' => by injection e' with e'; exact e (h.inj j i hj hi e'))
theorem infoMap : (Try.prog.info? 65).map (fun i => (i.zero, i.size, i.bytes)) = some (some (.map none), 1, 8) := by kernel_rfl
theorem madeNone (n : Nat) : madeCells #[Value.map none] (n * 1) = Array.replicate n (.map none) := by
  apply Array.ext_getElem?
  intro j
  by_cases hj : j < n
  · simp [madeCells, hj, Nat.mod_one]
  · simp [madeCells, hj]
def mapTo (B n j : Nat) : List Value := (List.range j).map (fun i => Value.map (some (B + 1 + i))) ++ List.replicate (n - j) (.map none)
theorem mapTo_set {B n j : Nat} (h : j < n) : (mapTo B n j).set j (.map (some (B + 1 + j))) = mapTo B n (j + 1) := by
  unfold mapTo
  rw [List.set_append_right _ _ (by simp), List.range_succ, List.map_append, show n - j = (n - (j + 1)) + 1 by omega, List.replicate_succ]
  simp
theorem mapTo_at {B n j : Nat} (h : j < n) : (mapTo B n j).toArray[j]? = some (.map none) := by
  unfold mapTo
  rw [List.getElem?_toArray, List.getElem?_append_right (by simp), List.getElem?_replicate, if_pos (by simp; omega)]
set_option maxRecDepth 100000 in
set_option maxHeartbeats 1000000 in
theorem sets_calls (n : Nat) (w : World) (hn : n ≤ 1000) : Calls Try.prog 49 #[.int .i64 n] w fun e w' =>
    e = .returned (.slice (some ⟨w.heap.size, 0, none⟩) n n) ∧ Below w.heap.size w w' ∧ SetRow w' w.heap.size (fun i => w.heap.size + 1 + i) (List.replicate n []) := by
  obtain ⟨i0, hi0, hz0, hzs, hzb⟩ := info_parts infoMap
  have hmk := run_makeSlice (P := Try.prog) w 54 65 i0 _ Try.underlying54 hi0 hz0 .i64 .i64 n n (by omega) (by omega) (by rw [hzs]; omega) (by rw [hzb]; omega) (by omega)
  have e0 : (madeCells (Value.map none).cells ((n : Int).toNat * i0.size)) = Array.replicate n (.map none) := by rw [hzs, Int.toNat_natCast]; exact madeNone _
  rw [e0, Int.toNat_natCast] at hmk
  clear hi0 hz0 hzs hzb e0
  have hmm := fun (w : World) => run_makeMap (P := Try.prog) 65 w
  have hB0 : Hid (Box (w.alloc (.cells (Array.replicate n (.map none)) 65)) w.heap.size (mapTo w.heap.size n 0).toArray 65) := by
    have := Box.new w (Array.replicate n (Value.map none)) 65
    unfold Hid mapTo; simpa using this
  have hb0 : Hid (Below w.heap.size w (w.alloc (.cells (Array.replicate n (.map none)) 65))) := (Below.refl _ _).alloc (Nat.le_refl _) _
  go_enter Try.func49, Try.ntmps49
  go_wp2
  clear hmk
  go_loopw [9] (fun i wr => ∃ j : Nat, j ≤ n ∧ i = .int .i64 j ∧ Box wr w.heap.size (mapTo w.heap.size n j).toArray 65 ∧ Below w.heap.size w wr ∧ wr.heap.size = w.heap.size + 1 + j ∧ Hid (∀ i, i < j → ISet wr (w.heap.size + 1 + i) [])) (fun i _ => n - (intOf i).toNat)
  case atStart => exact ⟨0, Nat.zero_le _, rfl, hB0.out, hb0.out, by simp, fun i hi => absurd hi (Nat.not_lt_zero _)⟩
  case round =>
    obtain ⟨j, hj, rfl, hB, hb, hsz, hS⟩ := hrel
    clear hB0 hb0
    have H := Lib.hid (And.intro hB (And.intro hb hS))
    by_cases hlt : j < n
    · have hba := hB.alloc (.map #[] 0)
      have hce := hba.cell j (v := .map none) (mapTo_at hlt)
      have hfr := hba.frozen j
      have hnew : Hid (ISet (wr.alloc (.map #[] 0)) wr.heap.size []) := SetAt.new wr
      clear hB hb hS hba
      rw [hsz] at hnew
      go_wp2
      refine ⟨⟨j + 1, by omega, by simp, ?_, ?_, by simp; omega, fun i hi => ?_⟩, by simp [intOf]; omega⟩
      · have h1 := ((H.out.1).alloc (.map #[] 0)).set j (.map (some (w.heap.size + 1 + j)))
        rw [List.setIfInBounds_toArray, mapTo_set hlt] at h1
        exact h1
      · have h1 : Below w.heap.size w (wr.alloc (.map #[] 0)) := H.out.2.1.alloc (by omega) _
        exact h1.setCell (Nat.le_refl _) _
      · have hk : ∀ b, b ≠ w.heap.size → ((wr.alloc (.map #[] 0)).setCell ⟨w.heap.size, j, none⟩ (.map (some (w.heap.size + 1 + j)))).heap[b]? = (wr.alloc (.map #[] 0)).heap[b]? := fun b hb => Below.heap_setCell _ ⟨w.heap.size, j, none⟩ _ b hb
        by_cases e : i = j
        · subst e
          have h2 : ISet _ _ _ := hnew
          exact h2.keep (hk (w.heap.size + 1 + i) (by omega))
        · have h3 := H.out.2.2.out i (by omega)
          exact (h3.keep (heap_alloc_old wr _ (show w.heap.size + 1 + i < wr.heap.size by omega))).keep (hk (w.heap.size + 1 + i) (by omega))
    · have hje : j = n := by omega
      subst hje
      go_wp2
      go_ret
      refine ⟨rfl, H.out.2.1, ?_, fun i k hk => ?_, fun i k _ _ e => by omega⟩
      · have := H.out.1
        unfold mapTo at this
        simpa using this
      · rw [List.getElem?_replicate] at hk
        split at hk
        · injection hk with hk; subst hk; exact H.out.2.2.out i (by assumption)
        · cases hk
end Go.Proofs.Ytigbfankkmmnbaa
set_option linter.unusedVariables false
set_option linter.unusedSimpArgs false
namespace Go.Proofs.Ytigbfankkmmnbaa
open Go.RowKit Gk

def over (l : List Value) : Nat → List Value → List Value
  | _, [] => l
  | o, v :: r => over (l.set o v) (o + 1) r
  termination_by _ vs => vs.length
theorem over_eq : ∀ (vs : List Value) (l : List Value) (o : Nat), o + vs.length ≤ l.length → over l o vs = l.take o ++ vs ++ l.drop (o + vs.length) := by
  intro vs
  induction vs with
  | nil => intro l o _; simp [over]
  | cons v r ih =>
    intro l o h
    simp only [List.length_cons] at h
    rw [over, ih (l.set o v) (o + 1) (by simp; omega)]
    have h1 : (l.set o v).take (o + 1) = l.take o ++ [v] := by
      rw [List.take_add_one, List.take_set_of_le (Nat.le_refl _)]
      rw [List.getElem?_set_self (by omega)]; rfl
    have h2 : (l.set o v).drop (o + 1 + r.length) = l.drop (o + (v :: r).length) := by
      rw [List.drop_set_of_lt (by omega)]; simp only [List.length_cons]; congr 1; omega
    rw [h1, h2]; simp
theorem heap_setCells (b : Nat) : ∀ (vs : List Value) (o : Nat) (w : World) (cur : Array Value) (e : TypeId) (fr : Nat × Nat), w.heap[b]? = some (Obj.cells cur e fr) → ∃ cur', (w.setCells b o vs).heap[b]? = some (Obj.cells cur' e fr) ∧ cur'.toList = over cur.toList o vs := by
  intro vs
  induction vs with
  | nil => intro o w cur e fr h; exact ⟨cur, h, by rw [over]⟩
  | cons v r ih =>
    intro o w cur e fr h
    rw [World.setCells]
    have h1 : (w.setCell ⟨b, o, none⟩ v).heap[b]? = some (Obj.cells (cur.setIfInBounds o v) e fr) := by
      simp only [World.setCell, Array.getElem?_modify, h]; simp
    obtain ⟨cur', h2, h3⟩ := ih (o + 1) _ _ _ _ h1
    exact ⟨cur', h2, by rw [h3, over]; simp⟩
theorem heap_setCells_other (b : Nat) : ∀ (vs : List Value) (o : Nat) (w : World) (c : Nat), c ≠ b → (w.setCells b o vs).heap[c]? = w.heap[c]? := by
  intro vs
  induction vs with
  | nil => intro o w c _; rfl
  | cons v r ih => intro o w c h; rw [World.setCells, ih (o + 1) _ c h]; exact Below.heap_setCell w ⟨b, o, none⟩ v c h
theorem size_setCells (b : Nat) : ∀ (vs : List Value) (o : Nat) (w : World), (w.setCells b o vs).heap.size = w.heap.size ∧ (w.setCells b o vs).os = w.os ∧ (w.setCells b o vs).tape = w.tape ∧ (w.setCells b o vs).output = w.output := by
  intro vs
  induction vs with
  | nil => intro o w; exact ⟨rfl, rfl, rfl, rfl⟩
  | cons v r ih =>
    intro o w; rw [World.setCells]
    obtain ⟨h1, h2, h3, h4⟩ := ih (o + 1) (w.setCell ⟨b, o, none⟩ v)
    exact ⟨by rw [h1]; simp [World.setCell], by rw [h2]; rfl, by rw [h3]; rfl, by rw [h4]; rfl⟩
theorem grown_setCells (b o : Nat) (vs : List Value) (w : World) : w.grownBy (w.setCells b o vs) (some b) := by
  obtain ⟨h1, h2, h3, h4⟩ := size_setCells b vs o w
  exact ⟨h2, h3, h4, by omega, fun k _ hk => heap_setCells_other b vs o w k (fun e => hk (by rw [e]))⟩
/-- a list with one more -/
def insAt {α : Type} (l : List α) (i : Nat) (x : α) : List α := l.take i ++ x :: l.drop i
theorem insAt_length {α : Type} {l : List α} {i : Nat} {x : α} (h : i ≤ l.length) : (insAt l i x).length = l.length + 1 := by
  unfold insAt; simp; omega
theorem insAt_get {α β : Type} {l : List α} {m : List β} {R : α → β → Prop} (hl : l.length = m.length) (h : ∀ (j : Nat) a, l[j]? = some a → ∃ b, m[j]? = some b ∧ R a b) {i : Nat} (hi : i ≤ l.length) {x : α} {y : β} (hx : R x y) :
    ∀ (j : Nat) a, (insAt l i x)[j]? = some a → ∃ b, (insAt m i y)[j]? = some b ∧ R a b := by
  intro j a ha
  unfold insAt at ha ⊢
  have ht : (l.take i).length = i := by simp; omega
  have ht' : (m.take i).length = i := by simp; omega
  rcases Nat.lt_trichotomy j i with h1 | h1 | h1
  · rw [List.getElem?_append_left (by omega), List.getElem?_take, if_pos h1] at ha
    obtain ⟨b, hb, hr⟩ := h j a ha
    exact ⟨b, by rw [List.getElem?_append_left (by omega), List.getElem?_take, if_pos h1]; exact hb, hr⟩
  · subst h1
    rw [List.getElem?_append_right (by omega), ht, Nat.sub_self] at ha
    injection ha with ha
    exact ⟨y, by rw [List.getElem?_append_right (by omega), ht', Nat.sub_self]; rfl, ha ▸ hx⟩
  · rw [List.getElem?_append_right (by omega), ht, show j - i = (j - i - 1) + 1 by omega, List.getElem?_cons_succ, List.getElem?_drop] at ha
    obtain ⟨b, hb, hr⟩ := h _ a ha
    exact ⟨b, by rw [List.getElem?_append_right (by omega), ht', show j - i = (j - i - 1) + 1 by omega, List.getElem?_cons_succ, List.getElem?_drop]; exact hb, hr⟩
theorem insAt_end {α : Type} (l : List α) (x : α) : insAt l l.length x = l ++ [x] := by simp [insAt]
end Go.Proofs.Ytigbfankkmmnbaa
set_option linter.unusedVariables false
set_option linter.unusedSimpArgs false
namespace Go.Proofs.Ytigbfankkmmnbaa
open Go.RowKit Gk Go.Shelf Go.Lib

set_option maxHeartbeats 2000000 in
theorem mul64_calls (x y : Nat) (hx : x < 18446744073709551616) (hy : y < 18446744073709551616) (w : World) :
    Calls Try.prog 87 #[.int .u64 x, .int .u64 y] w fun e w' => e = .returned (.tuple #[.int .u64 ((x * y / 18446744073709551616 : Nat) : Int), .int .u64 ((x * y % 18446744073709551616 : Nat) : Int)]) ∧ w' = w := by
  obtain ⟨bd, bt, bw, hhi⟩ := Lib.mul64_hi x y hx hy
  have ba := Lib.half_mul_le (a := x / 4294967296) (b := y / 4294967296) (by omega) (by omega)
  have bb := Lib.half_mul_le (a := x / 4294967296) (b := y % 4294967296) (by omega) (by omega)
  have bc := Lib.half_mul_le (a := x % 4294967296) (b := y / 4294967296) (by omega) (by omega)
  have ba' : x / 4294967296 * (y / 4294967296) < 18446744073709551616 := by omega
  have bb' : x / 4294967296 * (y % 4294967296) < 18446744073709551616 := by omega
  have bc' : x % 4294967296 * (y / 4294967296) < 18446744073709551616 := by omega
  have bh1 : x / 4294967296 * (y / 4294967296) + (x / 4294967296 * (y % 4294967296) + x % 4294967296 * (y % 4294967296) / 4294967296) / 4294967296 < 18446744073709551616 := by omega
  have bh : x / 4294967296 * (y / 4294967296) + (x / 4294967296 * (y % 4294967296) + x % 4294967296 * (y % 4294967296) / 4294967296) / 4294967296 + ((x / 4294967296 * (y % 4294967296) + x % 4294967296 * (y % 4294967296) / 4294967296) % 4294967296 + x % 4294967296 * (y / 4294967296)) / 4294967296 < 18446744073709551616 := by omega
  go_enter Try.func87, Try.ntmps87
  go_wp2
  simp only [Mul64.maskN x hx, Mul64.maskN y hy, Mul64.divN, Mul64.mulN, Mul64.addN, Mul64.wrapN _ bd, Mul64.wrapN _ bb', Mul64.wrapN _ bt, Mul64.maskN _ bt, Mul64.wrapN _ bc', Mul64.wrapN _ bw, Mul64.wrapN _ ba', Mul64.wrapN _ bh1, Mul64.wrapN _ bh, Mul64.wrapM (x * y)]
  rw [hhi]
  go_ret2
  exact ⟨rfl, rfl⟩
theorem mul_calls (x y : Nat) (hx : x < 18446744073709551616) (hy : y < 18446744073709551616) (w : World) :
    Calls Try.prog 74 #[.int .u64 x, .int .u64 y] w fun e w' => e = .returned (.tuple #[.int .u64 ((x * y / 18446744073709551616 : Nat) : Int), .int .u64 ((x * y % 18446744073709551616 : Nat) : Int)]) ∧ w' = w := by
  have c64 := mul64_calls x y hx hy w
  go_enter Try.func74, Try.ntmps74
  go_wp2_with (go_at_call 87; refine c64.mono ?_; rintro e w' ⟨rfl, hw⟩; rw [hw])
  go_ret2
  exact ⟨rfl, rfl⟩
theorem sizeInt : (Try.prog.info? 3).map (·.size) = some 1 := by kernel_rfl
theorem madeZero (n : Nat) : madeCells #[Value.int .i64 0] (n * 1) = Array.replicate n (.int .i64 0) := by
  apply Array.ext_getElem?
  intro j
  by_cases hj : j < n
  · simp [madeCells, hj, Nat.mod_one]
  · simp [madeCells, hj]
/-- the first m are v -/
def Fst (w : World) (O n m : Nat) (v : Value) : Prop := ∃ cs : Array Value, Box w O cs 3 ∧ cs.size = n ∧ ∀ j, j < m → cs[j]? = some v
set_option maxHeartbeats 4000000 in
set_option maxRecDepth 100000 in
theorem repeat_calls (N n : Nat) (z : Int) (w : World) (hN : Box w N #[.int .i64 z] 3) (hn0 : 0 < n) (hn : n ≤ 100000) :
    Calls Try.prog 58 #[.slice (some ⟨N, 0, none⟩) 1 1, .int .i64 n] w fun e w' => ∃ O, e = .returned (.slice (some ⟨O, 0, none⟩) n n) ∧ Box w' O (Array.replicate n (.int .i64 z)) 3 ∧ w.heap.size ≤ O ∧ Below w.heap.size w w' := by
  have hmul := mul_calls 1 n (by omega) (by omega) w
  rw [Nat.one_mul, show n / 18446744073709551616 = 0 by omega, show n % 18446744073709551616 = n by omega] at hmul
  have HN := Lib.hid hN
  have hNlt := hN.lt
  have hN' := hN
  have hw1 : IntKind.u64.wrap (n : Int) = n := by rw [IntKind.wrap_u64]; omega
  clear hN
  obtain ⟨i0, hi0, hz0, hzs, hzb⟩ := info_parts infoInt
  have hmk := run_makeSlice (P := Try.prog) w 35 3 i0 _ Try.underlying35 hi0 hz0 .i64 .i64 n n (by omega) (by omega) (by rw [hzs]; omega) (by rw [hzb]; omega) (by omega)
  have e0 : (madeCells (Value.int .i64 0).cells ((n : Int).toNat * i0.size)) = Array.replicate n (.int .i64 0) := by rw [hzs, Int.toNat_natCast]; exact madeZero n
  rw [e0, Int.toNat_natCast] at hmk
  have hO0 := Box.new w (Array.replicate n (Value.int .i64 0)) 3
  have hNa := hN'.alloc (.cells (Array.replicate n (Value.int .i64 0)) 3)
  have hba : Below w.heap.size w (w.alloc (.cells (Array.replicate n (Value.int .i64 0)) 3)) := (Below.refl _ _).alloc (Nat.le_refl _) _
  have hcp : ∀ ty, (Builtin.copy_ #[35, 35] ty #[.slice (some ⟨w.heap.size, 0, none⟩) n n, .slice (some ⟨N, 0, none⟩) 1 1]).run Try.prog (w.alloc (.cells (Array.replicate n (Value.int .i64 0)) 3)) = .ok (goInt [Value.int .i64 z].length) ((w.alloc (.cells (Array.replicate n (Value.int .i64 0)) 3)).setCells w.heap.size 0 [.int .i64 z]) := fun ty =>
    run_copy_cells _ _ _ ty 3 w.heap.size 0 n n ⟨N, 0, none⟩ 1 1 [.int .i64 z] Try.underlying35 sizeInt (by show 1 = Nat.min 1 n; simp only [Nat.min_def]; split <;> omega)
      (fun j v hj => by rw [Addr.add_lit]; simpa using hNa.cell j (by simpa using hj)) (fun j hj => by have e : j = 0 := Nat.lt_one_iff.1 hj; rw [e, hO0.cell 0 (v := .int .i64 0) (by rw [Array.getElem?_replicate, if_pos hn0])]; rfl) (fun j hj => hO0.frozen _) (fun v hv => by rw [List.mem_singleton.1 hv]; rfl)
  have hg0 := grown_setCells w.heap.size 0 [Value.int .i64 z] (w.alloc (.cells (Array.replicate n (Value.int .i64 0)) 3))
  obtain ⟨cur, hcur, hcurl⟩ := heap_setCells w.heap.size [Value.int .i64 z] 0 (w.alloc (.cells (Array.replicate n (Value.int .i64 0)) 3)) _ _ _ hO0
  have hF1 : Hid (Fst ((w.alloc (.cells (Array.replicate n (Value.int .i64 0)) 3)).setCells w.heap.size 0 [.int .i64 z]) w.heap.size n 1 (.int .i64 z)) := by
    rw [over_eq _ _ _ (by simp; omega)] at hcurl
    refine ⟨cur, hcur, ?_, fun j hj => ?_⟩
    · have := congrArg List.length hcurl; simp at this; omega
    · have : j = 0 := by omega
      subst this
      have := congrArg (fun l => l[0]?) hcurl; simpa using this
  have hb1 : Hid (Below w.heap.size w ((w.alloc (.cells (Array.replicate n (Value.int .i64 0)) 3)).setCells w.heap.size 0 [.int .i64 z])) := hba.grown hg0 (by simp) (fun k e => by injection e with e; omega)
  have mixed : Try.prog.follows .mixedOrders = true := by kernel_rfl
  clear hNa hba hg0 hcur hcurl hO0 hN' e0 hi0 hz0 hzs hzb
  go_enter Try.func58, Try.ntmps58
  go_wp2_with (first | (go_at_call 74; refine hmul.mono ?_; rintro e w' ⟨rfl, hw⟩; rw [hw]) | (at_builtin; refine Go.Proofs.wpList_copy_runI _ rfl _ _ 35 35 rfl _ _ rfl rfl (hcp _) ?_))
  generalize (w.alloc (.cells (Array.replicate n (Value.int .i64 0)) 3)).setCells w.heap.size 0 [.int .i64 z] = wc at *
  generalize Value.bool (decide ((n : Int) < 0)) = y1
  generalize Value.bool (decide (9223372036854775807 < (n : Int))) = y2
  clear hcp hmk hmul
  go_loopw [8] (fun i wr => ∃ m : Nat, 1 ≤ m ∧ m ≤ n ∧ i = .int .i64 m ∧ Hid (Fst wr w.heap.size n m (.int .i64 z)) ∧ Below w.heap.size w wr) (fun i _ => n - (RowKit.intOf i).toNat)
  case atStart => exact ⟨1, Nat.le_refl _, hn0, rfl, hF1, hb1⟩
  case round =>
    obtain ⟨m, hm1, hmn, rfl, hF, hB⟩ := hrel
    obtain ⟨cs, hcs, hcl, hcv⟩ := hF
    by_cases hlt : m < n
    · obtain ⟨k, hk⟩ : ∃ k, k = Nat.min m (n - m) := ⟨_, rfl⟩
      have hk1 : 1 ≤ k ∧ m + k ≤ n ∧ k ≤ m := by rw [hk]; simp only [Nat.min_def]; split <;> omega
      have hcp2 : ∀ ty, (Builtin.copy_ #[35, 35] ty #[.slice (some ⟨w.heap.size, m, none⟩) (n - m) (n - m), .slice (some ⟨w.heap.size, 0, none⟩) m n]).run Try.prog wr.drew = .ok (goInt (List.replicate k (Value.int .i64 z)).length) (wr.drew.setCells w.heap.size m (List.replicate k (.int .i64 z))) := fun ty =>
        run_copy_cells wr.drew _ _ ty 3 w.heap.size m (n - m) (n - m) ⟨w.heap.size, 0, none⟩ m n (List.replicate k (.int .i64 z)) Try.underlying35 sizeInt (by rw [List.length_replicate]; exact hk)
          (fun j v hj => by
            rw [List.getElem?_replicate] at hj
            split at hj
            · injection hj with hj; subst hj
              rw [Addr.add_lit]; simpa using hcs.cell j (hcv j (by omega))
            · cases hj)
          (fun j hj => by rw [List.length_replicate] at hj; rw [show wr.drew.cell? ⟨w.heap.size, m + j, none⟩ = some cs[m + j] from hcs.cell (m + j) (Array.getElem?_eq_getElem (by omega))]; rfl) (fun j hj => hcs.frozen _) (fun v hv => by rw [List.eq_of_mem_replicate hv]; rfl)
      have hHK := Lib.hid hk; clear hk
      have HC := Lib.hid (And.intro hcs (And.intro hcl hcv))
      clear hcs hcl hcv
      have hnm : ¬ n = m := by omega
      rw [List.length_replicate] at hcp2
      go_wp2
      go_region_law_o (refine Go.Proofs.step_copy_runI rfl _ _ 35 35 rfl _ _ (by simp [Act.eval, Act.put]) (by simp [Act.eval, Act.put]) (hcp2 _) ?_)
      simp [Act.put]
      go_wp2
      have hw2 : IntKind.i64.wrap ((m : Int) + (k : Int)) = ((m + k : Nat) : Int) := by rw [IntKind.wrap_i64]; omega
      obtain ⟨cur2, hc2, hl2⟩ := heap_setCells w.heap.size (List.replicate k (Value.int .i64 z)) m wr.drew cs _ _ HC.out.1
      have hcl := HC.out.2.1
      have hcsl : cs.toList.length = n := by simpa using hcl
      rw [over_eq _ _ _ (by simp; omega)] at hl2
      refine ⟨⟨m + k, by omega, by omega, by rw [hw2], ⟨cur2, hc2, ?_, fun j hj => ?_⟩, ?_⟩, by rw [hw2]; simp [RowKit.intOf]; omega⟩
      · have := congrArg List.length hl2
        simp only [List.length_append, List.length_take, List.length_drop, List.length_replicate, Array.length_toList] at this
        omega
      · have h := congrArg (fun l => l[j]?) hl2
        simp only [Array.getElem?_toList] at h
        rw [h]
        by_cases hjm : j < m
        · rw [List.append_assoc, List.getElem?_append_left (by simp; omega), List.getElem?_take, if_pos hjm]
          simpa using HC.out.2.2 j hjm
        · rw [List.getElem?_append_left (by simp; omega), List.getElem?_append_right (by simp; omega), List.getElem?_replicate, if_pos (by simp; omega)]
      · exact (show Below w.heap.size w wr.drew from below_drewN hB 1).grown (grown_setCells _ _ _ _) hB.size (fun k e => by injection e with e; omega)
    · have hme : m = n := by omega
      subst hme
      go_wp2
      go_ret
      refine ⟨w.heap.size, rfl, ?_, Nat.le_refl _, hB⟩
      have : cs = Array.replicate m (.int .i64 z) := by
        apply Array.ext_getElem?
        intro j
        rw [Array.getElem?_replicate]
        split
        · exact hcv j (by assumption)
        · exact Array.getElem?_eq_none (by omega)
      rw [← this]; exact hcs
end Go.Proofs.Ytigbfankkmmnbaa
set_option linter.unusedVariables false
set_option linter.unusedSimpArgs false
namespace Go.Proofs.Ytigbfankkmmnbaa
open Go.RowKit Gk

set_option maxHeartbeats 1000000 in
theorem rule_calls (T : Nat) (a b x y z : Value) (A : Option Addr) (n c : Nat) (k : Int) (w : World) (hT : Box w T #[a, b, .slice A n c, x, y, z] 56) (hk : Ty.i64 k) (hn : n ≤ 1000000) :
    Calls Try.prog 52 #[.pointer (some ⟨T, 0, none⟩), .int .i64 k] w fun e w' => (∃ q, e = .returned (.tuple #[.int .i64 q, .bool (decide (k < 0 ∧ -1 - k < n))]) ∧ (k < 0 → q = -1 - k)) ∧ Drawn w w' := by
  have hc := hT.cell 2 (v := .slice A n c) rfl
  clear hT
  by_cases hk0 : k < 0
  · obtain ⟨r, hr, hxor⟩ := notOf hk hk0
    have hxor' : bits .xor .i64 (if IntKind.i64.signed = true then -1 else 9223372036854775807) k = r := hxor
    by_cases hrn : r < n
    · have hd : decide (k < 0 ∧ -1 - k < n) = true := decide_eq_true ⟨hk0, by omega⟩
      rw [hd]
      have HR := Lib.hid hr; clear hr
      go_enter Try.func52, Try.ntmps52
      go_wp2
      go_quiet (fail)
      go_wp2
      go_ret2
      exact ⟨⟨_, rfl, fun _ => HR.out.symm⟩, (Drawn.refl _).more _⟩
    · have hd : decide (k < 0 ∧ -1 - k < n) = false := decide_eq_false (fun h => by omega)
      rw [hd]
      have HR := Lib.hid hr; clear hr
      go_enter Try.func52, Try.ntmps52
      go_wp2
      go_quiet (fail)
      go_wp2
      go_ret2
      exact ⟨⟨_, rfl, fun _ => HR.out.symm⟩, (Drawn.refl _).more _⟩
  · have hd : decide (k < 0 ∧ -1 - k < n) = false := decide_eq_false (fun h => by omega)
    rw [hd]
    obtain ⟨q, hq⟩ : ∃ q, bits .xor .i64 (-1) k = q := ⟨_, rfl⟩
    have hq' : bits .xor .i64 (if IntKind.i64.signed = true then -1 else 9223372036854775807) k = q := hq
    have hk0' : decide (k < 0) = false := decide_eq_false hk0
    go_enter Try.func52, Try.ntmps52
    go_wp2
    go_quiet (fail)
    go_wp2
    go_ret2
    exact ⟨⟨_, rfl, fun h => by omega⟩, (Drawn.refl _).more _⟩
/-- what is known, in memory -/
structure ShS (w0 : World) (T P2 P3 O : Nat) (a b d : Value) (c : Cfg) (out : List Int) (w : World) : Prop where
  tb : Box w T #[a, b, d, .slice none 0 0, .slice none 0 0, .slice none 0 0] 56
  p2 : Box w P2 #[.pointer (some ⟨T, 0, none⟩)] 57
  p3 : Box w P3 #[.slice (some ⟨O, 0, none⟩) c.alts.length c.alts.length] 35
  ob : Box w O (out.map (Value.int .i64)).toArray 3
  ne : O ≠ T ∧ O ≠ P2 ∧ O ≠ P3
  bl : Below w0.heap.size w0 w
  lb : w0.heap.size ≤ O
  inv : ShI c out
theorem ShS.below {w0 : World} {T P2 P3 O : Nat} {a b d : Value} {c : Cfg} {out : List Int} {w w' : World} (h : ShS w0 T P2 P3 O a b d c out w) (k : Below w.heap.size w w') : ShS w0 T P2 P3 O a b d c out w' :=
  ⟨h.tb.below k, h.p2.below k, h.p3.below k, h.ob.below k, h.ne, below2 h.bl k, h.lb, h.inv⟩
theorem ShS.cell {w0 : World} {T P2 P3 O : Nat} {a b d : Value} {c : Cfg} {out : List Int} {w : World} (h : ShS w0 T P2 P3 O a b d c out w) {r : Nat} {m : Int} (hm : out[r]? = some m) : w.cell? ⟨O, r, none⟩ = some (.int .i64 m) :=
  h.ob.cell r (by simp [hm])
theorem ShS.set {w0 : World} {T P2 P3 O : Nat} {a b d : Value} {c : Cfg} {out : List Int} {w : World} (h : ShS w0 T P2 P3 O a b d c out w) {r : Nat} {m : Int} (hi : ShI c (out.set r m)) : ShS w0 T P2 P3 O a b d c (out.set r m) (w.setCell ⟨O, r, none⟩ (.int .i64 m)) := by
  have hk : ∀ g, g ≠ O → (w.setCell ⟨O, r, none⟩ (.int .i64 m)).heap[g]? = w.heap[g]? := fun g hg => Below.heap_setCell w ⟨O, r, none⟩ _ g hg
  refine ⟨h.tb.keep (hk _ h.ne.1.symm), h.p2.keep (hk _ h.ne.2.1.symm), h.p3.keep (hk _ h.ne.2.2.symm), ?_, h.ne, h.bl.setCell h.lb _, h.lb, hi⟩
  have := h.ob.set r (.int .i64 m)
  rwa [List.setIfInBounds_toArray, ← List.map_set] at this
def closEnd (w0 : World) (T P2 P3 O : Nat) (a b d : Value) (c : Cfg) (out : List Int) (r : Nat) (al : List Int) (e : Ending) (w' : World) : Prop :=
  ∃ out' bb, e = .returned (.bool bb) ∧ ShS w0 T P2 P3 O a b d c out' w' ∧ (bb = true → left9 out' < left9 out) ∧ (bb = false → out' = out ∧ ∀ m, out[r]? = some m → m ≤ len9 out al)
set_option maxRecDepth 100000 in
set_option maxHeartbeats 4000000 in
theorem clos_calls (w0 : World) (T P2 P3 O : Nat) (a b : Value) (A3 : Option Addr) (c3 : Nat) (c : Cfg) (out : List Int) (r : Nat) (al : List (List Int)) (s : List Int) (u : Value) (w : World) (h : ShS w0 T P2 P3 O a b (.slice A3 c.alts.length c3) c out w) (hal : c.alts[r]? = some al) (hs : s ∈ al) (hu : Sl Ty.int w u s) (hsl : s.length ≤ 1000) (hin : ∀ k ∈ s, k < 0 → -1 - k < c.alts.length) (hcl : c.alts.length ≤ 1000) :
    Calls Try.prog 59 #[.int .i64 r, u, .pointer (some ⟨P2, 0, none⟩), .pointer (some ⟨P3, 0, none⟩)] w (closEnd w0 T P2 P3 O a b (.slice A3 c.alts.length c3) c out r s) := by
  obtain ⟨AU, cU, rfl, ku1, ku2, ku3, ku4⟩ := id hu
  unfold LB at ku3
  have HH := Lib.hid (And.intro h (And.intro hal (And.intro hs hin)))
  have hlen := h.inv.1
  have hr : r < out.length := by rw [hlen]; exact (List.getElem?_eq_some_iff.1 hal).1
  clear h hal hs hin hu
  go_enter Try.func59, Try.ntmps59
  go_wp2
  go_loopw [15, 7] (fun i o wr => (∃ (n : Nat) (q : Int), n ≤ s.length ∧ i = .int .i64 n ∧ o = .int .i64 q ∧ 0 ≤ q ∧ q ≤ 2147483647 ∧ Hid (q = len9 out (s.take n))) ∧ Drawn w wr) (fun i _ _ => s.length - (intOf i).toNat)
  case atStart => exact ⟨⟨0, 0, Nat.zero_le _, rfl, rfl, by omega, by omega, by simp [Hid, len9]⟩, Drawn.refl _⟩
  case round =>
    obtain ⟨⟨n, q, hn, rfl, rfl, hq0, hq1, hq⟩, hD⟩ := hrel
    have HS := Lib.hid (HH.out.1.below hD.below)
    have ku4r := ku4.below hD.below
    have hp2 := HS.out.p2.cell 0 (v := .pointer (some ⟨T, 0, none⟩)) rfl
    have hp3 := HS.out.p3.cell 0 (v := .slice (some ⟨O, 0, none⟩) c.alts.length c.alts.length) rfl
    have HQ : Hid _ := hq
    clear hq
    by_cases hlt : n < s.length
    · obtain ⟨k, hk⟩ := at_lt s hlt
      obtain ⟨ad, rfl, hk64, hcell⟩ := ku4r.int hk
      have hstep : Hid (len9 out (s.take (n + 1)) = min (len9 out (s.take n) + mor9 out k) farI) := by
        rw [take_next hk, len9_snoc]; rfl
      have hkin := HH.out.2.2.2 k (List.mem_of_getElem? hk)
      clear hk
      have hrule := rule_calls T a b (.slice none 0 0) (.slice none 0 0) (.slice none 0 0) A3 c.alts.length c3 k wr HS.out.tb hk64 (by omega)
      by_cases hk0 : k < 0
      · have hr2 := hkin hk0
        have hd : decide (k < 0 ∧ -1 - k < c.alts.length) = true := decide_eq_true ⟨hk0, hr2⟩
        rw [hd] at hrule
        obtain ⟨rn, hrn⟩ : ∃ rn : Nat, -1 - k = rn := ⟨(-1 - k).toNat, by omega⟩
        have hrl : rn < out.length := by omega
        obtain ⟨m, hm⟩ := at_lt out hrl
        have hmr := HH.out.1.inv.2 rn m hm
        have hmor : Hid (mor9 out k = m) := by unfold mor9; rw [if_pos hk0, show (-1 - k).toNat = rn by omega, hm]; rfl
        have hmc := HS.out.cell hm
        have hm0 := hmr.1
        have hm1 : m ≤ 2147483647 := hmr.2.1
        have HRN := Lib.hid hrn
        have HRULE := Lib.hid hrule
        clear hrn hrule hm hmr hkin hr2
        go_wp2_with (go_at_call 52; refine HRULE.out.mono ?_; rintro e w1 ⟨⟨q1, rfl, hq1'⟩, hD1⟩; obtain rfl : q1 = (rn : Int) := (hq1' hk0).trans HRN.out; clear hq1'; have hmc1 := cell_far hmc hD1.below.block; have hp31 := cell_far hp3 hD1.below.block)
        refine ⟨⟨⟨n + 1, min (q + m) 2147483647, by omega, by simp, rfl, by omega, by omega, ?_⟩, hD.trans hD1⟩, by simp [intOf]; omega⟩
        have h1 : len9 out _ = _ := hstep
        have h2 : mor9 out k = m := hmor
        show _ = _
        rw [h1, h2, ← (show q = _ from HQ)]; rfl
      · have hd : decide (k < 0 ∧ -1 - k < c.alts.length) = false := decide_eq_false (fun h => hk0 h.1)
        rw [hd] at hrule
        have hmor : Hid (mor9 out k = 1) := by unfold mor9; rw [if_neg hk0]; rfl
        have HRULE := Lib.hid hrule
        clear hrule hkin
        go_wp2_with (go_at_call 52; refine HRULE.out.mono ?_; rintro e w1 ⟨⟨q1, rfl, hq1'⟩, hD1⟩)
        refine ⟨⟨⟨n + 1, min (q + 1) 2147483647, by omega, by simp, rfl, by omega, by omega, ?_⟩, hD.trans hD1⟩, by simp [intOf]; omega⟩
        have h1 : len9 out _ = _ := hstep
        have h2 : mor9 out k = 1 := hmor
        show _ = _
        rw [h1, h2, ← (show q = _ from HQ)]; rfl
    · have hne : n = s.length := by omega
      have hqf : Hid (q = len9 out s) := by
        have h : q = _ := HQ
        show _ = _
        rw [h, hne, List.take_length]
      have HNE := Lib.hid hne; clear hne
      obtain ⟨m, hm⟩ := at_lt out hr
      have hmc := HS.out.cell hm
      have hmf := HS.out.ob.frozen r
      have HM := Lib.hid hm; clear hm
      by_cases hge : m ≤ q
      · go_wp2
        go_ret
        refine ⟨out, false, rfl, HS.out, fun h => (by cases h), fun _ => ⟨rfl, fun m' hm' => ?_⟩⟩
        rw [HM.out] at hm'; injection hm' with hm'; rw [← hm', ← (show q = _ from hqf)]; exact hge
      · go_wp2
        go_ret
        have hset := HS.out.inv.set HH.out.2.1 HH.out.2.2.1 HH.out.2.2.2
        have h : q = _ := hqf
        rw [← h] at hset
        exact ⟨_, true, rfl, HS.out.set hset, fun _ => left9_set out r m q HM.out hq0 (by omega), fun h => (by cases h)⟩
end Go.Proofs.Ytigbfankkmmnbaa
set_option linter.unusedVariables false
set_option linter.unusedSimpArgs false
namespace Go.Proofs.Ytigbfankkmmnbaa
open Go.RowKit Gk

theorem isN_some {nl : List Bool} {k : Int} {b : Bool} {r : Nat} (hk : k < 0) (hr : -1 - k = r) (hb : nl[r]? = some b) : isN nl k = b := by
  unfold isN; rw [show (-1 - k).toNat = r by omega, hb]; simp [hk]
theorem isN_none {nl : List Bool} {k : Int} (h : ¬ (k < 0 ∧ -1 - k < (nl.length : Int))) : isN nl k = false := by
  unfold isN
  by_cases hk : k < 0
  · rw [List.getElem?_eq_none (by omega)]; simp
  · simp [hk]
/-- what empty reads -/
structure EmpAt (w : World) (T N : Nat) (a b : Value) (A : Option Addr) (n c3 : Nat) (y z : Value) (nl : List Bool) : Prop where
  tb : Box w T #[a, b, .slice A n c3, .slice (some ⟨N, 0, none⟩) n n, y, z] 56
  nb : Box w N (nl.map Value.bool).toArray 4
  len : nl.length = n
theorem EmpAt.keep {w w' : World} {T N : Nat} {a b : Value} {A : Option Addr} {n c3 : Nat} {y z : Value} {nl : List Bool} (h : EmpAt w T N a b A n c3 y z nl) (hT : w'.heap[T]? = w.heap[T]?) (hN : w'.heap[N]? = w.heap[N]?) : EmpAt w' T N a b A n c3 y z nl := ⟨h.tb.keep hT, h.nb.keep hN, h.len⟩
theorem EmpAt.below {w w' : World} {T N : Nat} {a b : Value} {A : Option Addr} {n c3 : Nat} {y z : Value} {nl : List Bool} (h : EmpAt w T N a b A n c3 y z nl) (k : Below w.heap.size w w') : EmpAt w' T N a b A n c3 y z nl := h.keep (k.block _ h.tb.lt) (k.block _ h.nb.lt)
theorem EmpAt.cell {w : World} {T N : Nat} {a b : Value} {A : Option Addr} {n c3 : Nat} {y z : Value} {nl : List Bool} (h : EmpAt w T N a b A n c3 y z nl) {r : Nat} {m : Bool} (hm : nl[r]? = some m) : w.cell? ⟨N, r, none⟩ = some (.bool m) := h.nb.cell r (by simp [hm])
set_option maxRecDepth 100000 in
set_option maxHeartbeats 2000000 in
theorem empC_calls (w : World) (T N P : Nat) (a b : Value) (A : Option Addr) (n c3 : Nat) (y z : Value) (nl : List Bool) (k : Int) (h : EmpAt w T N a b A n c3 y z nl) (hp : Box w P #[.pointer (some ⟨T, 0, none⟩)] 57) (hk : Ty.i64 k) (hn : n ≤ 1000) :
    Calls Try.prog 72 #[.int .i64 k, .pointer (some ⟨P, 0, none⟩)] w fun e w' => e = .returned (.bool (!isN nl k)) ∧ Drawn w w' := by
  have hpc := hp.cell 0 (v := .pointer (some ⟨T, 0, none⟩)) rfl
  have htc := h.tb.cell 3 (v := .slice (some ⟨N, 0, none⟩) n n) rfl
  have hrule := rule_calls T a b (.slice (some ⟨N, 0, none⟩) n n) y z A n c3 k w h.tb hk (by omega)
  have HE := Lib.hid h
  clear h
  by_cases hr : k < 0 ∧ -1 - k < (n : Int)
  · rw [decide_eq_true hr] at hrule
    obtain ⟨r, hr'⟩ : ∃ r : Nat, -1 - k = r := ⟨(-1 - k).toNat, by omega⟩
    have hrl : r < nl.length := by rw [HE.out.len]; omega
    have hrn : r < n := by omega
    obtain ⟨bb, hbb⟩ := at_lt nl hrl
    have hbc := HE.out.cell hbb
    have HI := Lib.hid (isN_some hr.1 hr' hbb)
    have HR := Lib.hid (And.intro hr hr')
    have HRU := Lib.hid hrule
    clear hrule hr hr' hbb
    cases bb with
    | true =>
      go_enter Try.func72, Try.ntmps72
      go_wp2_with (go_at_call 52; refine HRU.out.mono ?_; rintro e w1 ⟨⟨q, rfl, hq⟩, hD⟩; obtain rfl : q = (r : Int) := (hq HR.out.1.1).trans HR.out.2; have hpc1 := cell_far hpc hD.below.block; have htc1 := cell_far htc hD.below.block; have hbc1 := cell_far hbc hD.below.block; clear hq)
      go_ret
      exact ⟨ret_bool (by rw [HI.out]; rfl), hD⟩
    | false =>
      go_enter Try.func72, Try.ntmps72
      go_wp2_with (go_at_call 52; refine HRU.out.mono ?_; rintro e w1 ⟨⟨q, rfl, hq⟩, hD⟩; obtain rfl : q = (r : Int) := (hq HR.out.1.1).trans HR.out.2; have hpc1 := cell_far hpc hD.below.block; have htc1 := cell_far htc hD.below.block; have hbc1 := cell_far hbc hD.below.block; clear hq)
      go_ret
      exact ⟨ret_bool (by rw [HI.out]; rfl), hD⟩
  · rw [decide_eq_false hr] at hrule
    have HI := Lib.hid (isN_none (nl := nl) (k := k) (by rw [HE.out.len]; exact hr))
    have HRU := Lib.hid hrule
    clear hrule hr
    go_enter Try.func72, Try.ntmps72
    go_wp2_with (go_at_call 52; refine HRU.out.mono ?_; rintro e w1 ⟨⟨q, rfl, hq⟩, hD⟩; clear hq)
    go_ret
    exact ⟨ret_bool (by rw [HI.out]; rfl), hD⟩
set_option maxRecDepth 100000 in
set_option maxHeartbeats 2000000 in
theorem idxF_calls (w : World) (T N P : Nat) (a b : Value) (A : Option Addr) (n c3 : Nat) (y z u : Value) (nl : List Bool) (s : List Int) (h : EmpAt w T N a b A n c3 y z nl) (hp : Box w P #[.pointer (some ⟨T, 0, none⟩)] 57) (hn : n ≤ 1000) (hu : Sl Ty.int w u s) :
    Calls Try.prog 83 #[u, .func (.func 72) #[] #[.pointer (some ⟨P, 0, none⟩)]] w fun e w' => (∃ q : Int, e = .returned (.int .i64 q) ∧ (decide (q ≥ 0) = !emptyP nl s)) ∧ Drawn w w' := by
  obtain ⟨AU, cU, rfl, ku1, ku2, ku3, ku4⟩ := id hu
  unfold LB at ku3
  have HH := Lib.hid (And.intro h hp)
  clear h hp hu
  go_enter Try.func83, Try.ntmps83
  go_wp2
  go_loopw [8] (fun i wr => (∃ j : Nat, j ≤ s.length ∧ i = .int .i64 j ∧ Hid (emptyP nl (s.take j) = true)) ∧ Drawn w wr) (fun i _ => s.length - (intOf i).toNat)
  case atStart => exact ⟨⟨0, Nat.zero_le _, rfl, rfl⟩, Drawn.refl _⟩
  case round =>
    obtain ⟨⟨j, hj, rfl, hE⟩, hD⟩ := hrel
    have ku4r := ku4.below hD.below
    by_cases hlt : j < s.length
    · obtain ⟨k, hk⟩ := at_lt s hlt
      obtain ⟨ad, rfl, hk64, hcell⟩ := ku4r.int hk
      have hcl := empC_calls wr T N P a b A n c3 y z nl k (HH.out.1.below hD.below) (HH.out.2.below hD.below) hk64 hn
      have hstep : Hid (emptyP nl (s.take (j + 1)) = (emptyP nl (s.take j) && isN nl k)) := by
        show _ = _
        unfold emptyP
        rw [take_next hk, List.all_append]; simp
      have hfull : Hid (isN nl k = false → emptyP nl s = false) := fun hf => by
        unfold emptyP
        rw [List.all_eq_false]
        exact ⟨k, List.mem_of_getElem? hk, by simp [hf]⟩
      obtain ⟨bb, hbb⟩ : ∃ bb, bb = isN nl k := ⟨_, rfl⟩
      rw [← hbb] at hcl
      have HB := Lib.hid hbb
      clear hk hbb
      cases bb with
      | true =>
        have HC := Lib.hid hcl
        clear hcl
        go_wp2_with (go_at_call 72; refine HC.out.mono ?_; rintro e w3 ⟨rfl, hD3⟩)
        refine ⟨⟨⟨j + 1, by omega, by simp, ?_⟩, hD.trans hD3⟩, by simp [intOf]; omega⟩
        have h : emptyP nl _ = _ := hstep
        show _ = _
        rw [h, ← HB.out, show emptyP nl (s.take j) = true from hE]; rfl
      | false =>
        have HC := Lib.hid hcl
        clear hcl
        go_wp2_with (go_at_call 72; refine HC.out.mono ?_; rintro e w3 ⟨rfl, hD3⟩)
        go_ret
        refine ⟨⟨_, rfl, ?_⟩, hD.trans hD3⟩
        rw [hfull.out HB.out.symm]; simp
    · have h : emptyP nl _ = true := hE
      rw [List.take_of_length_le (by omega)] at h
      have HE := Lib.hid h
      clear h hE
      go_wp2
      go_ret
      refine ⟨⟨_, rfl, ?_⟩, hD⟩
      rw [HE.out]; decide
set_option maxRecDepth 100000 in
set_option maxHeartbeats 2000000 in
theorem emp_calls (w : World) (T N : Nat) (a b : Value) (A : Option Addr) (n c3 : Nat) (y z u : Value) (nl : List Bool) (s : List Int) (h : EmpAt w T N a b A n c3 y z nl) (hn : n ≤ 1000) (hu : Sl Ty.int w u s) :
    Calls Try.prog 55 #[.pointer (some ⟨T, 0, none⟩), u] w fun e w' => e = .returned (.bool (emptyP nl s)) ∧ Below w.heap.size w w' := by
  have hcf : ∀ (w : World) (P : Nat) (u : Value), EmpAt w T N a b A n c3 y z nl → Box w P #[.pointer (some ⟨T, 0, none⟩)] 57 → Sl Ty.int w u s →
      Calls Try.prog 71 #[u, .func (.func 72) #[] #[.pointer (some ⟨P, 0, none⟩)]] w fun e w' => e = .returned (.bool (!emptyP nl s)) ∧ Drawn w w' := by
    intro w P u h hp hu
    have hi := idxF_calls w T N P a b A n c3 y z u nl s h hp hn hu
    obtain ⟨AU, cU, rfl, ku1, ku2, ku3, ku4⟩ := id hu
    clear h hp hu
    go_enter Try.func71, Try.ntmps71
    go_wp2_with (go_at_call 83; refine hi.mono ?_; rintro e w3 ⟨⟨q, rfl, hq⟩, hD3⟩; have HQ := Lib.hid hq; clear hq)
    go_ret
    exact ⟨ret_bool HQ.out.symm, hD3⟩
  have hba : Below w.heap.size w (w.alloc (.cells #[.pointer (some ⟨T, 0, none⟩)] 57)) := (Below.refl _ _).alloc (Nat.le_refl _) _
  have hc := hcf (w.alloc (.cells #[.pointer (some ⟨T, 0, none⟩)] 57)) w.heap.size u (h.below hba) (Box.new _ _ _) (hu.below hba)
  obtain ⟨AU, cU, rfl, ku1, ku2, ku3, ku4⟩ := id hu
  have HC := Lib.hid (And.intro hc hba)
  clear h hu hcf hc hba
  go_enter Try.func55, Try.ntmps55
  go_wp2_with (go_at_call 71; refine HC.out.1.mono ?_; rintro e w3 ⟨rfl, hD3⟩)
  go_ret
  exact ⟨ret_bool (by simp), below2 HC.out.2 hD3.below⟩
end Go.Proofs.Ytigbfankkmmnbaa
