/- Kinds of values in cells: what is read, what is made. No program is named here; Contracts of the reference's small functions on names: has, place, IsName, SameNames. -/
import Derived.WalkKit
import Derived.Deep.Draws
import Derived.Deep.AppendLies
import Derived.Maps.AppendAt
import Derived.Lib.Hide
import Derived.Laws.AppendOwnNone
import Derived.Test.YtigbfankkmmnbaaProg
import Derived.Deep.QuietTactic
import Derived.BigQuiet
import Derived.KernelRfl
set_option linter.unusedVariables false
set_option linter.unusedSimpArgs false
namespace Gk
open Go Go.RowKit

/-- lengths stay below this -/
def LB : Nat := 140737488355328

/-- A kind of value: how many cells, what they say. -/
structure Ty (α : Type) where
  sz : Nat
  pos : 0 < sz
  R : World → α → List Value → Prop
  len : ∀ {w x cs}, R w x cs → cs.length = sz
  one : ∀ {w x cs}, R w x cs → ∀ u ∈ cs, u.oneCell' = true
  far : ∀ {w w' : World} {x cs}, R w x cs → (∀ b, b < w.heap.size → w'.heap[b]? = w.heap[b]?) → R w' x cs

/-- R holds in every world that keeps the blocks of D. -/
def Far (D : Nat → Prop) (R : World → Prop) (w : World) : Prop :=
  ∀ w' : World, w.heap.size ≤ w'.heap.size → (∀ b, b < w.heap.size → D b → w'.heap[b]? = w.heap[b]?) → R w'
theorem Far.now {D : Nat → Prop} {R : World → Prop} {w : World} (h : Far D R w) : R w := h w (Nat.le_refl _) fun _ _ _ => rfl
theorem Far.mono {D D' : Nat → Prop} {R : World → Prop} {w : World} (h : Far D R w) (hd : ∀ b, b < w.heap.size → D b → D' b) : Far D' R w :=
  fun w2 s2 h2 => h w2 s2 fun b hb1 hb2 => h2 b hb1 (hd b hb1 hb2)
theorem Far.on {D : Nat → Prop} {R : World → Prop} {w w' : World} (h : Far D R w) (hs : w.heap.size ≤ w'.heap.size) (hb : ∀ b, b < w.heap.size → D b → w'.heap[b]? = w.heap[b]?) : Far (fun b => D b ∧ b < w.heap.size) R w' :=
  fun w2 s2 h2 => h w2 (Nat.le_trans hs s2) fun b hb1 hb2 => (h2 b (Nat.lt_of_lt_of_le hb1 hs) ⟨hb2, hb1⟩).trans (hb b hb1 hb2)
theorem Far.imp {D : Nat → Prop} {R R' : World → Prop} {w : World} (h : Far D R w) (hr : ∀ w', R w' → R' w') : Far D R' w := fun w2 s2 h2 => hr _ (h w2 s2 h2)
theorem Ty.farD {α : Type} (T : Ty α) {w : World} {x : α} {cs : List Value} (h : T.R w x cs) {D : Nat → Prop} (hd : ∀ b, b < w.heap.size → D b) : Far D (fun w => T.R w x cs) w :=
  fun w2 s2 h2 => T.far h fun b hb1 => h2 b hb1 (hd b hb1)

/-- A row of elements that is read. -/
def Row {α : Type} (T : Ty α) (w : World) (A : Option Addr) (xs : List α) : Prop :=
  ∀ (i : Nat) x, xs[i]? = some x → ∃ ad cs, A = some ad ∧ T.R w x cs ∧ ∀ j u, cs[j]? = some u → w.cell? (ad.add (i * T.sz + j)) = some u

theorem cell_far {w w' : World} {a : Addr} {v : Value} (h : w.cell? a = some v) (hb : ∀ b, b < w.heap.size → w'.heap[b]? = w.heap[b]?) : w'.cell? a = some v :=
  (World.cell?_of_block (hb a.block (World.block_lt_of_cell? w a h))).trans h
theorem Row.far {α : Type} {T : Ty α} {w w' : World} {A : Option Addr} {xs : List α} (h : Row T w A xs) (hb : ∀ b, b < w.heap.size → w'.heap[b]? = w.heap[b]?) : Row T w' A xs := by
  intro i x hx
  obtain ⟨ad, cs, e, hr, hc⟩ := h i x hx
  exact ⟨ad, cs, e, T.far hr hb, fun j u hu => cell_far (hc j u hu) hb⟩
theorem Row.below {α : Type} {T : Ty α} {w w' : World} {A : Option Addr} {xs : List α} (h : Row T w A xs) (hb : Below w.heap.size w w') : Row T w' A xs := h.far hb.block
theorem Row.nil {α : Type} (T : Ty α) (w : World) (A : Option Addr) : Row T w A [] := by intro i x hx; simp at hx

/-- A slice that is read. -/
def Sl {α : Type} (T : Ty α) (w : World) (v : Value) (xs : List α) : Prop :=
  ∃ A c, v = .slice A xs.length c ∧ xs.length ≤ c ∧ c ≤ maxLen ∧ xs.length ≤ LB ∧ Row T w A xs
theorem Sl.far {α : Type} {T : Ty α} {w w' : World} {v : Value} {xs : List α} (h : Sl T w v xs) (hb : ∀ b, b < w.heap.size → w'.heap[b]? = w.heap[b]?) : Sl T w' v xs := by
  obtain ⟨A, c, rfl, h1, h2, h3, h4⟩ := h
  exact ⟨A, c, rfl, h1, h2, h3, h4.far hb⟩
theorem Sl.below {α : Type} {T : Ty α} {w w' : World} {v : Value} {xs : List α} (h : Sl T w v xs) (hb : Below w.heap.size w w') : Sl T w' v xs := h.far hb.block
theorem Sl.drewN {α : Type} {T : Ty α} {w : World} {v : Value} {xs : List α} (h : Sl T w v xs) (n : Nat) : Sl T (w.drewN n) v xs := h.far fun _ _ => rfl
theorem Sl.nil {α : Type} (T : Ty α) (w : World) : Sl T w (.slice none 0 0) [] := ⟨none, 0, rfl, Nat.le_refl _, by simp [maxLen], by simp [LB], Row.nil _ _ _⟩
theorem Sl.lb {α : Type} {T : Ty α} {w : World} {v : Value} {xs : List α} (h : Sl T w v xs) : xs.length ≤ 140737488355328 := by obtain ⟨A, c, rfl, h1, h2, h3, h4⟩ := h; exact h3

/-! ### the kinds -/
namespace Ty
/-- one cell, no memory behind it -/
def flat {α : Type} (enc : α → Value) (ok : α → Prop) (h1 : ∀ x, (enc x).oneCell' = true) : Ty α where
  sz := 1
  pos := Nat.one_pos
  R := fun _ x cs => cs = [enc x] ∧ ok x
  len := fun h => by rw [h.1]; rfl
  one := fun h u hu => by rw [h.1] at hu; rw [List.mem_singleton.1 hu]; exact h1 _
  far := fun h _ => h
def i64 (x : Int) : Prop := -9223372036854775808 ≤ x ∧ x ≤ 9223372036854775807
def int : Ty Int := flat (Value.int .i64) i64 (fun _ => rfl)
def byte : Ty Int := flat (Value.int .u8) (fun x => 0 ≤ x ∧ x ≤ 255) (fun _ => rfl)
def bool : Ty Bool := flat Value.bool (fun _ => True) (fun _ => rfl)
def str : Ty ByteArray := flat Value.string (fun s => s.size ≤ LB) (fun _ => rfl)
def slice {α : Type} (T : Ty α) : Ty (List α) where
  sz := 1
  pos := Nat.one_pos
  R := fun w xs cs => ∃ v, cs = [v] ∧ Sl T w v xs
  len := fun ⟨_, h, _⟩ => by rw [h]; rfl
  one := fun ⟨v, h, hs⟩ u hu => by
    rw [h] at hu; rw [List.mem_singleton.1 hu]
    obtain ⟨A, c, rfl, _⟩ := hs
    rfl
  far := fun ⟨v, h, hs⟩ hb => ⟨v, h, hs.far hb⟩
def pair {α β : Type} (S : Ty α) (T : Ty β) : Ty (α × β) where
  sz := S.sz + T.sz
  pos := Nat.lt_of_lt_of_le S.pos (Nat.le_add_right _ _)
  R := fun w x cs => ∃ c1 c2, cs = c1 ++ c2 ∧ S.R w x.1 c1 ∧ T.R w x.2 c2
  len := fun ⟨c1, c2, h, h1, h2⟩ => by rw [h, List.length_append, S.len h1, T.len h2]
  one := fun ⟨c1, c2, h, h1, h2⟩ u hu => by
    rw [h] at hu
    rcases List.mem_append.1 hu with hu | hu
    · exact S.one h1 u hu
    · exact T.one h2 u hu
  far := fun ⟨c1, c2, h, h1, h2⟩ hb => ⟨c1, c2, h, S.far h1 hb, T.far h2 hb⟩
def iso {α β : Type} (T : Ty α) (f : β → α) : Ty β where
  sz := T.sz
  pos := T.pos
  R := fun w x cs => T.R w (f x) cs
  len := fun h => T.len h
  one := fun h => T.one h
  far := fun h hb => T.far h hb
end Ty

theorem ret_bool {a b : Bool} (h : b = a) : Ending.returned (.bool a) = .returned (.bool b) := by rw [h]
theorem ret_int {k : IntKind} {a b : Int} (h : b = a) : Ending.returned (.int k a) = .returned (.int k b) := by rw [h]
theorem cmp_eq {a b : Nat} (h : a = b) : (a == b) = true ∧ (a != b) = false ∧ ((a : Int) == (b : Int)) = true ∧ ((a : Int) != (b : Int)) = false := by subst h; simp
theorem cmp_ne {a b : Nat} (h : a ≠ b) : (a == b) = false ∧ (a != b) = true ∧ ((a : Int) == (b : Int)) = false ∧ ((a : Int) != (b : Int)) = true := by
  have h' : (a : Int) ≠ (b : Int) := by omega
  simp [h, h']
theorem icmp_eq {a b : Int} (h : a = b) : (a == b) = true ∧ (a != b) = false := by subst h; simp
theorem icmp_ne {a b : Int} (h : a ≠ b) : (a == b) = false ∧ (a != b) = true := by simp [h]
/-- some orders were drawn, nothing else -/
structure Drawn (w w' : World) : Prop where mk :: (out : ∃ m, w' = w.drewN m)
theorem Drawn.refl (w : World) : Drawn w w := ⟨0, rfl⟩
theorem Drawn.more {w w' : World} (h : Drawn w w') (n : Nat) : Drawn w (w'.drewN n) := by
  obtain ⟨m, rfl⟩ := h; exact ⟨m + n, World.drewN_drewN ..⟩
theorem Drawn.trans {a b c : World} (h : Drawn a b) (k : Drawn b c) : Drawn a c := by
  obtain ⟨m, rfl⟩ := k; exact h.more m
theorem below_drewN {B : Nat} {w W : World} (h : Below B w W) (n : Nat) : Below B w (W.drewN n) := ⟨h.os, h.tape, h.output, h.size, h.block⟩
theorem Drawn.below {w w' : World} (h : Drawn w w') : Below w.heap.size w w' := by
  obtain ⟨m, rfl⟩ := h; exact below_drewN (Below.refl _ _) m
theorem _root_.Go.Calls.quiet {P : Program} {f : FuncId} {args : Array Value} {w : World} {n : Nat} {v : Value}
    (h : Calls P f args (w.drewN n) fun e w' => e = .returned v ∧ Drawn (w.drewN n) w') : Calls P f args (w.drewN n) fun e w'' => e = .returned v ∧ ∃ m, w'' = w.drewN m :=
  h.mono fun _ _ ⟨he, hm⟩ => by obtain ⟨m, rfl⟩ := hm; exact ⟨he, n + m, World.drewN_drewN ..⟩
/-- blocks that were there stay -/
theorem below_then {B : Nat} {w w1 w2 : World} (h : Below B w w1) (hB : B ≤ w1.heap.size) (k : Below w1.heap.size w1 w2) : Below B w w2 := h.trans (k.mono hB)
theorem below2 {w w1 w2 : World} (h : Below w.heap.size w w1) (k : Below w1.heap.size w1 w2) : Below w.heap.size w w2 := below_then h h.size k
/-! ### strings -/
theorem str_ext {a b : ByteArray} (h : a.toList = b.toList) : a = b := by
  rw [ByteArray.toList_eq, ByteArray.toList_eq] at h
  cases a; cases b; simpa using h
theorem str_eq {a b : ByteArray} (h : a = b) : (a.toList == b.toList) = true := by rw [h]; simp
theorem str_ne {a b : ByteArray} (h : a ≠ b) : (a.toList == b.toList) = false := by
  simp only [beq_eq_false_iff_ne, ne_eq]; exact fun e => h (str_ext e)
/-- a proposition's truth -/
noncomputable def dec (p : Prop) : Bool := @decide p (Classical.propDecidable p)
theorem dec_true {p : Prop} (h : p) : dec p = true := @decide_eq_true p (Classical.propDecidable p) h
theorem dec_false {p : Prop} (h : ¬ p) : dec p = false := @decide_eq_false p (Classical.propDecidable p) h
theorem of_dec {p : Prop} (h : dec p = true) : p := @of_decide_eq_true p (Classical.propDecidable p) h
theorem not_of_dec {p : Prop} (h : dec p = false) : ¬ p := @of_decide_eq_false p (Classical.propDecidable p) h
theorem dec_iff {p q : Prop} (h : p ↔ q) : dec p = dec q := by rw [propext h]
theorem dec_eq {p : Prop} [Decidable p] : dec p = decide p := by
  by_cases h : p
  · rw [dec_true h, decide_eq_true h]
  · rw [dec_false h, decide_eq_false h]

/-! ### reading an element -/
theorem Row.one {α : Type} {T : Ty α} {w : World} {A : Option Addr} {xs : List α} (h : Row T w A xs) (hsz : T.sz = 1) {i : Nat} {x : α} (hx : xs[i]? = some x) :
    ∃ ad u, A = some ad ∧ T.R w x [u] ∧ w.cell? (ad.add i) = some u := by
  obtain ⟨ad, cs, e, hr, hc⟩ := h i x hx
  have hl := T.len hr
  rw [hsz] at hl
  match cs, hl with
  | [u], _ => exact ⟨ad, u, e, hr, by have := hc 0 u rfl; rwa [hsz, Nat.mul_one, Nat.add_zero] at this⟩
theorem Row.int {w : World} {A : Option Addr} {xs : List Int} (h : Row Ty.int w A xs) {i : Nat} {x : Int} (hx : xs[i]? = some x) :
    ∃ ad, A = some ad ∧ Ty.i64 x ∧ w.cell? (ad.add i) = some (.int .i64 x) := by
  obtain ⟨ad, u, e, hr, hc⟩ := h.one rfl hx
  obtain ⟨h1, h2⟩ := hr
  cases h1
  exact ⟨ad, e, h2, hc⟩
theorem Row.bool {w : World} {A : Option Addr} {xs : List Bool} (h : Row Ty.bool w A xs) {i : Nat} {x : Bool} (hx : xs[i]? = some x) :
    ∃ ad, A = some ad ∧ w.cell? (ad.add i) = some (.bool x) := by
  obtain ⟨ad, u, e, hr, hc⟩ := h.one rfl hx
  obtain ⟨h1, h2⟩ := hr
  cases h1
  exact ⟨ad, e, hc⟩
theorem Row.str {w : World} {A : Option Addr} {xs : List ByteArray} (h : Row Ty.str w A xs) {i : Nat} {x : ByteArray} (hx : xs[i]? = some x) :
    ∃ ad, A = some ad ∧ x.size ≤ 140737488355328 ∧ w.cell? (ad.add i) = some (.string x) := by
  obtain ⟨ad, u, e, hr, hc⟩ := h.one rfl hx
  obtain ⟨h1, h2⟩ := hr
  cases h1
  exact ⟨ad, e, h2, hc⟩
theorem Row.slice {α : Type} {T : Ty α} {w : World} {A : Option Addr} {xs : List (List α)} (h : Row (Ty.slice T) w A xs) {i : Nat} {x : List α} (hx : xs[i]? = some x) :
    ∃ ad B c, A = some ad ∧ w.cell? (ad.add i) = some (.slice B x.length c) ∧ x.length ≤ c ∧ c ≤ maxLen ∧ x.length ≤ 140737488355328 ∧ Row T w B x := by
  obtain ⟨ad, u, e, hr, hc⟩ := h.one rfl hx
  obtain ⟨v, h1, hs⟩ := hr
  cases h1
  obtain ⟨B, c, rfl, h3, h4, h5, h6⟩ := hs
  exact ⟨ad, B, c, e, hc, h3, h4, h5, h6⟩

theorem add_add (a : Addr) (n m : Nat) : (a.add n).add m = a.add (n + m) := by
  unfold Addr.add
  by_cases hn : n = 0
  · subst hn; simp
  · by_cases hm : m = 0
    · subst hm; simp
    · rw [if_neg hn, if_neg hm, if_neg (by omega)]; simp [Nat.add_assoc]
theorem add_one_field (a : Addr) (n j : Nat) (hj : 0 < j) : (a.add n).add j = ⟨(a.add n).block, (a.add n).off + j, none⟩ := by
  show Addr.add _ _ = _
  rw [Addr.add, if_neg (by omega)]
theorem Row.two {α : Type} {T : Ty α} {w : World} {A : Option Addr} {xs : List α} (h : Row T w A xs) (hsz : T.sz = 2) {i : Nat} {x : α} (hx : xs[i]? = some x) :
    ∃ ad u0 u1, A = some ad ∧ T.R w x [u0, u1] ∧ w.cell? (ad.add (i * 2)) = some u0 ∧ w.cell? ⟨(ad.add (i * 2)).block, (ad.add (i * 2)).off + 1, none⟩ = some u1 := by
  obtain ⟨ad, cs, e, hr, hc⟩ := h i x hx
  have hl := T.len hr
  rw [hsz] at hl
  match cs, hl with
  | [u0, u1], _ =>
    refine ⟨ad, u0, u1, e, hr, by have := hc 0 u0 rfl; rwa [hsz, Nat.add_zero] at this, ?_⟩
    have := hc 1 u1 rfl
    rw [hsz, ← add_add, add_one_field _ _ _ (by omega)] at this
    exact this

/-! ### parts of a slice that is read -/
theorem Row.take {α : Type} {T : Ty α} {w : World} {A : Option Addr} {xs : List α} (h : Row T w A xs) (n : Nat) : Row T w A (xs.take n) := by
  intro i x hx
  rw [List.getElem?_take] at hx
  split at hx
  · exact h i x hx
  · simp at hx
theorem Row.drop {α : Type} {T : Ty α} {w : World} {ad : Addr} {xs : List α} (h : Row T w (some ad) xs) (n : Nat) : Row T w (some (ad.add (n * T.sz))) (xs.drop n) := by
  intro i x hx
  rw [List.getElem?_drop] at hx
  obtain ⟨ad', cs, e, hr, hc⟩ := h _ x hx
  cases e
  refine ⟨_, cs, rfl, hr, fun j u hu => ?_⟩
  rw [add_add]
  have := hc j u hu
  rwa [show n * T.sz + (i * T.sz + j) = (n + i) * T.sz + j by rw [Nat.add_mul]; omega]

/-! ### a block of cells -/
def Box (w : World) (b : Nat) (cs : Array Value) (e : TypeId) : Prop := w.heap[b]? = some (.cells cs e (0, 0))
theorem Box.cell {w : World} {b : Nat} {cs : Array Value} {e : TypeId} (h : Box w b cs e) (i : Nat) {v : Value} (hv : cs[i]? = some v) : w.cell? ⟨b, i, none⟩ = some v := by
  unfold Box at h; simp [World.cell?, h, hv]
theorem Box.frozen {w : World} {b : Nat} {cs : Array Value} {e : TypeId} (h : Box w b cs e) (i : Nat) : w.frozen? ⟨b, i, none⟩ = false := by
  unfold Box at h; simp [World.frozen?, h]
theorem Box.lt {w : World} {b : Nat} {cs : Array Value} {e : TypeId} (h : Box w b cs e) : b < w.heap.size := (Array.getElem?_eq_some_iff.1 h).1
theorem Box.new (w : World) (cs : Array Value) (e : TypeId) : Box (w.alloc (.cells cs e)) w.heap.size cs e := heap_alloc_new w _
theorem Box.set {w : World} {b : Nat} {cs : Array Value} {e : TypeId} (h : Box w b cs e) (i : Nat) (v : Value) : Box (w.setCell ⟨b, i, none⟩ v) b (cs.setIfInBounds i v) e := by
  unfold Box at *
  simp only [World.setCell, Array.getElem?_modify, h]; simp
theorem Box.keep {w w' : World} {b : Nat} {cs : Array Value} {e : TypeId} (h : Box w b cs e) (hb : w'.heap[b]? = w.heap[b]?) : Box w' b cs e := hb.trans h
theorem Box.below {w w' : World} {b : Nat} {cs : Array Value} {e : TypeId} (h : Box w b cs e) (hb : Below w.heap.size w w') : Box w' b cs e := h.keep (hb.block b h.lt)
theorem Box.grown {w w' : World} {b : Nat} {cs : Array Value} {e : TypeId} {row : Option Nat} (h : Box w b cs e) (hb : w.grownBy w' row) (hn : some b ≠ row) : Box w' b cs e := h.keep (hb.block b h.lt hn)
theorem Box.alloc {w : World} {b : Nat} {cs : Array Value} {e : TypeId} (h : Box w b cs e) (o : Obj) : Box (w.alloc o) b cs e := h.keep (heap_alloc_old w o h.lt)
theorem Box.setOther {w : World} {b : Nat} {cs : Array Value} {e : TypeId} (h : Box w b cs e) {p : Addr} (hp : b ≠ p.block) (v : Value) : Box (w.setCell p v) b cs e := h.keep (Below.heap_setCell w p v b hp)

/-! ### a row of the call's own -/
/-- v is a row of the call's own (from block B on); it and its elements' inner rows lie in blocks of D; the inner rows are not this one. -/
def Own {α : Type} (T : Ty α) (e : TypeId) (B : Nat) (D : Nat → Prop) (w : World) (v : Value) (xs : List α) : Prop :=
  ∃ css : List (List Value), w.ownsRow B e T.sz v xs.length css.flatten ∧ css.length = xs.length ∧ xs.length ≤ LB ∧ (∀ k, v.ownBlock = some k → D k) ∧
    ∀ (i : Nat) x, xs[i]? = some x → ∃ cs, css[i]? = some cs ∧ Far (fun b => D b ∧ some b ≠ v.ownBlock) (fun w => T.R w x cs) w
section
variable {α : Type} {T : Ty α} {e : TypeId} {B : Nat} {D D' : Nat → Prop} {w w' : World} {v : Value} {xs : List α}
theorem Own.nil (T : Ty α) (e : TypeId) (B : Nat) (D : Nat → Prop) (w : World) : Own T e B D w (.slice none 0 0) [] := ⟨[], World.ownsRow_nil _ _ _ _, rfl, by simp [LB], by simp [Value.ownBlock], by intro i x hx; simp at hx⟩
theorem Own.lb (h : Own T e B D w v xs) : xs.length ≤ 140737488355328 := by obtain ⟨css, h1, h2, h3, h4⟩ := h; exact h3
theorem Own.lt (h : Own T e B D w v xs) (k : Nat) (hk : v.ownBlock = some k) : B ≤ k ∧ k < w.heap.size := by obtain ⟨css, h1, _⟩ := h; exact h1.lt k hk
theorem Own.inD (h : Own T e B D w v xs) (k : Nat) (hk : v.ownBlock = some k) : D k := by obtain ⟨css, h1, h2, h3, h4, _⟩ := h; exact h4 k hk
/-- whatever keeps the blocks of D keeps it; what it hangs on was there -/
theorem Own.on (h : Own T e B D w v xs) (hs : w.heap.size ≤ w'.heap.size) (hb : ∀ b, b < w.heap.size → D b → w'.heap[b]? = w.heap[b]?) : Own T e B (fun b => D b ∧ b < w.heap.size) w' v xs := by
  have hlt := h.lt
  obtain ⟨css, h1, h2, h3, h5, h4⟩ := h
  refine ⟨css, ?_, h2, h3, fun k hk => ⟨h5 k hk, (hlt k hk).2⟩, fun i x hx => ?_⟩
  · obtain ⟨g1, g2⟩ := h1
    refine ⟨g1, ?_⟩
    rcases g2 with g2 | ⟨g, cap, cur, rfl, r1, r2, r3⟩
    · exact .inl g2
    · exact .inr ⟨g, cap, cur, rfl, r1, (hb g (Array.getElem?_eq_some_iff.1 r2).1 (h5 g rfl)).trans r2, r3⟩
  · obtain ⟨cs, hc, hf⟩ := h4 i x hx
    exact ⟨cs, hc, (hf.on hs fun b h1 h2 => hb b h1 h2.1).mono fun b _ h => ⟨⟨h.1.1, h.2⟩, h.1.2⟩⟩
theorem Own.mono (h : Own T e B D w v xs) (hd : ∀ b, b < w.heap.size → D b → D' b) : Own T e B D' w v xs := by
  have hlt := h.lt
  obtain ⟨css, h1, h2, h3, h5, h4⟩ := h
  exact ⟨css, h1, h2, h3, fun k hk => hd k (hlt k hk).2 (h5 k hk), fun i x hx => by
    obtain ⟨cs, hc, hf⟩ := h4 i x hx
    exact ⟨cs, hc, hf.mono fun b hb h => ⟨hd b hb h.1, h.2⟩⟩⟩
theorem Own.bound (h : Own T e B D w v xs) : Own T e B (fun b => D b ∧ b < w.heap.size) w v xs := h.on (Nat.le_refl _) fun _ _ _ => rfl
theorem Own.keep (h : Own T e B D w v xs) (hs : w.heap.size ≤ w'.heap.size) (hb : ∀ b, b < w.heap.size → D b → w'.heap[b]? = w.heap[b]?) : Own T e B D w' v xs := (h.on hs hb).mono fun _ _ h => h.1
theorem Own.below (h : Own T e B D w v xs) (hb : Below w.heap.size w w') : Own T e B D w' v xs := h.keep hb.size fun b hb1 _ => hb.block b hb1
theorem Own.alloc (h : Own T e B D w v xs) (o : Obj) : Own T e B D (w.alloc o) v xs := h.keep (by simp) fun b hb _ => heap_alloc_old w o hb
theorem Own.drewN (h : Own T e B D w v xs) (n : Nat) : Own T e B D (w.drewN n) v xs := h.keep (Nat.le_refl _) fun _ _ _ => rfl
theorem Own.setCell (h : Own T e B D w v xs) {p : Addr} (hp : ¬ D p.block) (u : Value) : Own T e B D (w.setCell p u) v xs :=
  h.keep (by simp [World.setCell]) fun b hb hd => Below.heap_setCell w p u b (fun e => hp (e ▸ hd))
theorem Own.grown {row : Option Nat} (h : Own T e B D w v xs) (hg : w.grownBy w' row) (hn : ∀ k, row = some k → ¬ D k) : Own T e B D w' v xs :=
  h.keep hg.size fun b hb hd => hg.block b hb (fun e => hn b e.symm hd)
theorem flat_at (n : Nat) : ∀ (css : List (List Value)) (i : Nat) (cs : List Value), (∀ c ∈ css, c.length = n) → css[i]? = some cs → ∀ j u, cs[j]? = some u → css.flatten[i * n + j]? = some u := by
  intro css
  induction css with
  | nil => intro i cs _ h; simp at h
  | cons c l ih =>
    intro i cs hl h j u hu
    have hc := hl c List.mem_cons_self
    have hj : j < cs.length := (List.getElem?_eq_some_iff.1 hu).1
    cases i with
    | zero =>
      simp at h; subst h
      rw [List.flatten_cons, Nat.zero_mul, Nat.zero_add, List.getElem?_append_left hj, hu]
    | succ i =>
      simp only [List.getElem?_cons_succ] at h
      rw [List.flatten_cons, List.getElem?_append_right (by rw [hc, Nat.add_mul]; omega)]
      have := ih i cs (fun c hc => hl c (List.mem_cons_of_mem _ hc)) h j u hu
      rwa [hc, show (i + 1) * n + j - n = i * n + j by rw [Nat.add_mul]; omega]
theorem Own.lens {css : List (List Value)} (h2 : css.length = xs.length) (h4 : ∀ (i : Nat) x, xs[i]? = some x → ∃ cs, css[i]? = some cs ∧ Far D (fun w => T.R w x cs) w) : ∀ c ∈ css, c.length = T.sz := by
  intro c hc
  obtain ⟨i, hi, rfl⟩ := List.mem_iff_getElem.1 hc
  obtain ⟨cs, h, hf⟩ := h4 i xs[i] (List.getElem?_eq_getElem (by omega))
  rw [List.getElem?_eq_getElem hi] at h
  cases h
  exact T.len hf.now
/-- read as any slice, in every world that keeps the blocks of D -/
theorem Own.sl (h : Own T e B D w v xs) : Sl T w v xs := by
  obtain ⟨css, h1, h2, h3, h5, h4⟩ := h
  have hl := Own.lens h2 h4
  have hcells := h1
  obtain ⟨g1, g2⟩ := h1
  rcases g2 with ⟨rfl, h0⟩ | ⟨g, cap, cur, rfl, r1, r2, r3, r4, r5, r6⟩
  · obtain rfl := List.eq_nil_of_length_eq_zero h0
    exact Sl.nil _ _
  · refine ⟨_, cap, rfl, r3, r4, h3, fun i x hx => ?_⟩
    obtain ⟨cs, hc, hf⟩ := h4 i x hx
    exact ⟨_, cs, rfl, hf.now, fun j u hu => hcells.cells (g := g) rfl _ _ (flat_at _ css i cs hl hc j u hu)⟩
theorem Own.far (h : Own T e B D w v xs) : Far D (fun w => Sl T w v xs) w := fun w2 s2 h2 => (h.keep s2 h2).sl
end

/-! ### append -/
section
variable {P : Program} {α : Type} {T : Ty α} {B : Nat} {w0 W : World} {v : Value} {xs : List α}
/-- what one element of a row's type is, in the program -/
structure ElemOk (P : Program) (T : Ty α) (t e bytes : Nat) : Prop where
  ut : P.underlying t = some (.slice e)
  info : ∃ i z, P.info? e = some i ∧ i.zero = some z ∧ i.size = T.sz ∧ i.bytes = bytes ∧ z.cells.size = T.sz
  b0 : 0 < bytes
theorem ElemOk.of {P : Program} {T : Ty α} {t e bytes : Nat} {z : Value} (ut : P.underlying t = some (.slice e)) (h : (P.info? e).map (fun i => (i.zero, i.size, i.bytes)) = some (some z, T.sz, bytes)) (hz : z.cells.size = T.sz) (b0 : 0 < bytes) : ElemOk P T t e bytes := by
  obtain ⟨i, hi, h1, h2, h3⟩ := info_parts h
  exact ⟨ut, ⟨i, z, hi, h1, h2, h3, hz⟩, b0⟩

theorem Own.push {w' : World} {e : TypeId} {D : Nat → Prop} {v' : Value} {x : α} {cs : List Value} (hlen : xs.length + 1 ≤ LB) {css : List (List Value)} (hD : ∀ b, W.heap.size ≤ b → D b) (h5 : ∀ k, v.ownBlock = some k → D k)
    (h2 : css.length = xs.length) (h4 : ∀ (i : Nat) x, xs[i]? = some x → ∃ cs, css[i]? = some cs ∧ Far (fun b => D b ∧ some b ≠ v.ownBlock) (fun w => T.R w x cs) W) (hown : w'.ownsRow B e T.sz v' (xs.length + 1) (css.flatten ++ cs))
    (hg : W.grownBy w' v.ownBlock) (hat : v'.ownBlock = v.ownBlock ∨ ∃ k, v'.ownBlock = some k ∧ W.heap.size ≤ k) (hx : Far (fun b => D b ∧ some b ≠ v.ownBlock) (fun w => T.R w x cs) W) : Own T e B D w' v' (xs ++ [x]) := by
  have hmv : ∀ {R : World → Prop}, Far (fun b => D b ∧ some b ≠ v.ownBlock) R W → Far (fun b => D b ∧ some b ≠ v'.ownBlock) R w' := fun h => by
    refine (h.on hg.size fun b h1 h2 => hg.block b h1 h2.2).mono fun b _ hb => ⟨hb.1.1, ?_⟩
    rcases hat with e | ⟨k, e, hk⟩
    · rw [e]; exact hb.1.2
    · rw [e]; intro e'; injection e' with e'; have := hb.2; omega
  refine ⟨css ++ [cs], ?_, by simp [h2], by simpa using hlen, fun k hk => ?_, fun i y hy => ?_⟩
  · rw [List.length_append, List.flatten_append]; simpa using hown
  · rcases hat with e | ⟨k', e, hk'⟩
    · exact h5 k (by rw [← e]; exact hk)
    · rw [e] at hk; injection hk with hk; exact hD k (by omega)
  · by_cases hi : i < xs.length
    · rw [List.getElem?_append_left hi] at hy
      obtain ⟨c, hc, hf⟩ := h4 i y hy
      exact ⟨c, by rw [List.getElem?_append_left (by omega)]; exact hc, hmv hf⟩
    · have hi' : i = xs.length := by
        have := (List.getElem?_eq_some_iff.1 hy).1
        simp at this; omega
      subst hi'
      simp at hy; subst hy
      exact ⟨cs, by rw [List.getElem?_append_right (by omega)]; simp [h2], hmv hx⟩

/-- append(v, ys...): ys is read. -/
theorem run_appAll (t e bytes ty : Nat) (E : ElemOk P T t e bytes) (hone : T.sz = 1) (u : Value) (ys : List α) {D : Nat → Prop}
    (HO : Own T e B D W v xs) (hD : ∀ b, W.heap.size ≤ b → D b) (HY : Sl T W u ys) (hfar0 : ∀ y u, y ∈ ys → T.R W y [u] → Far (fun b => D b ∧ some b ≠ v.ownBlock) (fun w => T.R w y [u]) W) (hu : u = .slice none 0 0 ∨ ∃ ad n c, u = .slice (some ad) n c)
    (hbase : B ≤ W.heap.size) (hl : (xs.length + ys.length) * bytes ≤ 140737488355328) :
    ∃ v1 w1, (Builtin.append_ #[t, t] ty #[v, u]).run P W = .ok v1 w1 ∧ Own T e B D w1 v1 (xs ++ ys) ∧ W.grownBy w1 v.ownBlock ∧ (v1.ownBlock = v.ownBlock ∨ ∃ b, v1.ownBlock = some b ∧ W.heap.size ≤ b) := by
  obtain ⟨i0, z, hi, hz0, hz1, hz2, hzs⟩ := E.info
  have HO' := HO
  obtain ⟨css, h1, h2, h3, h5, h4⟩ := HO'
  rcases hu with rfl | ⟨ad, n, c, rfl⟩
  · obtain ⟨A, c, he, _, _, _, _⟩ := HY
    injection he with e1 e2 e3
    obtain rfl := List.eq_nil_of_length_eq_zero e2.symm
    exact ⟨v, W, run_append_owned_none (P := P) W B t ty e i0 T.sz E.ut hi v xs.length css.flatten h1, by rwa [List.append_nil], World.grownBy.refl _ _, .inl rfl⟩
  · obtain ⟨A, c', he, hc1, hc2, hc3, hrow⟩ := HY
    injection he with e1 e2 e3
    subst e1 e2 e3
    have hb0 := E.b0
    have hlen : xs.length + ys.length ≤ 140737488355328 := Nat.le_trans (Nat.le_mul_of_pos_right _ hb0) hl
    -- the cells of ys
    have hcells : ∃ us : List Value, us.length = ys.length ∧ ∀ (i : Nat) y, ys[i]? = some y → ∃ u, us[i]? = some u ∧ W.cell? (ad.add i) = some u ∧ T.R W y [u] := by
      refine ⟨(List.range ys.length).map fun i => (W.cell? (ad.add i)).getD default, by simp, fun i y hy => ?_⟩
      obtain ⟨ad', u, e', hr, hc⟩ := hrow.one hone hy
      cases e'
      have hi : i < ys.length := (List.getElem?_eq_some_iff.1 hy).1
      exact ⟨u, by simp [hi, hc], hc, hr⟩
    obtain ⟨us, hul, hus⟩ := hcells
    have hfar : ∀ (i : Nat) y u, ys[i]? = some y → us[i]? = some u → Far (fun b => D b ∧ some b ≠ v.ownBlock) (fun w => T.R w y [u]) W := by
      intro i y u hy hu
      obtain ⟨u', hu', hc, hr⟩ := hus i y hy
      rw [hu] at hu'; cases hu'
      exact hfar0 y u (List.mem_of_getElem? hy) hr
    have hnews : ∀ j u, us[j]? = some u → W.cell? (ad.add j) = some u := by
      intro j u hj
      have hlt : j < ys.length := by rw [← hul]; exact (List.getElem?_eq_some_iff.1 hj).1
      obtain ⟨u', h', hc, _⟩ := hus j ys[j] (List.getElem?_eq_getElem hlt)
      rw [hj] at h'; cases h'
      exact hc
    have hone' : ∀ u ∈ us, u.oneCell' = true := by
      intro u hu
      obtain ⟨j, hj, rfl⟩ := List.mem_iff_getElem.1 hu
      obtain ⟨u', h', _, hr⟩ := hus j ys[j] (List.getElem?_eq_getElem (by omega))
      rw [List.getElem?_eq_getElem hj] at h'; cases h'
      exact T.one hr _ List.mem_cons_self
    obtain ⟨v1, w1, hrun, hown, hg, _, hat⟩ := run_append_own_at (P := P) W B t ty e i0 z T.sz bytes E.ut hi hz0 hz1 hz2 hzs T.pos v xs.length css.flatten h1 ad ys.length c us (by rw [hone, Nat.mul_one]; exact hul)
      hnews hone' (by simp only [maxLen]; omega) hl hbase
    have hat2 : v1.ownBlock = v.ownBlock ∨ ∃ b, v1.ownBlock = some b ∧ W.heap.size ≤ b := by
      rcases hat with hat | hat
      · exact .inl hat
      · exact .inr ⟨_, hat, Nat.le_refl _⟩
    have hmv : ∀ {R : World → Prop}, Far (fun b => D b ∧ some b ≠ v.ownBlock) R W → Far (fun b => D b ∧ some b ≠ v1.ownBlock) R w1 := fun h => by
      refine (h.on hg.size fun b h1 h2 => hg.block b h1 h2.2).mono fun b _ hb => ⟨hb.1.1, ?_⟩
      rcases hat2 with e | ⟨k, e, hk⟩
      · rw [e]; exact hb.1.2
      · rw [e]; intro e'; injection e' with e'; have := hb.2; omega
    have hfl : (us.map fun u => [u]).flatten = us := by
      clear hnews hone' hfar hus hown hul
      induction us with
      | nil => rfl
      | cons a l ih => simp [ih]
    refine ⟨v1, w1, hrun, ⟨css ++ us.map fun u => [u], ?_, by simp [h2, hul], by simp [LB]; omega, fun k hk => ?_, fun i y hy => ?_⟩, hg, hat2⟩
    · rw [List.length_append, List.flatten_append, hfl]; exact hown
    · rcases hat2 with e | ⟨k', e, hk'⟩
      · exact h5 k (by rw [← e]; exact hk)
      · rw [e] at hk; injection hk with hk; exact hD k (by omega)
    · by_cases hi : i < xs.length
      · rw [List.getElem?_append_left hi] at hy
        obtain ⟨c, hc, hf⟩ := h4 i y hy
        exact ⟨c, by rw [List.getElem?_append_left (by omega)]; exact hc, hmv hf⟩
      · rw [List.getElem?_append_right (by omega)] at hy
        obtain ⟨u, hu, _, _⟩ := hus _ y hy
        exact ⟨[u], by rw [List.getElem?_append_right (by omega), List.getElem?_map, h2, hu]; rfl, hmv (hfar _ y u hy hu)⟩

theorem wpList_appAll {ops : Array Oper} {rest : List Oper} {o : Oper} {a : Act} {Q : Exit → Act → World → Prop} (hgd : o.guard = none) (s x : Operand) (t e bytes : Nat)
    (ho : o.op = .call { callee := .builtin .append, args := #[s, x], argTypes := #[t, t] }) (E : ElemOk P T t e bytes) (hone : T.sz = 1)
    (hs : a.eval s = v) (u : Value) (ys : List α) (hx : a.eval x = u) {D : Nat → Prop}
    (HO : Own T e B D W v xs) (hD : ∀ b, W.heap.size ≤ b → D b) (HY : Sl T W u ys) (hfar0 : ∀ y u, y ∈ ys → T.R W y [u] → Far (fun b => D b ∧ some b ≠ v.ownBlock) (fun w => T.R w y [u]) W) (hu : u = .slice none 0 0 ∨ ∃ ad n c, u = .slice (some ad) n c)
    (HB : Below B w0 W) (hbase : B ≤ W.heap.size) (hl : (xs.length + ys.length) * bytes ≤ 140737488355328)
    (h : ∀ v1 w1, Own T e B D w1 v1 (xs ++ ys) → Below B w0 w1 → W.grownBy w1 v.ownBlock → (v1.ownBlock = v.ownBlock ∨ ∃ b, v1.ownBlock = some b ∧ W.heap.size ≤ b) → wpList P ops Q rest (a.put o.dst v1) w1) :
    wpList P ops Q (o :: rest) a W := by
  refine wpList_plain hgd fun K hK => ?_
  obtain ⟨v1, w1, hr, h2, h3, h4⟩ := run_appAll t e bytes o.type E hone u ys HO hD HY hfar0 hu hbase hl
  unfold Oper.wp execOp
  simp only [ho, resolve, invoke, builtin, Sem.run_bind, Sem.run_pure, Result.andThen_ok, List.map_toArray, List.map_cons, List.map_nil, hs, hx, hr]
  exact hK _ _ (h v1 w1 h2 (HB.grown h3 hbase (fun k hk => (HO.lt k hk).1)) h3 h4)

/-- append(v, x): the goal's world bears the variadic's box. -/
theorem wpList_app {ops : Array Oper} {rest : List Oper} {o : Oper} {a : Act} {Q : Exit → Act → World → Prop} (hgd : o.guard = none) (s x : Operand) (t e bytes : Nat)
    (ho : o.op = .call { callee := .builtin .append, args := #[s, x], argTypes := #[t, t] }) (E : ElemOk P T t e bytes)
    (hs : a.eval s = v) (y : α) (cs : Array Value) (N : Nat) (hN : W.heap.size = N) (hx : a.eval x = .slice (some ⟨N, 0, none⟩) 1 1) {D : Nat → Prop}
    (HO : Own T e B D W v xs) (hD : ∀ b, W.heap.size ≤ b → D b) (HY : Far (fun b => D b ∧ some b ≠ v.ownBlock) (fun w => T.R w y cs.toList) W) (HB : Below B w0 W) (hbase : B ≤ W.heap.size) (hl : (xs.length + 1) * bytes ≤ 140737488355328)
    (h : ∀ v1 w1, Own T e B D w1 v1 (xs ++ [y]) → Below B w0 w1 → W.grownBy w1 v.ownBlock → (v1.ownBlock = v.ownBlock ∨ ∃ b, v1.ownBlock = some b ∧ W.heap.size ≤ b) → wpList P ops Q rest (a.put o.dst v1) w1) :
    wpList P ops Q (o :: rest) a (W.alloc (.cells cs e)) := by
  subst hN
  obtain ⟨i0, z, hi, hz0, hz1, hz2, hzs⟩ := E.info
  have HO' := HO
  obtain ⟨css, h1, h2, h3, h5, h4⟩ := HO'
  have hb0 := E.b0
  have hlen : xs.length + 1 ≤ 140737488355328 := Nat.le_trans (Nat.le_mul_of_pos_right _ hb0) hl
  have hcl : cs.toList.length = T.sz := T.len HY.now
  refine wpList_append_own_at (W.alloc (.cells cs e)) hgd s x t ho B e i0 z T.sz bytes E.ut hi hz0 hz1 hz2 hzs T.pos v xs.length css.flatten hs (h1.alloc _) ⟨W.heap.size, 0, none⟩ 1 1 cs.toList hx (by rw [hcl]; omega)
    (World.news_of_block (cs := cs) (t := e) (fr := (0, 0)) (heap_alloc_new W _)) (T.one HY.now) (by simp only [maxLen]; omega) hl (by simp; omega) ?_
  intro v1 w1 hown hg _ hat
  have hg2 : W.grownBy w1 v.ownBlock := World.grownBy.trans (World.grownBy_alloc W _ _) hg
  have hat2 : v1.ownBlock = v.ownBlock ∨ ∃ b, v1.ownBlock = some b ∧ W.heap.size ≤ b := by
    rcases hat with hat | hat
    · exact .inl hat
    · exact .inr ⟨_, hat, by simp⟩
  exact h v1 w1 (Own.push (by simpa [LB] using hlen) hD h5 h2 h4 hown hg2 hat2 HY) ((HB.alloc hbase _).grown hg (by simp; omega) (fun k hk => (HO.lt k hk).1)) hg2 hat2
end
end Gk
set_option linter.unusedVariables false
set_option linter.unusedSimpArgs false
namespace Go.Proofs.Ytigbfankkmmnbaa
open Go.RowKit Gk

theorem getD_of {α : Type} {xs : List α} {k : Nat} {x : α} (h : xs[k]? = some x) (d : α) : xs.getD k d = x := by simp [List.getD, h]
theorem at_lt {α : Type} (xs : List α) {k : Nat} (h : k < xs.length) : ∃ x, xs[k]? = some x := ⟨xs[k], List.getElem?_eq_getElem h⟩
theorem take_next {α : Type} {xs : List α} {k : Nat} {x : α} (h : xs[k]? = some x) : xs.take (k + 1) = xs.take k ++ [x] := by rw [List.take_add_one, h]; rfl

set_option maxHeartbeats 400000 in
theorem has_calls (v : Value) (xs : List ByteArray) (s : ByteArray) (w : World) (h : Sl Ty.str w v xs) :
    Calls Try.prog 78 #[v, .string s] w fun e w' => e = .returned (.bool (dec (s ∈ xs))) ∧ w = w' := by
  obtain ⟨A, c, rfl, hc, hcm, hlb, hr⟩ := h
  unfold LB at hlb
  go_enter Try.func78, Try.ntmps78
  go_wp2
  go_loop [9] (fun i => ∃ k : Nat, k ≤ xs.length ∧ i = .int .i64 k ∧ Hid (s ∉ xs.take k)) (fun i => xs.length - (intOf i).toNat)
  case atStart => exact ⟨0, Nat.zero_le _, rfl, by simp [Hid]⟩
  case round =>
    obtain ⟨k, hk, rfl, hH⟩ := hrel
    by_cases hlt : k < xs.length
    · obtain ⟨x, hx⟩ := at_lt xs hlt
      obtain ⟨ad, rfl, hxs, hcell⟩ := hr.str hx
      have HX := Lib.hid hx; clear hx
      by_cases he : x = s
      · have hb := str_eq he
        have HE := Lib.hid he; clear he
        go_wp2
        go_ret
        exact ⟨ret_bool (dec_true (by rw [← HE.out]; exact List.mem_of_getElem? HX.out)), rfl⟩
      · have hb := str_ne he
        have HE := Lib.hid he; clear he
        go_wp2
        go_round
        case rel => exact ⟨k + 1, by omega, by go_num, by
          unfold Hid at *; rw [take_next HX]; simp only [List.mem_append, List.mem_singleton, not_or]; exact ⟨hH, fun e => HE e.symm⟩⟩
        case measure => simp [intOf]; omega
    · have hH2 := Lib.hid hH; clear hH
      go_wp2
      go_ret
      exact ⟨ret_bool (dec_false (by have := hH2.out.out; rwa [List.take_of_length_le (by omega)] at this)), rfl⟩

/-- where a name stands: -1, or a place of the list -/
def PlaceIs (xs : List ByteArray) (s : ByteArray) (r : Int) : Prop := (r = -1 ∧ s ∉ xs) ∨ ∃ k : Nat, r = k ∧ xs[k]? = some s ∧ s ∉ xs.take k
def placeEnd (xs : List ByteArray) (s : ByteArray) (w : World) (e : Ending) (w' : World) : Prop := ∃ r, e = .returned (.int .i64 r) ∧ PlaceIs xs s r ∧ w = w'
set_option maxHeartbeats 400000 in
theorem place_calls (v : Value) (xs : List ByteArray) (s : ByteArray) (w : World) (h : Sl Ty.str w v xs) :
    Calls Try.prog 81 #[v, .string s] w (placeEnd xs s w) := by
  obtain ⟨A, c, rfl, hc, hcm, hlb, hr⟩ := h
  unfold LB at hlb
  go_enter Try.func81, Try.ntmps81
  go_wp2
  go_loop [9] (fun i => ∃ k : Nat, k ≤ xs.length ∧ i = .int .i64 k ∧ Hid (s ∉ xs.take k)) (fun i => xs.length - (intOf i).toNat)
  case atStart => exact ⟨0, Nat.zero_le _, rfl, by simp [Hid]⟩
  case round =>
    obtain ⟨k, hk, rfl, hH⟩ := hrel
    by_cases hlt : k < xs.length
    · obtain ⟨x, hx⟩ := at_lt xs hlt
      obtain ⟨ad, rfl, hxs, hcell⟩ := hr.str hx
      have HX := Lib.hid hx; clear hx
      by_cases he : x = s
      · have hb := str_eq he
        have HE := Lib.hid he; clear he
        go_wp2
        go_ret
        exact ⟨_, rfl, .inr ⟨k, rfl, by rw [← HE.out]; exact HX.out, hH⟩, rfl⟩
      · have hb := str_ne he
        have HE := Lib.hid he; clear he
        go_wp2
        go_round
        case rel => exact ⟨k + 1, by omega, by go_num, by
          unfold Hid at *; rw [take_next HX]; simp only [List.mem_append, List.mem_singleton, not_or]; exact ⟨hH, fun e => HE e.symm⟩⟩
        case measure => simp [intOf]; omega
    · have hH2 := Lib.hid hH; clear hH
      go_wp2
      go_ret
      exact ⟨_, rfl, .inl ⟨rfl, by have := hH2.out.out; rwa [List.take_of_length_le (by omega)] at this⟩, rfl⟩

end Go.Proofs.Ytigbfankkmmnbaa
