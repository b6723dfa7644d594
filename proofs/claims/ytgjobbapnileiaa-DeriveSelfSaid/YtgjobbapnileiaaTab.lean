/- A map from places (a rule and where it begins) to sets. -/
import Derived.Test.YtgjobbapnileiaaMap
import Derived.DeepKeys4
set_option linter.unusedVariables false
set_option linter.unusedSimpArgs false
namespace Gk
open Go Go.RowKit Go.Maps
section
variable {P : Program} {k e t : TypeId}
abbrev Pl := Int × Int
def Pl.ok (p : Pl) : Prop := Ty.i64 p.1 ∧ Ty.i64 p.2
def Pl.val (p : Pl) : Value := .agg #[.int .i64 p.1, .int .i64 p.2]
def mapElem (v : Value) : Option (DataW Unit × List MemPlace) :=
  match v with
  | .map none => some (.nil, [])
  | .map (some b) => some (.lit (.int .i64 b), [])
  | _ => none
theorem mapElem_inv {v : Value} {ps : List MemPlace} {b : Nat} (h : mapElem v = some (.lit (.int .i64 b), ps)) : v = .map (some b) := by
  unfold mapElem at h
  split at h <;> simp at h
  obtain ⟨h, _⟩ := h
  have : _ = b := Int.ofNat.inj h
  rw [this]
theorem mapElem_nil {v : Value} {ps : List MemPlace} (h : mapElem v = some (.nil, ps)) : v = .map none := by
  unfold mapElem at h
  split at h <;> simp at h
  rfl
/-- the key type's law -/
structure PlKey (P : Program) (k : TypeId) (lit : Pl → Lit) : Prop where
  keyed : Keyed P k
  of : ∀ p, Pl.ok p → keyOf P k p.val = some (lit p)
theorem PlKey.ne {lit : Pl → Lit} (h : PlKey P k lit) {p q : Pl} (hp : p.ok) (hq : q.ok) (hne : p ≠ q) : lit p ≠ lit q := fun e => hne (by
  have h1 := h.of p hp
  have h2 := h.of q hq
  rw [e] at h1
  have := h.keyed.inj h1 h2
  simp only [Pl.val, Value.agg.injEq, Array.mk.injEq, List.cons.injEq, Value.int.injEq, and_true, true_and] at this
  exact Prod.ext this.1 this.2)
structure TabD (lit : Pl → Lit) (D : DataW Unit) (W : List Pl) (E : Pl → Nat) : Prop where
  nodup : W.Nodup
  ok : ∀ p ∈ W, p.ok
  has : ∀ p : Pl, p.ok → Maps.has D (lit p) = decide (p ∈ W)
  size : Maps.size D = W.length
  at_ : ∀ p ∈ W, ∀ z, D.atKey (lit p) z = .lit (.int .i64 (E p))
def TabAt (P : Program) (k : TypeId) (lit : Pl → Lit) (w : World) (m : Nat) (W : List Pl) (E : Pl → Nat) : Prop := ∃ D : DataW Unit, w.ownsMap P k mapElem m W.length D ∧ TabD lit D W E
theorem TabAt.new (lit : Pl → Lit) (w : World) (E : Pl → Nat) : TabAt P k lit (w.alloc (.map #[] 0)) w.heap.size [] E :=
  ⟨_, World.ownsMap_made w P k mapElem, by simp, by simp, fun p _ => by simp [Maps.has], rfl, by simp⟩
variable {lit : Pl → Lit} {w : World} {m : Nat} {W : List Pl} {E : Pl → Nat}
theorem TabAt.lt (h : TabAt P k lit w m W E) : m < w.heap.size := by obtain ⟨D, h, _⟩ := h; exact h.lt
theorem TabAt.keep {w' : World} (h : TabAt P k lit w m W E) (hb : w'.heap[m]? = w.heap[m]?) : TabAt P k lit w' m W E := by
  obtain ⟨D, h, r⟩ := h; exact ⟨D, ownsMap_keep h hb, r⟩
theorem TabAt.look_ok (h : TabAt P k lit w m W E) (K : PlKey P k lit) (ht : P.underlying t = some (.map k e)) (hz : (zeroValue e).run P w = .ok (.map none) w) {p : Pl} (hp : p.ok) :
    ∃ v, (Instr.lookup t (.map (some m)) p.val true).run P w = .ok (.tuple #[v, .bool (decide (p ∈ W))]) w ∧ (p ∈ W → v = .map (some (E p))) ∧ (p ∉ W → v = .map none) := by
  obtain ⟨D, h, hS⟩ := h
  obtain ⟨v, ps, hr, hv⟩ := h.look_ok K.keyed ht hz (zd := .nil) (zp := []) rfl (K.of p hp)
  rw [hS.has p hp] at hr
  refine ⟨v, hr, fun hm => ?_, fun hm => ?_⟩
  · rw [hS.at_ p hm] at hv; exact mapElem_inv hv
  · rw [atKey_of_not_has (by rw [hS.has p hp]; simpa using hm)] at hv; exact mapElem_nil hv
theorem TabAt.look (h : TabAt P k lit w m W E) (K : PlKey P k lit) (ht : P.underlying t = some (.map k e)) (hz : (zeroValue e).run P w = .ok (.map none) w) {p : Pl} (hp : p.ok) (hm : p ∈ W) :
    (Instr.lookup t (.map (some m)) p.val false).run P w = .ok (.map (some (E p))) w := by
  obtain ⟨D, h, hS⟩ := h
  obtain ⟨v, ps, hr, hv⟩ := h.lookup K.keyed ht hz (zd := .nil) (zp := []) rfl (K.of p hp)
  rw [hS.at_ p hm] at hv
  rw [mapElem_inv hv] at hr; exact hr
def setE (E : Pl → Nat) (p : Pl) (b : Nat) : Pl → Nat := fun q => if q = p then b else E q
theorem TabAt.put (h : TabAt P k lit w m W E) (K : PlKey P k lit) (ht : P.underlying t = some (.map k e)) {p : Pl} (hp : p.ok) (hm : p ∉ W) (hn : W.length < maxLen) (b : Nat) :
    ∃ w', (Instr.mapUpdate t (.map (some m)) p.val (.map (some b))).run P w = .ok () w' ∧ TabAt P k lit w' m (W ++ [p]) (setE E p b) ∧ w.grownBy w' (some m) := by
  obtain ⟨D, h, hS⟩ := h
  obtain ⟨w', h1, h2, h3⟩ := h.update K.keyed ht hn (K.of p hp) (val := .map (some b)) (d := .lit (.int .i64 b)) (ps := []) rfl
  have hne : ∀ q ∈ W, q ≠ p := fun q hq e => hm (e ▸ hq)
  refine ⟨w', h1, ⟨_, by simpa using h2, nodup_snoc hS.nodup hm, fun q hq => ?_, fun q hq => ?_, ?_, fun q hq z => ?_⟩, h3⟩
  · rcases List.mem_append.1 hq with hq | hq
    · exact hS.ok q hq
    · simp at hq; subst hq; exact hp
  · by_cases e : q = p
    · subst e; rw [has_put_same h.isMap (K.keyed.key (K.of q hq))]; simp
    · rw [has_put_other (K.ne hq hp e), hS.has q hq]; simp [e]
  · rw [size_put (h.tidy K.keyed), hS.has p hp, hS.size]; simp [hm]
  · rcases List.mem_append.1 hq with hq | hq
    · rw [atKey_put_other (K.ne (hS.ok q hq) hp (hne q hq)), hS.at_ q hq]; simp [setE, hne q hq]
    · simp at hq; subst hq; rw [atKey_put_same h.isMap (K.keyed.key (K.of q hp))]; simp [setE]
end
end Gk
