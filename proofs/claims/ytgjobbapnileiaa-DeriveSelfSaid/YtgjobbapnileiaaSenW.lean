/- All short sentences: how what is known lies in memory. -/
import Derived.Test.YtgjobbapnileiaaMade
import Derived.Test.YtgjobbapnileiaaShM
set_option linter.unusedVariables false
set_option linter.unusedSimpArgs false
namespace Go.Proofs.Ytgjobbapnileiaa
open Go.RowKit Gk

/-- all that lay stays, but for the row of the rules -/
structure SenB (wS : World) (R : Nat) (w : World) : Prop where
  os : w.os = wS.os
  tape : w.tape = wS.tape
  output : w.output = wS.output
  size : wS.heap.size ≤ w.heap.size
  block : ∀ c, c < wS.heap.size → c ≠ R → w.heap[c]? = wS.heap[c]?
  ki : KI wS w
theorem SenB.refl (wS : World) (R : Nat) : SenB wS R wS := ⟨rfl, rfl, rfl, Nat.le_refl _, fun _ _ _ => rfl, KI.refl _⟩
theorem SenB.below {wS w w' : World} {R : Nat} (h : SenB wS R w) (k : Below w.heap.size w w') : SenB wS R w' :=
  ⟨k.os.trans h.os, k.tape.trans h.tape, k.output.trans h.output, Nat.le_trans h.size k.size, fun c hc hr => by have := h.size; rw [k.block c (by omega), h.block c hc hr], h.ki.trans (KI.below k)⟩
theorem SenB.to {w0 wS w : World} {R : Nat} (h : SenB wS R w) (h0 : Below w0.heap.size w0 wS) (hR : w0.heap.size ≤ R) : Below w0.heap.size w0 w :=
  ⟨h.os.trans h0.os, h.tape.trans h0.tape, h.output.trans h0.output, Nat.le_trans h0.size h.size, fun c hc => by have := h0.size; rw [h.block c (by omega) (by omega), h0.block c hc]⟩
/-- the rules' bags -/
structure SenC (wS : World) (R : Nat) (rules : List Sents) (cells : Array Value) (w : World) : Prop where
  box : Box w R cells 50
  size : cells.size = rules.length
  bags : ∀ (s : Nat) l, rules[s]? = some l → ∃ v, cells[s]? = some v ∧ Bag wS.heap.size w v l
  apart : ∀ (s s' : Nat) (v v' : Value) (g : Nat), cells[s]? = some v → cells[s']? = some v' → v.ownBlock = some g → v'.ownBlock = some g → s = s'
  base : SenB wS R w
  lt : R < wS.heap.size
theorem SenC.at_ {wS w : World} {R : Nat} {rules : List Sents} {cells : Array Value} (h : SenC wS R rules cells w) : RulesAt w R cells rules :=
  ⟨h.box, h.size, fun s l hl => by obtain ⟨v, hv, hb⟩ := h.bags s l hl; exact ⟨v, hv, hb.mono fun _ _ => Nat.zero_le _⟩⟩
theorem SenC.below {wS w w' : World} {R : Nat} {rules : List Sents} {cells : Array Value} (h : SenC wS R rules cells w) (k : Below w.heap.size w w') : SenC wS R rules cells w' :=
  ⟨h.box.below k, h.size, fun s l hl => by obtain ⟨v, hv, hb⟩ := h.bags s l hl; exact ⟨v, hv, hb.below k⟩, h.apart, h.base.below k, h.lt⟩
theorem SenC.add {wS w w' : World} {R : Nat} {rules : List Sents} {cells : Array Value} (h : SenC wS R rules cells w) {s : Nat} {v v' : Value} {l' : Sents} (hv : cells[s]? = some v) (hs : s < rules.length)
    (hb : Box w' R (cells.setIfInBounds s v') 50) (hB : Bag wS.heap.size w' v' l') (hE : AddEff w w' R v.ownBlock) (hat : v'.ownBlock = v.ownBlock ∨ ∃ k, v'.ownBlock = some k ∧ w.heap.size ≤ k) :
    SenC wS R (rules.set s l') (cells.setIfInBounds s v') w' := by
  have hsz := h.base.size
  have hcs := h.size
  have hown : ∀ (s' : Nat) (u : Value) (g : Nat), cells[s']? = some u → u.ownBlock = some g → g < w.heap.size ∧ wS.heap.size ≤ g := fun s' u g hu hg => by
    have hlt := (Array.getElem?_eq_some_iff.1 hu).1
    obtain ⟨v2, hv2, hb2⟩ := h.bags s' _ (List.getElem?_eq_getElem (by omega))
    rw [hu] at hv2; injection hv2 with hv2; subst hv2
    have := hb2.lt g hg; exact ⟨this.2, this.1⟩
  refine ⟨hb, by simp [h.size], fun s' l hl => ?_, fun s1 s2 v1 v2 g h1 h2 g1 g2 => ?_, ⟨hE.os.trans h.base.os, hE.tape.trans h.base.tape, hE.output.trans h.base.output, Nat.le_trans hsz hE.ki.size, fun c hc hr => ?_, h.base.ki.trans hE.ki⟩, h.lt⟩
  · by_cases e : s' = s
    · subst e
      rw [List.getElem?_set_self hs] at hl
      injection hl with hl; subst hl
      exact ⟨v', by rw [Array.getElem?_setIfInBounds_self_of_lt (by omega)], hB⟩
    · rw [List.getElem?_set_ne (fun e' => e e'.symm)] at hl
      obtain ⟨u, hu, hbu⟩ := h.bags s' l hl
      refine ⟨u, by rw [Array.getElem?_setIfInBounds_ne (fun e' => e e'.symm)]; exact hu, hbu.keep hE.ki fun g hg => ?_⟩
      have hg2 := hown s' u g hu hg
      refine hE.block g hg2.1 (by have := h.lt; omega) (fun e' => e ?_)
      exact h.apart s' s u v g hu hv hg e'.symm
  · have key : ∀ (s' : Nat) (u : Value), (cells.setIfInBounds s v')[s']? = some u → s' ≠ s → cells[s']? = some u := fun s' u hu hne => by rwa [Array.getElem?_setIfInBounds_ne (fun e' => hne e'.symm)] at hu
    have keys : ∀ u, (cells.setIfInBounds s v')[s]? = some u → u = v' := fun u hu => by
      rw [Array.getElem?_setIfInBounds_self_of_lt (by omega)] at hu; injection hu with hu; exact hu.symm
    have hnew : ∀ (s' : Nat) (u : Value), s' ≠ s → cells[s']? = some u → u.ownBlock = some g → v'.ownBlock = some g → False := fun s' u hne hu hg hg' => by
      rcases hat with e | ⟨k, e, hk⟩
      · exact hne (h.apart s' s u v g hu hv hg (e ▸ hg'))
      · rw [hg'] at e; injection e with e; have := (hown s' u g hu hg).1; omega
    by_cases e1 : s1 = s
    · by_cases e2 : s2 = s
      · rw [e1, e2]
      · subst e1; rw [keys _ h1] at g1; exact (hnew s2 v2 e2 (key _ _ h2 e2) g2 g1).elim
    · by_cases e2 : s2 = s
      · subst e2; rw [keys _ h2] at g2; exact (hnew s1 v1 e1 (key _ _ h1 e1) g1 g2).elim
      · exact h.apart s1 s2 v1 v2 g (key _ _ h1 e1) (key _ _ h2 e2) g1 g2
  · rw [hE.block c (by omega) hr (fun e => by have := (hown s v c hv e.symm).2; omega), h.base.block c hc hr]
end Go.Proofs.Ytgjobbapnileiaa
