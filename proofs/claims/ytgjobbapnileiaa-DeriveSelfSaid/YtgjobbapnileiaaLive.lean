/- live: the walk. -/
import Derived.Test.YtgjobbapnileiaaLiveM
import Derived.Test.YtgjobbapnileiaaSh
import Derived.Test.YtgjobbapnileiaaSen
import Derived.Test.YtgjobbapnileiaaDer
import Derived.Test.YtgjobbapnileiaaSame
set_option linter.unusedVariables false
set_option linter.unusedSimpArgs false
namespace Go.Proofs.Ytgjobbapnileiaa
open Go.RowKit Gk

theorem slOfBox {α : Type} {T : Ty α} {w : World} {b : Nat} {cs : Array Value} {e : TypeId} {xs : List α} (h : Box w b cs e) (hsz : T.sz = 1) (hl : xs.length ≤ 100000) (hx : ∀ (i : Nat) x, xs[i]? = some x → ∃ u, cs[i]? = some u ∧ T.R w x [u]) : Sl T w (.slice (some ⟨b, 0, none⟩) xs.length xs.length) xs := by
  refine ⟨_, _, rfl, Nat.le_refl _, by simp only [maxLen]; omega, by unfold LB; omega, fun i x hi => ?_⟩
  obtain ⟨u, hu, hr⟩ := hx i x hi
  refine ⟨_, [u], rfl, hr, fun j u' hj => ?_⟩
  match j, hj with
  | 0, hj =>
    simp at hj; subst hj
    rw [hsz, Addr.add_lit]
    simpa using h.cell i hu
theorem litInt {w : World} {b : Nat} {xs : List Int} (h : Box w b (xs.map (Value.int .i64)).toArray 3) (hl : xs.length ≤ 100000) (hi : ∀ x ∈ xs, Ty.i64 x) : Sl Ty.int w (.slice (some ⟨b, 0, none⟩) xs.length xs.length) xs :=
  slOfBox h rfl hl fun i x hx => ⟨.int .i64 x, by simp [hx], rfl, hi x (List.mem_of_getElem? hx)⟩
def exCfg : Cfg := ⟨[⟨#[97]⟩, ⟨#[98]⟩], [⟨#[83]⟩], exAlts⟩
theorem exOk : CfgOk exCfg := by
  refine ⟨rfl, fun al hal a ha k hk => ?_⟩
  have hal : al ∈ exAlts := hal
  simp only [exAlts, List.mem_cons, List.not_mem_nil, or_false] at hal
  subst hal
  simp only [List.mem_cons, List.not_mem_nil, or_false] at ha
  rcases ha with rfl | rfl
  · simp only [List.mem_cons, List.not_mem_nil, or_false] at hk
    rcases hk with rfl | rfl | rfl
    · exact .inl ⟨by decide, by decide⟩
    · exact .inr ⟨by decide, by decide⟩
    · exact .inl ⟨by decide, by decide⟩
  · simp at hk
theorem exSmall : Small 60 exCfg := by
  refine ⟨by decide, fun al hal => ?_⟩
  have hal : al ∈ exAlts := hal
  simp only [exAlts, List.mem_cons, List.not_mem_nil, or_false] at hal
  subst hal
  exact ⟨by decide, fun a ha => by
    simp only [List.mem_cons, List.not_mem_nil, or_false] at ha
    rcases ha with rfl | rfl <;> decide⟩
/-- the grammar, laid by hand -/
theorem exLaid (w : World) : CfgV (((((w.alloc (.cells #[.string ⟨#[97]⟩, .string ⟨#[98]⟩] 9)).alloc (.cells #[.string ⟨#[83]⟩] 9)).alloc (.cells #[.int .i64 0, .int .i64 (-1), .int .i64 1] 3)).alloc (.cells #[.slice (some ⟨w.heap.size + 2, 0, none⟩) 3 3, .slice none 0 0] 34)).alloc (.cells #[.slice (some ⟨w.heap.size + 3, 0, none⟩) 2 2] 28))
    (.agg #[.slice (some ⟨w.heap.size, 0, none⟩) 2 2, .slice (some ⟨w.heap.size + 1, 0, none⟩) 1 1, .slice (some ⟨w.heap.size + 1 + 1 + 1 + 1, 0, none⟩) 1 1]) exCfg := by
  have t1 := Box.new w #[.string ⟨#[97]⟩, .string ⟨#[98]⟩] 9
  have s1 : (w.alloc (.cells #[.string ⟨#[97]⟩, .string ⟨#[98]⟩] 9)).heap.size = w.heap.size + 1 := by simp
  generalize w.alloc (.cells #[.string ⟨#[97]⟩, .string ⟨#[98]⟩] 9) = w1 at *
  have t2 := Box.new w1 #[.string ⟨#[83]⟩] 9
  have s2 : (w1.alloc (.cells #[.string ⟨#[83]⟩] 9)).heap.size = w.heap.size + 2 := by simp; omega
  have t1' := t1.alloc (.cells #[.string ⟨#[83]⟩] 9)
  generalize w1.alloc (.cells #[.string ⟨#[83]⟩] 9) = w2 at *
  have t3 := Box.new w2 #[.int .i64 0, .int .i64 (-1), .int .i64 1] 3
  have s3 : (w2.alloc (.cells #[.int .i64 0, .int .i64 (-1), .int .i64 1] 3)).heap.size = w.heap.size + 3 := by simp; omega
  have t12 := t1'.alloc (.cells #[.int .i64 0, .int .i64 (-1), .int .i64 1] 3)
  have t22 := t2.alloc (.cells #[.int .i64 0, .int .i64 (-1), .int .i64 1] 3)
  generalize w2.alloc (.cells #[.int .i64 0, .int .i64 (-1), .int .i64 1] 3) = w3 at *
  have t4 := Box.new w3 #[.slice (some ⟨w.heap.size + 2, 0, none⟩) 3 3, .slice none 0 0] 34
  have s4 : (w3.alloc (.cells #[.slice (some ⟨w.heap.size + 2, 0, none⟩) 3 3, .slice none 0 0] 34)).heap.size = w.heap.size + 4 := by simp; omega
  have t13 := t12.alloc (.cells #[.slice (some ⟨w.heap.size + 2, 0, none⟩) 3 3, .slice none 0 0] 34)
  have t23 := t22.alloc (.cells #[.slice (some ⟨w.heap.size + 2, 0, none⟩) 3 3, .slice none 0 0] 34)
  have t33 := t3.alloc (.cells #[.slice (some ⟨w.heap.size + 2, 0, none⟩) 3 3, .slice none 0 0] 34)
  generalize w3.alloc (.cells #[.slice (some ⟨w.heap.size + 2, 0, none⟩) 3 3, .slice none 0 0] 34) = w4 at *
  have t5 := Box.new w4 #[.slice (some ⟨w.heap.size + 3, 0, none⟩) 2 2] 28
  have t14 := t13.alloc (.cells #[.slice (some ⟨w.heap.size + 3, 0, none⟩) 2 2] 28)
  have t24 := t23.alloc (.cells #[.slice (some ⟨w.heap.size + 3, 0, none⟩) 2 2] 28)
  have t34 := t33.alloc (.cells #[.slice (some ⟨w.heap.size + 3, 0, none⟩) 2 2] 28)
  have t44 := t4.alloc (.cells #[.slice (some ⟨w.heap.size + 3, 0, none⟩) 2 2] 28)
  rw [s1] at t24; rw [s2] at t34; rw [s3] at t44; rw [s4] at t5
  generalize w4.alloc (.cells #[.slice (some ⟨w.heap.size + 3, 0, none⟩) 2 2] 28) = w5 at *
  have h3 : Sl Ty.int w5 (.slice (some ⟨w.heap.size + 2, 0, none⟩) 3 3) [0, -1, 1] := litInt (xs := [0, -1, 1]) t34 (by decide) (fun x hx => by simp at hx; rcases hx with rfl | rfl | rfl <;> (unfold Ty.i64; omega))
  have h4 : Sl (Ty.slice Ty.int) w5 (.slice (some ⟨w.heap.size + 3, 0, none⟩) 2 2) [[0, -1, 1], []] := slOfBox (xs := [[0, -1, 1], []]) t44 rfl (by decide) fun i x hx => by
    match i, hx with
    | 0, hx => simp at hx; subst hx; exact ⟨_, rfl, _, rfl, h3⟩
    | 1, hx => simp at hx; subst hx; exact ⟨_, rfl, _, rfl, Sl.nil _ _⟩
  have h5 : Sl rowsT w5 (.slice (some ⟨w.heap.size + 1 + 1 + 1 + 1, 0, none⟩) 1 1) exAlts := slOfBox (xs := exAlts) t5 rfl (by decide) fun i x hx => by
    match i, hx with
    | 0, hx => simp [exAlts] at hx; subst hx; exact ⟨_, rfl, _, rfl, h4⟩
  refine ⟨_, _, _, rfl, ?_, ?_, h5⟩
  · exact slOfBox (xs := ([⟨#[97]⟩, ⟨#[98]⟩] : List ByteArray)) t14 rfl (by decide) fun i x hx => by
      match i, hx with
      | 0, hx => simp at hx; subst hx; exact ⟨_, rfl, rfl, by show ByteArray.size _ ≤ LB; unfold LB; decide⟩
      | 1, hx => simp at hx; subst hx; exact ⟨_, rfl, rfl, by show ByteArray.size _ ≤ LB; unfold LB; decide⟩
  · exact slOfBox (xs := ([⟨#[83]⟩] : List ByteArray)) t24 rfl (by decide) fun i x hx => by
      match i, hx with
      | 0, hx => simp at hx; subst hx; exact ⟨_, rfl, rfl, by show ByteArray.size _ ≤ LB; unfold LB; decide⟩
theorem exLists (w : World) : Sl (Ty.slice Ty.int) (((w.alloc (.cells #[.int .i64 0, .int .i64 1] 3)).alloc (.cells #[.int .i64 0, .int .i64 0, .int .i64 1, .int .i64 1] 3)).alloc (.cells #[.slice none 0 0, .slice (some ⟨w.heap.size, 0, none⟩) 2 2, .slice (some ⟨w.heap.size + 1, 0, none⟩) 4 4] 34)) (.slice (some ⟨w.heap.size + 2, 0, none⟩) 3 3) [[], [0, 1], [0, 0, 1, 1]] := by
  have t1 := Box.new w #[.int .i64 0, .int .i64 1] 3
  have s1 : (w.alloc (.cells #[.int .i64 0, .int .i64 1] 3)).heap.size = w.heap.size + 1 := by simp
  generalize w.alloc (.cells #[.int .i64 0, .int .i64 1] 3) = w1 at *
  have t2 := Box.new w1 #[.int .i64 0, .int .i64 0, .int .i64 1, .int .i64 1] 3
  have s2 : (w1.alloc (.cells #[.int .i64 0, .int .i64 0, .int .i64 1, .int .i64 1] 3)).heap.size = w.heap.size + 2 := by simp; omega
  have t1' := t1.alloc (.cells #[.int .i64 0, .int .i64 0, .int .i64 1, .int .i64 1] 3)
  generalize w1.alloc (.cells #[.int .i64 0, .int .i64 0, .int .i64 1, .int .i64 1] 3) = w2 at *
  have t3 := Box.new w2 #[.slice none 0 0, .slice (some ⟨w.heap.size, 0, none⟩) 2 2, .slice (some ⟨w.heap.size + 1, 0, none⟩) 4 4] 34
  have t12 := t1'.alloc (.cells #[.slice none 0 0, .slice (some ⟨w.heap.size, 0, none⟩) 2 2, .slice (some ⟨w.heap.size + 1, 0, none⟩) 4 4] 34)
  have t22 := t2.alloc (.cells #[.slice none 0 0, .slice (some ⟨w.heap.size, 0, none⟩) 2 2, .slice (some ⟨w.heap.size + 1, 0, none⟩) 4 4] 34)
  rw [s1] at t22; rw [s2] at t3
  refine slOfBox (xs := [[], [0, 1], [0, 0, 1, 1]]) t3 rfl (by decide) fun i x hx => ?_
  match i, hx with
  | 0, hx => simp at hx; subst hx; exact ⟨_, rfl, _, rfl, Sl.nil _ _⟩
  | 1, hx => simp at hx; subst hx; exact ⟨_, rfl, _, rfl, litInt (xs := [0, 1]) t12 (by decide) (fun x hx => by simp at hx; rcases hx with rfl | rfl <;> (unfold Ty.i64; omega))⟩
  | 2, hx => simp at hx; subst hx; exact ⟨_, rfl, _, rfl, litInt (xs := [0, 0, 1, 1]) t22 (by decide) (fun x hx => by simp at hx; rcases hx with rfl | rfl <;> (unfold Ty.i64; omega))⟩
theorem exDer (w : World) (xs : List Int) (hl : xs.length ≤ 100) (hi : ∀ x ∈ xs, Ty.i64 x) : Sl Ty.int ((w.alloc (.cells #[.int .i64 (-1)] 3)).alloc (.cells (xs.map (Value.int .i64)).toArray 3)) (.slice (some ⟨w.heap.size, 0, none⟩) 1 1) [-1] ∧ Sl Ty.int ((w.alloc (.cells #[.int .i64 (-1)] 3)).alloc (.cells (xs.map (Value.int .i64)).toArray 3)) (.slice (some ⟨w.heap.size + 1, 0, none⟩) xs.length xs.length) xs := by
  have t1 := Box.new w #[.int .i64 (-1)] 3
  have s1 : (w.alloc (.cells #[.int .i64 (-1)] 3)).heap.size = w.heap.size + 1 := by simp
  generalize w.alloc (.cells #[.int .i64 (-1)] 3) = w1 at *
  have t2 := Box.new w1 (xs.map (Value.int .i64)).toArray 3
  rw [s1] at t2
  exact ⟨litInt (xs := [-1]) (t1.alloc _) (by decide) (fun x hx => by simp at hx; subst hx; unfold Ty.i64; omega), litInt t2 (by omega) hi⟩
/-- what Sentences tells of the example -/
theorem exSen {w : World} {e : Ending} {w' : World} (h : senEnd exCfg 0 4 w e w') : ∃ v, e = .returned (.tuple #[v, .int .i64 0]) ∧ Bag w.heap.size w' v [[], [0, 1], [0, 0, 1, 1]] ∧ Below w.heap.size w w' := by
  obtain ⟨hb, h⟩ := h
  rw [if_neg (by decide)] at h
  obtain ⟨short, n, res, h1, h2, h3⟩ := h
  obtain rfl := h1.one (ex_short rfl)
  have h4 := loopS_one h2 (show loopS (madeF [0] 4) exCfg.alts 10 _ = some (some [[[], [0, 1], [0, 0, 1, 1]]]) from ex_loop)
  subst h4
  obtain ⟨v, e1, h5, _⟩ := h3
  exact ⟨v, e1, h5, hb⟩
theorem exD1 (w : World) (v : Value) (h : CfgV w v exCfg) (hi : ∀ x ∈ [(0 : Int), 0, 1], Ty.i64 x) : Calls Try.prog 12 #[v, .slice (some ⟨w.heap.size, 0, none⟩) 1 1, .slice (some ⟨w.heap.size + 1, 0, none⟩) 3 3] ((w.alloc (.cells #[.int .i64 (-1)] 3)).alloc (.cells #[.int .i64 0, .int .i64 0, .int .i64 1] 3)) fun e w' => e = .returned (.bool false) ∧ Below w.heap.size w w' := by
  have hb : Below w.heap.size w ((w.alloc (.cells #[.int .i64 (-1)] 3)).alloc (.cells #[.int .i64 0, .int .i64 0, .int .i64 1] 3)) := ((Below.refl _ _).alloc (Nat.le_refl _) _).alloc (by simp) _
  have h2 := exDer w [0, 0, 1] (by decide) hi
  refine (derives_calls exCfg [-1] [0, 0, 1] _ _ _ _ (h.below hb) h2.1 h2.2 (by decide) (by decide)).mono ?_
  rintro e w' ⟨he, hB⟩
  have hn : ¬ Gen exCfg [-1] [0, 0, 1] := ex_not (c := exCfg) rfl
  rw [dec_false hn] at he
  exact ⟨he, below2 hb hB⟩
theorem exD2 (w : World) (v : Value) (h : CfgV w v exCfg) (hi : ∀ x ∈ [(0 : Int), 0, 1, 1], Ty.i64 x) : Calls Try.prog 12 #[v, .slice (some ⟨w.heap.size, 0, none⟩) 1 1, .slice (some ⟨w.heap.size + 1, 0, none⟩) 4 4] ((w.alloc (.cells #[.int .i64 (-1)] 3)).alloc (.cells #[.int .i64 0, .int .i64 0, .int .i64 1, .int .i64 1] 3)) fun e w' => e = .returned (.bool true) ∧ Below w.heap.size w w' := by
  have hb : Below w.heap.size w ((w.alloc (.cells #[.int .i64 (-1)] 3)).alloc (.cells #[.int .i64 0, .int .i64 0, .int .i64 1, .int .i64 1] 3)) := ((Below.refl _ _).alloc (Nat.le_refl _) _).alloc (by simp) _
  have h2 := exDer w [0, 0, 1, 1] (by decide) hi
  refine (derives_calls exCfg [-1] [0, 0, 1, 1] _ _ _ _ (h.below hb) h2.1 h2.2 (by decide) (by decide)).mono ?_
  rintro e w' ⟨he, hB⟩
  have hn : Gen exCfg [-1] [0, 0, 1, 1] := ex_is (c := exCfg) rfl
  rw [dec_true hn] at he
  exact ⟨he, below2 hb hB⟩
set_option maxRecDepth 100000 in
set_option maxHeartbeats 4000000 in
theorem live_calls (w : World) : Calls Try.prog 7 #[] w fun e w' => e = .returned (.bool true) ∧ Below w.heap.size w w' := by
  have hL := exLaid w
  have hb0 : Below w.heap.size w (((((w.alloc (.cells #[.string ⟨#[97]⟩, .string ⟨#[98]⟩] 9)).alloc (.cells #[.string ⟨#[83]⟩] 9)).alloc (.cells #[.int .i64 0, .int .i64 (-1), .int .i64 1] 3)).alloc (.cells #[.slice (some ⟨w.heap.size + 2, 0, none⟩) 3 3, .slice none 0 0] 34)).alloc (.cells #[.slice (some ⟨w.heap.size + 3, 0, none⟩) 2 2] 28)) :=
    (((((Below.refl _ _).alloc (Nat.le_refl _) _).alloc (by simp) _).alloc (by simp; omega) _).alloc (by simp; omega) _).alloc (by simp; omega) _
  have hs0 : (((((w.alloc (.cells #[.string ⟨#[97]⟩, .string ⟨#[98]⟩] 9)).alloc (.cells #[.string ⟨#[83]⟩] 9)).alloc (.cells #[.int .i64 0, .int .i64 (-1), .int .i64 1] 3)).alloc (.cells #[.slice (some ⟨w.heap.size + 2, 0, none⟩) 3 3, .slice none 0 0] 34)).alloc (.cells #[.slice (some ⟨w.heap.size + 3, 0, none⟩) 2 2] 28)).heap.size = w.heap.size + 5 := by simp
  have HL := Lib.hid (And.intro hL hb0)
  have hi3 : ∀ x ∈ [(0 : Int), 0, 1], Ty.i64 x := fun x hx => by simp at hx; rcases hx with rfl | rfl <;> (unfold Ty.i64; omega)
  have hi4 : ∀ x ∈ [(0 : Int), 0, 1, 1], Ty.i64 x := fun x hx => by simp at hx; rcases hx with rfl | rfl <;> (unfold Ty.i64; omega)
  have HI := Lib.hid (And.intro hi3 hi4)
  clear hL hb0 hi3 hi4
  generalize hW : (((((w.alloc (.cells #[.string ⟨#[97]⟩, .string ⟨#[98]⟩] 9)).alloc (.cells #[.string ⟨#[83]⟩] 9)).alloc (.cells #[.int .i64 0, .int .i64 (-1), .int .i64 1] 3)).alloc (.cells #[.slice (some ⟨w.heap.size + 2, 0, none⟩) 3 3, .slice none 0 0] 34)).alloc (.cells #[.slice (some ⟨w.heap.size + 3, 0, none⟩) 2 2] 28)) = W at HL hs0
  have HW := Lib.hid hW; clear hW
  have hsz := HL.out.2.size
  have hcfg6 := HL.out.1.below ((Below.refl W.heap.size W).alloc (Nat.le_refl _) (.cells #[.slice (some ⟨w.heap.size, 0, none⟩) 2 2, .slice (some ⟨w.heap.size + 1, 0, none⟩) 1 1, .slice (some ⟨w.heap.size + 1 + 1 + 1 + 1, 0, none⟩) 1 1] 25))
  have hbx6 := Box.new W #[.slice (some ⟨w.heap.size, 0, none⟩) 2 2, .slice (some ⟨w.heap.size + 1, 0, none⟩) 1 1, .slice (some ⟨w.heap.size + 1 + 1 + 1 + 1, 0, none⟩) 1 1] 25
  have hb6 := HL.out.2.alloc hsz (.cells #[.slice (some ⟨w.heap.size, 0, none⟩) 2 2, .slice (some ⟨w.heap.size + 1, 0, none⟩) 1 1, .slice (some ⟨w.heap.size + 1 + 1 + 1 + 1, 0, none⟩) 1 1] 25)
  have hsen := sen_calls short_calls exCfg _ 0 4 _ hcfg6 exOk exSmall
  have H6 := Lib.hid (And.intro hcfg6 (And.intro hbx6 (And.intro hb6 hsen)))
  clear hcfg6 hbx6 hb6 hsen
  rw [hs0] at H6
  have HW2 := HW
  go_enter Try.func7, Try.ntmps7
  go_wp2_with (first | (go_at_call 9; (rw [HW.out]); refine H6.out.2.2.2.mono ?_; rintro e w7 he; obtain ⟨v7, rfl, hb7, hB7⟩ := exSen he; clear he; obtain ⟨A7, c7, rfl, _⟩ := hb7.sl; have hx7 := H6.out.2.1.below hB7; have x0 : w7.cell? ⟨w.heap.size + 1 + 1 + 1 + 1 + 1, 0, none⟩ = some (.slice (some ⟨w.heap.size, 0, none⟩) 2 2) := hx7.cell 0 rfl; have x1 : w7.cell? ⟨w.heap.size + 1 + 1 + 1 + 1 + 1, 1, none⟩ = some (.slice (some ⟨w.heap.size + 1, 0, none⟩) 1 1) := hx7.cell 1 rfl; have x2 : w7.cell? ⟨w.heap.size + 1 + 1 + 1 + 1 + 1, 2, none⟩ = some (.slice (some ⟨w.heap.size + 1 + 1 + 1 + 1, 0, none⟩) 1 1) := hx7.cell 2 rfl; have H7 := Lib.hid (And.intro hb7 (And.intro (below2 H6.out.2.2.1 hB7) (And.intro hx7 (H6.out.1.below hB7)))); clear hb7 hB7 hx7) | (go_at_call 11; refine (sameLists_calls _ _ [[], [0, 1], [0, 0, 1, 1]] _ _ (H7.out.1.below (((Below.refl _ _).alloc (Nat.le_refl _) _).alloc (by simp) _ |>.alloc (by simp; omega) _)).sl (exLists w7)).mono ?_; (rw [decide_eq_true rfl]); rintro e w8 ⟨rfl, hD8⟩; have hb8 : Below w7.heap.size w7 w8 := below2 (((Below.refl _ _).alloc (Nat.le_refl _) _).alloc (by simp) _ |>.alloc (by simp; omega) _) hD8.below; have hx8 := H7.out.2.2.1.below hb8; have y0 : w8.cell? ⟨w.heap.size + 1 + 1 + 1 + 1 + 1, 0, none⟩ = some (.slice (some ⟨w.heap.size, 0, none⟩) 2 2) := hx8.cell 0 rfl; have y1 : w8.cell? ⟨w.heap.size + 1 + 1 + 1 + 1 + 1, 1, none⟩ = some (.slice (some ⟨w.heap.size + 1, 0, none⟩) 1 1) := hx8.cell 1 rfl; have y2 : w8.cell? ⟨w.heap.size + 1 + 1 + 1 + 1 + 1, 2, none⟩ = some (.slice (some ⟨w.heap.size + 1 + 1 + 1 + 1, 0, none⟩) 1 1) := hx8.cell 2 rfl; have H8 := Lib.hid (And.intro (below2 H7.out.2.1 hb8) (And.intro hx8 (H7.out.2.2.2.below hb8))); clear hb8 hx8 hD8) | (go_at_call 12; refine (exD2 w9 _ H9.out.2 HI.out.2).mono ?_; rintro e wA ⟨rfl, hbA⟩) | (go_at_call 12; refine (exD1 w8 _ H8.out.2.2 HI.out.1).mono ?_; rintro e w9 ⟨rfl, hb9⟩; have hx9 := H8.out.2.1.below hb9; have z0 : w9.cell? ⟨w.heap.size + 1 + 1 + 1 + 1 + 1, 0, none⟩ = some (.slice (some ⟨w.heap.size, 0, none⟩) 2 2) := hx9.cell 0 rfl; have z1 : w9.cell? ⟨w.heap.size + 1 + 1 + 1 + 1 + 1, 1, none⟩ = some (.slice (some ⟨w.heap.size + 1, 0, none⟩) 1 1) := hx9.cell 1 rfl; have z2 : w9.cell? ⟨w.heap.size + 1 + 1 + 1 + 1 + 1, 2, none⟩ = some (.slice (some ⟨w.heap.size + 1 + 1 + 1 + 1, 0, none⟩) 1 1) := hx9.cell 2 rfl; have H9 := Lib.hid (And.intro (below2 H8.out.1 hb9) (H8.out.2.2.below hb9)); clear hb9 hx9))
  go_ret
  exact ⟨rfl, below2 H9.out.1 hbA⟩
end Go.Proofs.Ytgjobbapnileiaa
