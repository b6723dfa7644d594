/- tables.lead: the walks, for each function value that is handed in (written by gen_lead.py). -/
import Derived.Test.YtigbfankkmmnbaaZ09
set_option linter.unusedVariables false
set_option linter.unusedSimpArgs false
namespace Go.Proofs.Ytigbfankkmmnbaa
open Go.RowKit Gk

/-- what lead reads -/
structure LeadAt (w : World) (T N R : Nat) (E : Nat → Nat) (a b : Value) (A : Option Addr) (n c3 : Nat) (z : Value) (nl : List Bool) (fs : List (List Int)) : Prop where
  tb : Box w T #[a, b, .slice A n c3, .slice (some ⟨N, 0, none⟩) n n, .slice (some ⟨R, 0, none⟩) n n, z] 56
  nb : Box w N (nl.map Value.bool).toArray 4
  row : SetRow w R E fs
  nlen : nl.length = n
  flen : fs.length = n
theorem LeadAt.emp {w : World} {T N R : Nat} {E : Nat → Nat} {a b : Value} {A : Option Addr} {n c3 : Nat} {z : Value} {nl : List Bool} {fs : List (List Int)} (h : LeadAt w T N R E a b A n c3 z nl fs) : EmpAt w T N a b A n c3 (.slice (some ⟨R, 0, none⟩) n n) z nl := ⟨h.tb, h.nb, h.nlen⟩
theorem LeadAt.keep {w w' : World} {T N R : Nat} {E : Nat → Nat} {a b : Value} {A : Option Addr} {n c3 : Nat} {z : Value} {nl : List Bool} {fs : List (List Int)} (h : LeadAt w T N R E a b A n c3 z nl fs) (hT : w'.heap[T]? = w.heap[T]?) (hN : w'.heap[N]? = w.heap[N]?) (hR : w'.heap[R]? = w.heap[R]?) (hE : ∀ i, i < n → w'.heap[E i]? = w.heap[E i]?) : LeadAt w' T N R E a b A n c3 z nl fs :=
  ⟨h.tb.keep hT, h.nb.keep hN, h.row.keep hR (by rw [h.flen]; exact hE), h.nlen, h.flen⟩
/-- not among those that turn -/
def Apart (F : Nat → Prop) (T N R : Nat) (E : Nat → Nat) (n : Nat) : Prop := ¬ F T ∧ ¬ F N ∧ ¬ F R ∧ ∀ i, i < n → ¬ F (E i)
theorem LeadAt.fx {w w' : World} {F F' : Nat → Prop} {T N R : Nat} {E : Nat → Nat} {a b : Value} {A : Option Addr} {n c3 : Nat} {z : Value} {nl : List Bool} {fs : List (List Int)} (h : LeadAt w T N R E a b A n c3 z nl fs) (hA : Apart F T N R E n) (k : Fx w w' F F') : LeadAt w' T N R E a b A n c3 z nl fs :=
  h.keep (k.block _ h.tb.lt hA.1) (k.block _ h.nb.lt hA.2.1) (k.block _ h.row.lt.1 hA.2.2.1) fun i hi => k.block _ (h.row.lt.2 i (by rw [h.flen]; exact hi)) (hA.2.2.2 i hi)
theorem leadL_rule {nl : List Bool} {fs : List (List Int)} {k : Int} {s K : List Int} {r : Nat} {b : Bool} (hk : k < 0) (hr : -1 - k = r) (hl : r < nl.length) (hK : fs[r]? = some K) (hb : nl[r]? = some b) :
    leadL nl fs (k :: s) = K ++ (if b = true then leadL nl fs s else []) := by
  have e : (-1 - k).toNat = r := by omega
  rw [leadL, if_pos ⟨hk, by omega⟩, e, getD_some hK, getD_some hb]
theorem leadL_not {nl : List Bool} {fs : List (List Int)} {k : Int} {s : List Int} (h : ¬ (k < 0 ∧ -1 - k < (nl.length : Int))) : leadL nl fs (k :: s) = if 0 ≤ k then [k] else [] := by
  rw [leadL, if_neg h]
theorem mem_split {ys pre K L : List Int} (h : ∀ t, t ∈ ys ↔ t ∈ pre ∨ (t ∈ K ∧ t ∉ L)) (hL : ∀ x, x ∉ L) : ∀ t, t ∈ ys ↔ t ∈ pre ++ K := fun t => by
  rw [h t, List.mem_append]
  constructor
  · rintro (h | h)
    · exact .inl h
    · exact .inr h.1
  · rintro (h | h)
    · exact .inl h
    · exact .inr ⟨h, hL t⟩
theorem notIn1 {F : Nat → Prop} {r : Nat} (h : ¬ F r) : ∀ k, some r = some k → F k → False := fun k e hk => by injection e with e; exact h (e ▸ hk)
theorem notin_filter1 {L : List Int} {x i : Int} : i ∉ L.filter (· ≠ x) ↔ i ∉ L ∨ i = x := by
  simp only [List.mem_filter, decide_eq_true_eq, not_and, Decidable.not_not]
  constructor
  · intro h; by_cases hi : i ∈ L
    · exact .inr (h hi)
    · exact .inl hi
  · rintro (h | h) hi
    · exact absurd hi h
    · exact h
def leadEnd (J : List Int → (Nat → Prop) → World → Prop) (F : Nat → Prop) (xs0 : List Int) (nl : List Bool) (fs : List (List Int)) (s : List Int) (w : World) (e : Ending) (w' : World) : Prop :=
  e = .returned (.tuple #[]) ∧ ∃ ys F', J (xs0 ++ ys) F' w' ∧ Fx w w' F F' ∧ (∀ t, t ∈ ys ↔ t ∈ leadL nl fs s) ∧ ys.length ≤ s.length * 1000
def Lead0 (J : List Int → (Nat → Prop) → World → Prop) (F : Nat → Prop) (xs0 : List Int) (nl : List Bool) (fs : List (List Int)) (s : List Int) (w : World) (i : Value) (wr : World) : Prop :=
  ∃ (n : Nat) (ys : List Int) (F' : Nat → Prop) (pre : List Int), n ≤ s.length ∧ i = .int .i64 n ∧ J (xs0 ++ ys) F' wr ∧ Fx w wr F F' ∧ Hid (leadL nl fs s = pre ++ leadL nl fs (s.drop n)) ∧ Hid (∀ t, t ∈ ys ↔ t ∈ pre) ∧ ys.length ≤ n * 1000
def Lead2 (J : List Int → (Nat → Prop) → World → Prop) (F : Nat → Prop) (xs0 ys : List Int) (K : List Int) (b r : Nat) (w : World) (wr : World) : Prop :=
  ∃ (L : List Int) (cnt : Nat) (ys' : List Int) (F' : Nat → Prop), IRange wr b r K L cnt ∧ J (xs0 ++ ys') F' wr ∧ Fx w wr F F' ∧ Hid (∀ t, t ∈ ys' ↔ t ∈ ys ∨ (t ∈ K ∧ t ∉ L)) ∧ ys'.length + cnt ≤ ys.length + K.length ∧ ¬ F' r
set_option maxRecDepth 100000 in
set_option maxHeartbeats 4000000 in
theorem leadA_calls (J : List Int → (Nat → Prop) → World → Prop) (B0 : Nat) (pv : Nat)
    (jlt : ∀ xs F w, J xs F w → ∀ c, F c → c < w.heap.size)
    (jkeep : ∀ xs F w w', J xs F w → (w'.os = w.os ∧ w'.tape = w.tape ∧ w'.output = w.output) → w.heap.size ≤ w'.heap.size → (∀ c, c < w.heap.size → (c < B0 ∨ F c) → w'.heap[c]? = w.heap[c]?) → J xs F w')
    (jlay : ∀ xs F w t, J xs F w → 0 ≤ t ∧ t ≤ 100000 → xs.length ≤ 1000000 → B0 ≤ w.heap.size → Calls Try.prog 70 #[.int .i64 t, .pointer (some ⟨pv, 0, none⟩)] w fun e w' => e = .returned (.tuple #[]) ∧ ∃ F', J (xs ++ [t]) F' w' ∧ Fx w w' F F')
    (w : World) (F : Nat → Prop) (xs0 : List Int) (hJ : J xs0 F w) (hB0 : B0 ≤ w.heap.size) (hF : ∀ c, F c → c < w.heap.size) (T N R : Nat) (E : Nat → Nat) (a b : Value) (A : Option Addr) (n c3 : Nat) (z u : Value) (nl : List Bool) (fs : List (List Int)) (s : List Int)
    (h : LeadAt w T N R E a b A n c3 z nl fs) (hA : Apart F T N R E n) (hn : n ≤ 1000) (hu : ∀ w' F', Fx w w' F F' → Sl Ty.int w' u s) (hb : ∀ l ∈ fs, l.length ≤ 1000 ∧ ∀ t ∈ l, 0 ≤ t ∧ t ≤ 100000) (hs : ∀ k ∈ s, k ≤ 100000) (hsl : s.length ≤ 200) (hx0 : xs0.length ≤ 500000) :
    Calls Try.prog 53 #[.pointer (some ⟨T, 0, none⟩), u, .func (.func 70) #[] #[.pointer (some ⟨pv, 0, none⟩)]] w (leadEnd J F xs0 nl fs s w) := by
  obtain ⟨AU, cU, rfl, ku1, ku2, ku3, _⟩ := hu w F (Fx.refl _ _)
  unfold LB at ku3
  have HH := Lib.hid (And.intro h (And.intro hA (And.intro hu (And.intro hb hs))))
  have HJ := Lib.hid (And.intro jlt (And.intro jkeep jlay))
  have HJ0 := Lib.hid hJ
  clear h hA hu hb hs jlt jkeep jlay hJ
  go_enter Try.func53, Try.ntmps53
  go_wp2
  go_loopw [13] (fun i wr => Lead0 J F xs0 nl fs s w i wr) (fun i _ => s.length - (intOf i).toNat)
  case atStart => exact ⟨0, [], F, [], Nat.zero_le _, rfl, by simpa using HJ0.out, Fx.refl _ _, by simp [Hid], by simp [Hid], by simp⟩
  case round =>
    obtain ⟨j, ys, F1, pre, hj, rfl, hJ1, hX1, hpre, hys, hyl⟩ := hrel
    have H1 := Lib.hid (And.intro hJ1 (And.intro hX1 (And.intro hpre hys)))
    have hsz1 := hX1.size
    clear hJ1 hX1 hpre hys
    have hL1 := Lib.hid (HH.out.1.fx HH.out.2.1 H1.out.2.1)
    by_cases hlt : j < s.length
    · obtain ⟨k, hk⟩ := at_lt s hlt
      obtain ⟨A9, c9, e9, _, _, _, hrow9⟩ := HH.out.2.2.1 wr F1 H1.out.2.1
      injection e9 with e91 e92 e93
      subst e91 e93
      obtain ⟨ad, rfl, hk64, hcell⟩ := hrow9.int hk
      have hkm := List.mem_of_getElem? hk
      have hk100 := HH.out.2.2.2.2 k hkm
      have hdrop := drop_at hk
      have HD := Lib.hid hdrop
      clear hrow9 e92 hk hdrop hkm
      have hrule := rule_calls T a b (.slice (some ⟨N, 0, none⟩) n n) (.slice (some ⟨R, 0, none⟩) n n) z A n c3 k wr hL1.out.tb hk64 (by omega)
      by_cases hr : k < 0 ∧ -1 - k < (n : Int)
      · rw [decide_eq_true hr] at hrule
        obtain ⟨r, hr'⟩ : ∃ r : Nat, -1 - k = r := ⟨(-1 - k).toNat, by omega⟩
        have hrn : r < n := by omega
        have hlens := And.intro hL1.out.nlen hL1.out.flen
        obtain ⟨bb, hbb⟩ := at_lt nl (show r < nl.length by omega)
        obtain ⟨K, hK⟩ := at_lt fs (show r < fs.length by omega)
        have hKb := HH.out.2.2.2.1 K (List.mem_of_getElem? hK)
        have hKl := hKb.1
        have HKB := Lib.hid hKb.2
        have hll := Lib.hid (fun s => leadL_rule (s := s) hr.1 hr' (by omega) hK hbb)
        have HR := Lib.hid (And.intro hr (And.intro hr' (And.intro hbb hK)))
        have HRU := Lib.hid hrule
        clear hrule hr hr' hbb hK hKb hlens
        have hJk : ∀ (F : Nat → Prop) (xs : List Int) (w1 w2 : World) (row : Option Nat), J xs F w1 → w1.grownBy w2 row → (∀ k, row = some k → ¬ F k ∧ B0 ≤ k) → J xs F w2 := fun F xs w1 w2 row hj hg hr => HJ.out.2.1 xs F w1 w2 hj ⟨hg.os, hg.tape, hg.output⟩ hg.size fun c hc ho => hg.block c hc fun e => by
          obtain ⟨h1, h2⟩ := hr c e.symm
          rcases ho with ho | ho
          · omega
          · exact h1 ho
        have HJK := Lib.hid hJk
        clear hJk
        obtain ⟨w1, rfl⟩ : ∃ w1 : World, w1 = wr := ⟨_, rfl⟩
        go_wp2_with (first | (go_at_call 52; refine HRU.out.mono ?_; rintro e w2 ⟨⟨q, rfl, hq⟩, hD⟩; obtain rfl : q = (r : Int) := (hq HR.out.1.1).trans HR.out.2.1; clear hq; have hL2 := Lib.hid (hL1.out.fx (F := fun _ => False) ⟨id, id, id, fun _ _ => id⟩ ((Fx.refl w1 (fun _ => False)).below hD.below)); have htc := hL2.out.tb.cell 4 (v := .slice (some ⟨R, 0, none⟩) n n) rfl; have hec := hL2.out.row.cell (i := r) (by have := hL1.out.flen; omega); have hS2 := Lib.hid (hL2.out.row.set r K HR.out.2.2.2); have hJ2 := Lib.hid (HJ.out.2.1 _ _ _ _ H1.out.1 ⟨hD.below.os, hD.below.tape, hD.below.output⟩ hD.below.size (fun c hc _ => hD.below.block c hc)); have hX2 := Lib.hid (H1.out.2.1.below hD.below); have hsz2 := hD.below.size) | (at_range; refine wpList_range rfl (.tmp 36) 65 3 4 (E r) K rfl Try.underlying3 Try.underlying65 rfl hS2.out ?_; intro w3 hR3 hg3 hs3))
        go_frame
        have hJ3 := HJK.out F1 _ _ _ none hJ2.out hg3 (by simp)
        have hX3 := hX2.out.grown hg3 (by simp)
        have hr3 : ¬ F1 w2.heap.size := fun hc => by have := HJ.out.1 _ _ _ hJ2.out _ hc; omega
        have hFE : ∀ F', Fx w w1 F F' → True := fun _ _ => trivial
        have H3 := Lib.hid (And.intro hR3 (And.intro hJ3 (And.intro hX3 hr3)))
        clear hR3 hJ3 hX3 hr3 hFE
        obtain ⟨q3, hq3⟩ : ∃ q3, q3 = w2.heap.size := ⟨_, rfl⟩
        rw [← hq3] at H3 ⊢
        have hq3b : w.heap.size ≤ q3 := by omega
        clear hq3
        go_loopw [] (fun wr => Lead2 J F xs0 ys K (E r) q3 w wr) (fun wr => wr.rangeLeft (E r) q3)
        case atStart =>
          refine ⟨K, K.length, ys, F1, H3.out.1, H3.out.2.1, H3.out.2.2.1, fun t => ⟨.inl, fun h => h.elim id fun h => absurd h.1 h.2⟩, Nat.le_refl _, H3.out.2.2.2⟩
        case round =>
          obtain ⟨L, cnt, ys2, F2, hR4, hJ4, hX4, hys4, hcn4, hr4⟩ := hrel
          have hEr : ¬ F2 (E r) := fun hc => by
            have hlt := HH.out.1.row.lt.2 r (by have := HH.out.1.flen; omega)
            rcases hX4.new _ hc with h | h
            · exact HH.out.2.1.2.2.2 r hrn h
            · omega
          have H4 := Lib.hid (And.intro hR4 (And.intro hJ4 (And.intro hX4 (And.intro hys4 (And.intro hr4 hEr)))))
          have hL4 := Lib.hid (HH.out.1.fx HH.out.2.1 hX4)
          have ht4 := hL4.out.tb.cell 3 (v := .slice (some ⟨N, 0, none⟩) n n) rfl
          have hn4 := hL4.out.emp.cell HR.out.2.2.1
          clear hR4 hJ4 hX4 hys4 hr4 hEr
          obtain ⟨w4, rfl⟩ : ∃ w4 : World, w4 = wr := ⟨_, rfl⟩
          cases bb with
          | true =>
            go_wp2_with (first | (at_next; refine wpList_next rfl (.tmp 37) 3 4 (E r) q3 K L cnt rfl Try.underlying3 Try.underlying4 rfl H4.out.1 ?_ ?_; all_goals first | (intro x cb w5 cnt5 hx64 hxL hxK hR5 hcl5 hg5 hsz5 hen5; have hx2 := HKB.out x hxK; have hJ5 := Lib.hid (HJK.out F2 _ _ _ _ H4.out.2.1 hg5 (fun k e => by injection e with e; subst e; exact ⟨H4.out.2.2.2.2.1, by omega⟩)); have hX5 := Lib.hid (H4.out.2.2.1.grown hg5 (fun k e => by injection e with e; subst e; exact .inr hq3b)); have hR5h := Lib.hid hR5; clear hR5) | intro hL0) | (go_at_call 70; refine (HJ.out.2.2 _ _ _ x hJ5.out hx2 (by simp; omega) (by have := hX5.out.size; omega)).mono ?_; rintro e w6 ⟨rfl, F6, hJ6, hX6⟩))
            · refine ⟨⟨j + 1, ys2, F2, pre ++ K, by omega, by simp, H4.out.2.1, H4.out.2.2.1, ?_, ?_, by omega⟩, by simp [intOf]; omega⟩
              · have h : leadL _ _ _ = _ := H1.out.2.2.1
                show _ = _
                rw [h, HD.out, hll.out, if_pos rfl, List.append_assoc]
              · refine mem_split (K := K) (L := L) (fun t => ?_) hL0
                rw [H4.out.2.2.2.1.out t, H1.out.2.2.2.out t]
            · have hl5 := hR5h.out.lt
              have hb6 : ¬ F2 (E r) := H4.out.2.2.2.2.2
              have hR6 := hR5h.out.keep (hX6.block _ hl5.1 hb6) (hX6.block _ hl5.2.1 H4.out.2.2.2.2.1)
              refine ⟨⟨L.filter (· ≠ x), cnt5, ys2 ++ [x], F6, hR6, by rw [← List.append_assoc]; exact hJ6, hX5.out.trans hX6, fun t => ?_, by simp; omega, fun hc => ?_⟩, by rw [hR6.left_eq, H4.out.1.left_eq]; exact hcl5⟩
              · rw [List.mem_append, H4.out.2.2.2.1.out t, notin_filter1, List.mem_singleton]
                constructor
                · rintro ((h | ⟨h1, h2⟩) | rfl)
                  · exact .inl h
                  · exact .inr ⟨h1, .inl h2⟩
                  · exact .inr ⟨hxK, .inr rfl⟩
                · rintro (h | ⟨h1, h2 | rfl⟩)
                  · exact .inl (.inl h)
                  · exact .inl (.inr ⟨h1, h2⟩)
                  · exact .inr rfl
              · rcases hX6.new _ hc with h | h
                · exact H4.out.2.2.2.2.1 h
                · omega
          | false =>
            go_wp2_with (first | (at_next; refine wpList_next rfl (.tmp 37) 3 4 (E r) q3 K L cnt rfl Try.underlying3 Try.underlying4 rfl H4.out.1 ?_ ?_; all_goals first | (intro x cb w5 cnt5 hx64 hxL hxK hR5 hcl5 hg5 hsz5 hen5; have hx2 := HKB.out x hxK; have hJ5 := Lib.hid (HJK.out F2 _ _ _ _ H4.out.2.1 hg5 (fun k e => by injection e with e; subst e; exact ⟨H4.out.2.2.2.2.1, by omega⟩)); have hX5 := Lib.hid (H4.out.2.2.1.grown hg5 (fun k e => by injection e with e; subst e; exact .inr hq3b)); have hR5h := Lib.hid hR5; clear hR5) | intro hL0) | (go_at_call 70; refine (HJ.out.2.2 _ _ _ x hJ5.out hx2 (by simp; omega) (by have := hX5.out.size; omega)).mono ?_; rintro e w6 ⟨rfl, F6, hJ6, hX6⟩))
            · have hgen : leadEnd J F xs0 nl fs s w (.returned (.tuple #[])) w4 := by
                refine ⟨rfl, ys2, F2, H4.out.2.1, H4.out.2.2.1, ?_, by omega⟩
                have h : leadL _ _ _ = _ := H1.out.2.2.1
                rw [h, HD.out, hll.out, if_neg (by simp), List.append_nil]
                refine mem_split (K := K) (L := L) (fun t => ?_) hL0
                rw [H4.out.2.2.2.1.out t, H1.out.2.2.2.out t]
              exact ⟨rfl, .tuple #[], by simp [results, Try.results53, go_sem], hgen⟩
            · have hl5 := hR5h.out.lt
              have hb6 : ¬ F2 (E r) := H4.out.2.2.2.2.2
              have hR6 := hR5h.out.keep (hX6.block _ hl5.1 hb6) (hX6.block _ hl5.2.1 H4.out.2.2.2.2.1)
              refine ⟨⟨L.filter (· ≠ x), cnt5, ys2 ++ [x], F6, hR6, by rw [← List.append_assoc]; exact hJ6, hX5.out.trans hX6, fun t => ?_, by simp; omega, fun hc => ?_⟩, by rw [hR6.left_eq, H4.out.1.left_eq]; exact hcl5⟩
              · rw [List.mem_append, H4.out.2.2.2.1.out t, notin_filter1, List.mem_singleton]
                constructor
                · rintro ((h | ⟨h1, h2⟩) | rfl)
                  · exact .inl h
                  · exact .inr ⟨h1, .inl h2⟩
                  · exact .inr ⟨hxK, .inr rfl⟩
                · rintro (h | ⟨h1, h2 | rfl⟩)
                  · exact .inl (.inl h)
                  · exact .inl (.inr ⟨h1, h2⟩)
                  · exact .inr rfl
              · rcases hX6.new _ hc with h | h
                · exact H4.out.2.2.2.2.1 h
                · omega
      · rw [decide_eq_false hr] at hrule
        have hll := Lib.hid (fun s => leadL_not (nl := nl) (fs := fs) (k := k) (s := s) (by rw [hL1.out.nlen]; exact hr))
        have HRU := Lib.hid hrule
        clear hrule hr
        obtain ⟨w1, rfl⟩ : ∃ w1 : World, w1 = wr := ⟨_, rfl⟩
        by_cases hk0 : k ≥ 0
        · go_wp2_with (first | (go_at_call 52; refine HRU.out.mono ?_; rintro e w2 ⟨⟨q, rfl, hq⟩, hD⟩; clear hq; have hJ2 := Lib.hid (HJ.out.2.1 _ _ _ _ H1.out.1 ⟨hD.below.os, hD.below.tape, hD.below.output⟩ hD.below.size (fun c hc _ => hD.below.block c hc)); have hX2 := Lib.hid (H1.out.2.1.below hD.below); have hsz2 := hD.below.size) | (go_at_call 70; refine (HJ.out.2.2 _ _ _ k hJ2.out ⟨hk0, hk100⟩ (by simp; omega) (by omega)).mono ?_; rintro e w6 ⟨rfl, F6, hJ6, hX6⟩))
          have hgen : leadEnd J F xs0 nl fs s w (.returned (.tuple #[])) w6 := by
            refine ⟨rfl, ys ++ [k], F6, by rw [← List.append_assoc]; exact hJ6, hX2.out.trans hX6, fun t => ?_, by simp; omega⟩
            have h : leadL _ _ _ = _ := H1.out.2.2.1
            rw [h, HD.out, hll.out, if_pos hk0, List.mem_append, List.mem_append, H1.out.2.2.2.out t]
          exact ⟨rfl, .tuple #[], by simp [results, Try.results53, go_sem], hgen⟩
        · go_wp2_with (go_at_call 52; refine HRU.out.mono ?_; rintro e w2 ⟨⟨q, rfl, hq⟩, hD⟩; clear hq; have hJ2 := Lib.hid (HJ.out.2.1 _ _ _ _ H1.out.1 ⟨hD.below.os, hD.below.tape, hD.below.output⟩ hD.below.size (fun c hc _ => hD.below.block c hc)); have hX2 := Lib.hid (H1.out.2.1.below hD.below); have hsz2 := hD.below.size)
          have hgen : leadEnd J F xs0 nl fs s w (.returned (.tuple #[])) w2 := by
            refine ⟨rfl, ys, F1, hJ2.out, hX2.out, fun t => ?_, by omega⟩
            have h : leadL _ _ _ = _ := H1.out.2.2.1
            rw [h, HD.out, hll.out, if_neg (by omega), List.append_nil, H1.out.2.2.2.out t]
          exact ⟨rfl, .tuple #[], by simp [results, Try.results53, go_sem], hgen⟩
    · have hje : j = s.length := by omega
      subst hje
      have hgen : leadEnd J F xs0 nl fs s w (.returned (.tuple #[])) wr := by
        refine ⟨rfl, ys, F1, H1.out.1, H1.out.2.1, fun t => ?_, hyl⟩
        have h : leadL _ _ _ = _ := H1.out.2.2.1
        rw [h, List.drop_length, leadL, List.append_nil, H1.out.2.2.2.out t]
      have HG := Lib.hid hgen
      clear hgen
      go_wp2
      exact ⟨rfl, .tuple #[], by simp [results, Try.results53, go_sem], HG.out⟩
set_option maxRecDepth 100000 in
set_option maxHeartbeats 4000000 in
theorem leadB_calls (J : List Int → (Nat → Prop) → World → Prop) (B0 : Nat) (pv : Nat)
    (jlt : ∀ xs F w, J xs F w → ∀ c, F c → c < w.heap.size)
    (jkeep : ∀ xs F w w', J xs F w → (w'.os = w.os ∧ w'.tape = w.tape ∧ w'.output = w.output) → w.heap.size ≤ w'.heap.size → (∀ c, c < w.heap.size → (c < B0 ∨ F c) → w'.heap[c]? = w.heap[c]?) → J xs F w')
    (jlay : ∀ xs F w t, J xs F w → 0 ≤ t ∧ t ≤ 100000 → xs.length ≤ 1000000 → B0 ≤ w.heap.size → Calls Try.prog 61 #[.int .i64 t, .pointer (some ⟨pv, 0, none⟩)] w fun e w' => e = .returned (.tuple #[]) ∧ ∃ F', J (xs ++ [t]) F' w' ∧ Fx w w' F F')
    (w : World) (F : Nat → Prop) (xs0 : List Int) (hJ : J xs0 F w) (hB0 : B0 ≤ w.heap.size) (hF : ∀ c, F c → c < w.heap.size) (T N R : Nat) (E : Nat → Nat) (a b : Value) (A : Option Addr) (n c3 : Nat) (z u : Value) (nl : List Bool) (fs : List (List Int)) (s : List Int)
    (h : LeadAt w T N R E a b A n c3 z nl fs) (hA : Apart F T N R E n) (hn : n ≤ 1000) (hu : ∀ w' F', Fx w w' F F' → Sl Ty.int w' u s) (hb : ∀ l ∈ fs, l.length ≤ 1000 ∧ ∀ t ∈ l, 0 ≤ t ∧ t ≤ 100000) (hs : ∀ k ∈ s, k ≤ 100000) (hsl : s.length ≤ 200) (hx0 : xs0.length ≤ 500000) :
    Calls Try.prog 53 #[.pointer (some ⟨T, 0, none⟩), u, .func (.func 61) #[] #[.pointer (some ⟨pv, 0, none⟩)]] w (leadEnd J F xs0 nl fs s w) := by
  obtain ⟨AU, cU, rfl, ku1, ku2, ku3, _⟩ := hu w F (Fx.refl _ _)
  unfold LB at ku3
  have HH := Lib.hid (And.intro h (And.intro hA (And.intro hu (And.intro hb hs))))
  have HJ := Lib.hid (And.intro jlt (And.intro jkeep jlay))
  have HJ0 := Lib.hid hJ
  clear h hA hu hb hs jlt jkeep jlay hJ
  go_enter Try.func53, Try.ntmps53
  go_wp2
  go_loopw [13] (fun i wr => Lead0 J F xs0 nl fs s w i wr) (fun i _ => s.length - (intOf i).toNat)
  case atStart => exact ⟨0, [], F, [], Nat.zero_le _, rfl, by simpa using HJ0.out, Fx.refl _ _, by simp [Hid], by simp [Hid], by simp⟩
  case round =>
    obtain ⟨j, ys, F1, pre, hj, rfl, hJ1, hX1, hpre, hys, hyl⟩ := hrel
    have H1 := Lib.hid (And.intro hJ1 (And.intro hX1 (And.intro hpre hys)))
    have hsz1 := hX1.size
    clear hJ1 hX1 hpre hys
    have hL1 := Lib.hid (HH.out.1.fx HH.out.2.1 H1.out.2.1)
    by_cases hlt : j < s.length
    · obtain ⟨k, hk⟩ := at_lt s hlt
      obtain ⟨A9, c9, e9, _, _, _, hrow9⟩ := HH.out.2.2.1 wr F1 H1.out.2.1
      injection e9 with e91 e92 e93
      subst e91 e93
      obtain ⟨ad, rfl, hk64, hcell⟩ := hrow9.int hk
      have hkm := List.mem_of_getElem? hk
      have hk100 := HH.out.2.2.2.2 k hkm
      have hdrop := drop_at hk
      have HD := Lib.hid hdrop
      clear hrow9 e92 hk hdrop hkm
      have hrule := rule_calls T a b (.slice (some ⟨N, 0, none⟩) n n) (.slice (some ⟨R, 0, none⟩) n n) z A n c3 k wr hL1.out.tb hk64 (by omega)
      by_cases hr : k < 0 ∧ -1 - k < (n : Int)
      · rw [decide_eq_true hr] at hrule
        obtain ⟨r, hr'⟩ : ∃ r : Nat, -1 - k = r := ⟨(-1 - k).toNat, by omega⟩
        have hrn : r < n := by omega
        have hlens := And.intro hL1.out.nlen hL1.out.flen
        obtain ⟨bb, hbb⟩ := at_lt nl (show r < nl.length by omega)
        obtain ⟨K, hK⟩ := at_lt fs (show r < fs.length by omega)
        have hKb := HH.out.2.2.2.1 K (List.mem_of_getElem? hK)
        have hKl := hKb.1
        have HKB := Lib.hid hKb.2
        have hll := Lib.hid (fun s => leadL_rule (s := s) hr.1 hr' (by omega) hK hbb)
        have HR := Lib.hid (And.intro hr (And.intro hr' (And.intro hbb hK)))
        have HRU := Lib.hid hrule
        clear hrule hr hr' hbb hK hKb hlens
        have hJk : ∀ (F : Nat → Prop) (xs : List Int) (w1 w2 : World) (row : Option Nat), J xs F w1 → w1.grownBy w2 row → (∀ k, row = some k → ¬ F k ∧ B0 ≤ k) → J xs F w2 := fun F xs w1 w2 row hj hg hr => HJ.out.2.1 xs F w1 w2 hj ⟨hg.os, hg.tape, hg.output⟩ hg.size fun c hc ho => hg.block c hc fun e => by
          obtain ⟨h1, h2⟩ := hr c e.symm
          rcases ho with ho | ho
          · omega
          · exact h1 ho
        have HJK := Lib.hid hJk
        clear hJk
        obtain ⟨w1, rfl⟩ : ∃ w1 : World, w1 = wr := ⟨_, rfl⟩
        go_wp2_with (first | (go_at_call 52; refine HRU.out.mono ?_; rintro e w2 ⟨⟨q, rfl, hq⟩, hD⟩; obtain rfl : q = (r : Int) := (hq HR.out.1.1).trans HR.out.2.1; clear hq; have hL2 := Lib.hid (hL1.out.fx (F := fun _ => False) ⟨id, id, id, fun _ _ => id⟩ ((Fx.refl w1 (fun _ => False)).below hD.below)); have htc := hL2.out.tb.cell 4 (v := .slice (some ⟨R, 0, none⟩) n n) rfl; have hec := hL2.out.row.cell (i := r) (by have := hL1.out.flen; omega); have hS2 := Lib.hid (hL2.out.row.set r K HR.out.2.2.2); have hJ2 := Lib.hid (HJ.out.2.1 _ _ _ _ H1.out.1 ⟨hD.below.os, hD.below.tape, hD.below.output⟩ hD.below.size (fun c hc _ => hD.below.block c hc)); have hX2 := Lib.hid (H1.out.2.1.below hD.below); have hsz2 := hD.below.size) | (at_range; refine wpList_range rfl (.tmp 36) 65 3 4 (E r) K rfl Try.underlying3 Try.underlying65 rfl hS2.out ?_; intro w3 hR3 hg3 hs3))
        go_frame
        have hJ3 := HJK.out F1 _ _ _ none hJ2.out hg3 (by simp)
        have hX3 := hX2.out.grown hg3 (by simp)
        have hr3 : ¬ F1 w2.heap.size := fun hc => by have := HJ.out.1 _ _ _ hJ2.out _ hc; omega
        have hFE : ∀ F', Fx w w1 F F' → True := fun _ _ => trivial
        have H3 := Lib.hid (And.intro hR3 (And.intro hJ3 (And.intro hX3 hr3)))
        clear hR3 hJ3 hX3 hr3 hFE
        obtain ⟨q3, hq3⟩ : ∃ q3, q3 = w2.heap.size := ⟨_, rfl⟩
        rw [← hq3] at H3 ⊢
        have hq3b : w.heap.size ≤ q3 := by omega
        clear hq3
        go_loopw [] (fun wr => Lead2 J F xs0 ys K (E r) q3 w wr) (fun wr => wr.rangeLeft (E r) q3)
        case atStart =>
          refine ⟨K, K.length, ys, F1, H3.out.1, H3.out.2.1, H3.out.2.2.1, fun t => ⟨.inl, fun h => h.elim id fun h => absurd h.1 h.2⟩, Nat.le_refl _, H3.out.2.2.2⟩
        case round =>
          obtain ⟨L, cnt, ys2, F2, hR4, hJ4, hX4, hys4, hcn4, hr4⟩ := hrel
          have hEr : ¬ F2 (E r) := fun hc => by
            have hlt := HH.out.1.row.lt.2 r (by have := HH.out.1.flen; omega)
            rcases hX4.new _ hc with h | h
            · exact HH.out.2.1.2.2.2 r hrn h
            · omega
          have H4 := Lib.hid (And.intro hR4 (And.intro hJ4 (And.intro hX4 (And.intro hys4 (And.intro hr4 hEr)))))
          have hL4 := Lib.hid (HH.out.1.fx HH.out.2.1 hX4)
          have ht4 := hL4.out.tb.cell 3 (v := .slice (some ⟨N, 0, none⟩) n n) rfl
          have hn4 := hL4.out.emp.cell HR.out.2.2.1
          clear hR4 hJ4 hX4 hys4 hr4 hEr
          obtain ⟨w4, rfl⟩ : ∃ w4 : World, w4 = wr := ⟨_, rfl⟩
          cases bb with
          | true =>
            go_wp2_with (first | (at_next; refine wpList_next rfl (.tmp 37) 3 4 (E r) q3 K L cnt rfl Try.underlying3 Try.underlying4 rfl H4.out.1 ?_ ?_; all_goals first | (intro x cb w5 cnt5 hx64 hxL hxK hR5 hcl5 hg5 hsz5 hen5; have hx2 := HKB.out x hxK; have hJ5 := Lib.hid (HJK.out F2 _ _ _ _ H4.out.2.1 hg5 (fun k e => by injection e with e; subst e; exact ⟨H4.out.2.2.2.2.1, by omega⟩)); have hX5 := Lib.hid (H4.out.2.2.1.grown hg5 (fun k e => by injection e with e; subst e; exact .inr hq3b)); have hR5h := Lib.hid hR5; clear hR5) | intro hL0) | (go_at_call 61; refine (HJ.out.2.2 _ _ _ x hJ5.out hx2 (by simp; omega) (by have := hX5.out.size; omega)).mono ?_; rintro e w6 ⟨rfl, F6, hJ6, hX6⟩))
            · refine ⟨⟨j + 1, ys2, F2, pre ++ K, by omega, by simp, H4.out.2.1, H4.out.2.2.1, ?_, ?_, by omega⟩, by simp [intOf]; omega⟩
              · have h : leadL _ _ _ = _ := H1.out.2.2.1
                show _ = _
                rw [h, HD.out, hll.out, if_pos rfl, List.append_assoc]
              · refine mem_split (K := K) (L := L) (fun t => ?_) hL0
                rw [H4.out.2.2.2.1.out t, H1.out.2.2.2.out t]
            · have hl5 := hR5h.out.lt
              have hb6 : ¬ F2 (E r) := H4.out.2.2.2.2.2
              have hR6 := hR5h.out.keep (hX6.block _ hl5.1 hb6) (hX6.block _ hl5.2.1 H4.out.2.2.2.2.1)
              refine ⟨⟨L.filter (· ≠ x), cnt5, ys2 ++ [x], F6, hR6, by rw [← List.append_assoc]; exact hJ6, hX5.out.trans hX6, fun t => ?_, by simp; omega, fun hc => ?_⟩, by rw [hR6.left_eq, H4.out.1.left_eq]; exact hcl5⟩
              · rw [List.mem_append, H4.out.2.2.2.1.out t, notin_filter1, List.mem_singleton]
                constructor
                · rintro ((h | ⟨h1, h2⟩) | rfl)
                  · exact .inl h
                  · exact .inr ⟨h1, .inl h2⟩
                  · exact .inr ⟨hxK, .inr rfl⟩
                · rintro (h | ⟨h1, h2 | rfl⟩)
                  · exact .inl (.inl h)
                  · exact .inl (.inr ⟨h1, h2⟩)
                  · exact .inr rfl
              · rcases hX6.new _ hc with h | h
                · exact H4.out.2.2.2.2.1 h
                · omega
          | false =>
            go_wp2_with (first | (at_next; refine wpList_next rfl (.tmp 37) 3 4 (E r) q3 K L cnt rfl Try.underlying3 Try.underlying4 rfl H4.out.1 ?_ ?_; all_goals first | (intro x cb w5 cnt5 hx64 hxL hxK hR5 hcl5 hg5 hsz5 hen5; have hx2 := HKB.out x hxK; have hJ5 := Lib.hid (HJK.out F2 _ _ _ _ H4.out.2.1 hg5 (fun k e => by injection e with e; subst e; exact ⟨H4.out.2.2.2.2.1, by omega⟩)); have hX5 := Lib.hid (H4.out.2.2.1.grown hg5 (fun k e => by injection e with e; subst e; exact .inr hq3b)); have hR5h := Lib.hid hR5; clear hR5) | intro hL0) | (go_at_call 61; refine (HJ.out.2.2 _ _ _ x hJ5.out hx2 (by simp; omega) (by have := hX5.out.size; omega)).mono ?_; rintro e w6 ⟨rfl, F6, hJ6, hX6⟩))
            · have hgen : leadEnd J F xs0 nl fs s w (.returned (.tuple #[])) w4 := by
                refine ⟨rfl, ys2, F2, H4.out.2.1, H4.out.2.2.1, ?_, by omega⟩
                have h : leadL _ _ _ = _ := H1.out.2.2.1
                rw [h, HD.out, hll.out, if_neg (by simp), List.append_nil]
                refine mem_split (K := K) (L := L) (fun t => ?_) hL0
                rw [H4.out.2.2.2.1.out t, H1.out.2.2.2.out t]
              exact ⟨rfl, .tuple #[], by simp [results, Try.results53, go_sem], hgen⟩
            · have hl5 := hR5h.out.lt
              have hb6 : ¬ F2 (E r) := H4.out.2.2.2.2.2
              have hR6 := hR5h.out.keep (hX6.block _ hl5.1 hb6) (hX6.block _ hl5.2.1 H4.out.2.2.2.2.1)
              refine ⟨⟨L.filter (· ≠ x), cnt5, ys2 ++ [x], F6, hR6, by rw [← List.append_assoc]; exact hJ6, hX5.out.trans hX6, fun t => ?_, by simp; omega, fun hc => ?_⟩, by rw [hR6.left_eq, H4.out.1.left_eq]; exact hcl5⟩
              · rw [List.mem_append, H4.out.2.2.2.1.out t, notin_filter1, List.mem_singleton]
                constructor
                · rintro ((h | ⟨h1, h2⟩) | rfl)
                  · exact .inl h
                  · exact .inr ⟨h1, .inl h2⟩
                  · exact .inr ⟨hxK, .inr rfl⟩
                · rintro (h | ⟨h1, h2 | rfl⟩)
                  · exact .inl (.inl h)
                  · exact .inl (.inr ⟨h1, h2⟩)
                  · exact .inr rfl
              · rcases hX6.new _ hc with h | h
                · exact H4.out.2.2.2.2.1 h
                · omega
      · rw [decide_eq_false hr] at hrule
        have hll := Lib.hid (fun s => leadL_not (nl := nl) (fs := fs) (k := k) (s := s) (by rw [hL1.out.nlen]; exact hr))
        have HRU := Lib.hid hrule
        clear hrule hr
        obtain ⟨w1, rfl⟩ : ∃ w1 : World, w1 = wr := ⟨_, rfl⟩
        by_cases hk0 : k ≥ 0
        · go_wp2_with (first | (go_at_call 52; refine HRU.out.mono ?_; rintro e w2 ⟨⟨q, rfl, hq⟩, hD⟩; clear hq; have hJ2 := Lib.hid (HJ.out.2.1 _ _ _ _ H1.out.1 ⟨hD.below.os, hD.below.tape, hD.below.output⟩ hD.below.size (fun c hc _ => hD.below.block c hc)); have hX2 := Lib.hid (H1.out.2.1.below hD.below); have hsz2 := hD.below.size) | (go_at_call 61; refine (HJ.out.2.2 _ _ _ k hJ2.out ⟨hk0, hk100⟩ (by simp; omega) (by omega)).mono ?_; rintro e w6 ⟨rfl, F6, hJ6, hX6⟩))
          have hgen : leadEnd J F xs0 nl fs s w (.returned (.tuple #[])) w6 := by
            refine ⟨rfl, ys ++ [k], F6, by rw [← List.append_assoc]; exact hJ6, hX2.out.trans hX6, fun t => ?_, by simp; omega⟩
            have h : leadL _ _ _ = _ := H1.out.2.2.1
            rw [h, HD.out, hll.out, if_pos hk0, List.mem_append, List.mem_append, H1.out.2.2.2.out t]
          exact ⟨rfl, .tuple #[], by simp [results, Try.results53, go_sem], hgen⟩
        · go_wp2_with (go_at_call 52; refine HRU.out.mono ?_; rintro e w2 ⟨⟨q, rfl, hq⟩, hD⟩; clear hq; have hJ2 := Lib.hid (HJ.out.2.1 _ _ _ _ H1.out.1 ⟨hD.below.os, hD.below.tape, hD.below.output⟩ hD.below.size (fun c hc _ => hD.below.block c hc)); have hX2 := Lib.hid (H1.out.2.1.below hD.below); have hsz2 := hD.below.size)
          have hgen : leadEnd J F xs0 nl fs s w (.returned (.tuple #[])) w2 := by
            refine ⟨rfl, ys, F1, hJ2.out, hX2.out, fun t => ?_, by omega⟩
            have h : leadL _ _ _ = _ := H1.out.2.2.1
            rw [h, HD.out, hll.out, if_neg (by omega), List.append_nil, H1.out.2.2.2.out t]
          exact ⟨rfl, .tuple #[], by simp [results, Try.results53, go_sem], hgen⟩
    · have hje : j = s.length := by omega
      subst hje
      have hgen : leadEnd J F xs0 nl fs s w (.returned (.tuple #[])) wr := by
        refine ⟨rfl, ys, F1, H1.out.1, H1.out.2.1, fun t => ?_, hyl⟩
        have h : leadL _ _ _ = _ := H1.out.2.2.1
        rw [h, List.drop_length, leadL, List.append_nil, H1.out.2.2.2.out t]
      have HG := Lib.hid hgen
      clear hgen
      go_wp2
      exact ⟨rfl, .tuple #[], by simp [results, Try.results53, go_sem], HG.out⟩
set_option maxRecDepth 100000 in
set_option maxHeartbeats 4000000 in
theorem leadC_calls (J : List Int → (Nat → Prop) → World → Prop) (B0 : Nat) (pv qv : Nat)
    (jlt : ∀ xs F w, J xs F w → ∀ c, F c → c < w.heap.size)
    (jkeep : ∀ xs F w w', J xs F w → (w'.os = w.os ∧ w'.tape = w.tape ∧ w'.output = w.output) → w.heap.size ≤ w'.heap.size → (∀ c, c < w.heap.size → (c < B0 ∨ F c) → w'.heap[c]? = w.heap[c]?) → J xs F w')
    (jlay : ∀ xs F w t, J xs F w → 0 ≤ t ∧ t ≤ 100000 → xs.length ≤ 1000000 → B0 ≤ w.heap.size → Calls Try.prog 54 #[.int .i64 t, .pointer (some ⟨pv, 0, none⟩), .pointer (some ⟨qv, 0, none⟩)] w fun e w' => e = .returned (.tuple #[]) ∧ ∃ F', J (xs ++ [t]) F' w' ∧ Fx w w' F F')
    (w : World) (F : Nat → Prop) (xs0 : List Int) (hJ : J xs0 F w) (hB0 : B0 ≤ w.heap.size) (hF : ∀ c, F c → c < w.heap.size) (T N R : Nat) (E : Nat → Nat) (a b : Value) (A : Option Addr) (n c3 : Nat) (z u : Value) (nl : List Bool) (fs : List (List Int)) (s : List Int)
    (h : LeadAt w T N R E a b A n c3 z nl fs) (hA : Apart F T N R E n) (hn : n ≤ 1000) (hu : ∀ w' F', Fx w w' F F' → Sl Ty.int w' u s) (hb : ∀ l ∈ fs, l.length ≤ 1000 ∧ ∀ t ∈ l, 0 ≤ t ∧ t ≤ 100000) (hs : ∀ k ∈ s, k ≤ 100000) (hsl : s.length ≤ 200) (hx0 : xs0.length ≤ 500000) :
    Calls Try.prog 53 #[.pointer (some ⟨T, 0, none⟩), u, .func (.func 54) #[] #[.pointer (some ⟨pv, 0, none⟩), .pointer (some ⟨qv, 0, none⟩)]] w (leadEnd J F xs0 nl fs s w) := by
  obtain ⟨AU, cU, rfl, ku1, ku2, ku3, _⟩ := hu w F (Fx.refl _ _)
  unfold LB at ku3
  have HH := Lib.hid (And.intro h (And.intro hA (And.intro hu (And.intro hb hs))))
  have HJ := Lib.hid (And.intro jlt (And.intro jkeep jlay))
  have HJ0 := Lib.hid hJ
  clear h hA hu hb hs jlt jkeep jlay hJ
  go_enter Try.func53, Try.ntmps53
  go_wp2
  go_loopw [13] (fun i wr => Lead0 J F xs0 nl fs s w i wr) (fun i _ => s.length - (intOf i).toNat)
  case atStart => exact ⟨0, [], F, [], Nat.zero_le _, rfl, by simpa using HJ0.out, Fx.refl _ _, by simp [Hid], by simp [Hid], by simp⟩
  case round =>
    obtain ⟨j, ys, F1, pre, hj, rfl, hJ1, hX1, hpre, hys, hyl⟩ := hrel
    have H1 := Lib.hid (And.intro hJ1 (And.intro hX1 (And.intro hpre hys)))
    have hsz1 := hX1.size
    clear hJ1 hX1 hpre hys
    have hL1 := Lib.hid (HH.out.1.fx HH.out.2.1 H1.out.2.1)
    by_cases hlt : j < s.length
    · obtain ⟨k, hk⟩ := at_lt s hlt
      obtain ⟨A9, c9, e9, _, _, _, hrow9⟩ := HH.out.2.2.1 wr F1 H1.out.2.1
      injection e9 with e91 e92 e93
      subst e91 e93
      obtain ⟨ad, rfl, hk64, hcell⟩ := hrow9.int hk
      have hkm := List.mem_of_getElem? hk
      have hk100 := HH.out.2.2.2.2 k hkm
      have hdrop := drop_at hk
      have HD := Lib.hid hdrop
      clear hrow9 e92 hk hdrop hkm
      have hrule := rule_calls T a b (.slice (some ⟨N, 0, none⟩) n n) (.slice (some ⟨R, 0, none⟩) n n) z A n c3 k wr hL1.out.tb hk64 (by omega)
      by_cases hr : k < 0 ∧ -1 - k < (n : Int)
      · rw [decide_eq_true hr] at hrule
        obtain ⟨r, hr'⟩ : ∃ r : Nat, -1 - k = r := ⟨(-1 - k).toNat, by omega⟩
        have hrn : r < n := by omega
        have hlens := And.intro hL1.out.nlen hL1.out.flen
        obtain ⟨bb, hbb⟩ := at_lt nl (show r < nl.length by omega)
        obtain ⟨K, hK⟩ := at_lt fs (show r < fs.length by omega)
        have hKb := HH.out.2.2.2.1 K (List.mem_of_getElem? hK)
        have hKl := hKb.1
        have HKB := Lib.hid hKb.2
        have hll := Lib.hid (fun s => leadL_rule (s := s) hr.1 hr' (by omega) hK hbb)
        have HR := Lib.hid (And.intro hr (And.intro hr' (And.intro hbb hK)))
        have HRU := Lib.hid hrule
        clear hrule hr hr' hbb hK hKb hlens
        have hJk : ∀ (F : Nat → Prop) (xs : List Int) (w1 w2 : World) (row : Option Nat), J xs F w1 → w1.grownBy w2 row → (∀ k, row = some k → ¬ F k ∧ B0 ≤ k) → J xs F w2 := fun F xs w1 w2 row hj hg hr => HJ.out.2.1 xs F w1 w2 hj ⟨hg.os, hg.tape, hg.output⟩ hg.size fun c hc ho => hg.block c hc fun e => by
          obtain ⟨h1, h2⟩ := hr c e.symm
          rcases ho with ho | ho
          · omega
          · exact h1 ho
        have HJK := Lib.hid hJk
        clear hJk
        obtain ⟨w1, rfl⟩ : ∃ w1 : World, w1 = wr := ⟨_, rfl⟩
        go_wp2_with (first | (go_at_call 52; refine HRU.out.mono ?_; rintro e w2 ⟨⟨q, rfl, hq⟩, hD⟩; obtain rfl : q = (r : Int) := (hq HR.out.1.1).trans HR.out.2.1; clear hq; have hL2 := Lib.hid (hL1.out.fx (F := fun _ => False) ⟨id, id, id, fun _ _ => id⟩ ((Fx.refl w1 (fun _ => False)).below hD.below)); have htc := hL2.out.tb.cell 4 (v := .slice (some ⟨R, 0, none⟩) n n) rfl; have hec := hL2.out.row.cell (i := r) (by have := hL1.out.flen; omega); have hS2 := Lib.hid (hL2.out.row.set r K HR.out.2.2.2); have hJ2 := Lib.hid (HJ.out.2.1 _ _ _ _ H1.out.1 ⟨hD.below.os, hD.below.tape, hD.below.output⟩ hD.below.size (fun c hc _ => hD.below.block c hc)); have hX2 := Lib.hid (H1.out.2.1.below hD.below); have hsz2 := hD.below.size) | (at_range; refine wpList_range rfl (.tmp 36) 65 3 4 (E r) K rfl Try.underlying3 Try.underlying65 rfl hS2.out ?_; intro w3 hR3 hg3 hs3))
        go_frame
        have hJ3 := HJK.out F1 _ _ _ none hJ2.out hg3 (by simp)
        have hX3 := hX2.out.grown hg3 (by simp)
        have hr3 : ¬ F1 w2.heap.size := fun hc => by have := HJ.out.1 _ _ _ hJ2.out _ hc; omega
        have hFE : ∀ F', Fx w w1 F F' → True := fun _ _ => trivial
        have H3 := Lib.hid (And.intro hR3 (And.intro hJ3 (And.intro hX3 hr3)))
        clear hR3 hJ3 hX3 hr3 hFE
        obtain ⟨q3, hq3⟩ : ∃ q3, q3 = w2.heap.size := ⟨_, rfl⟩
        rw [← hq3] at H3 ⊢
        have hq3b : w.heap.size ≤ q3 := by omega
        clear hq3
        go_loopw [] (fun wr => Lead2 J F xs0 ys K (E r) q3 w wr) (fun wr => wr.rangeLeft (E r) q3)
        case atStart =>
          refine ⟨K, K.length, ys, F1, H3.out.1, H3.out.2.1, H3.out.2.2.1, fun t => ⟨.inl, fun h => h.elim id fun h => absurd h.1 h.2⟩, Nat.le_refl _, H3.out.2.2.2⟩
        case round =>
          obtain ⟨L, cnt, ys2, F2, hR4, hJ4, hX4, hys4, hcn4, hr4⟩ := hrel
          have hEr : ¬ F2 (E r) := fun hc => by
            have hlt := HH.out.1.row.lt.2 r (by have := HH.out.1.flen; omega)
            rcases hX4.new _ hc with h | h
            · exact HH.out.2.1.2.2.2 r hrn h
            · omega
          have H4 := Lib.hid (And.intro hR4 (And.intro hJ4 (And.intro hX4 (And.intro hys4 (And.intro hr4 hEr)))))
          have hL4 := Lib.hid (HH.out.1.fx HH.out.2.1 hX4)
          have ht4 := hL4.out.tb.cell 3 (v := .slice (some ⟨N, 0, none⟩) n n) rfl
          have hn4 := hL4.out.emp.cell HR.out.2.2.1
          clear hR4 hJ4 hX4 hys4 hr4 hEr
          obtain ⟨w4, rfl⟩ : ∃ w4 : World, w4 = wr := ⟨_, rfl⟩
          cases bb with
          | true =>
            go_wp2_with (first | (at_next; refine wpList_next rfl (.tmp 37) 3 4 (E r) q3 K L cnt rfl Try.underlying3 Try.underlying4 rfl H4.out.1 ?_ ?_; all_goals first | (intro x cb w5 cnt5 hx64 hxL hxK hR5 hcl5 hg5 hsz5 hen5; have hx2 := HKB.out x hxK; have hJ5 := Lib.hid (HJK.out F2 _ _ _ _ H4.out.2.1 hg5 (fun k e => by injection e with e; subst e; exact ⟨H4.out.2.2.2.2.1, by omega⟩)); have hX5 := Lib.hid (H4.out.2.2.1.grown hg5 (fun k e => by injection e with e; subst e; exact .inr hq3b)); have hR5h := Lib.hid hR5; clear hR5) | intro hL0) | (go_at_call 54; refine (HJ.out.2.2 _ _ _ x hJ5.out hx2 (by simp; omega) (by have := hX5.out.size; omega)).mono ?_; rintro e w6 ⟨rfl, F6, hJ6, hX6⟩))
            · refine ⟨⟨j + 1, ys2, F2, pre ++ K, by omega, by simp, H4.out.2.1, H4.out.2.2.1, ?_, ?_, by omega⟩, by simp [intOf]; omega⟩
              · have h : leadL _ _ _ = _ := H1.out.2.2.1
                show _ = _
                rw [h, HD.out, hll.out, if_pos rfl, List.append_assoc]
              · refine mem_split (K := K) (L := L) (fun t => ?_) hL0
                rw [H4.out.2.2.2.1.out t, H1.out.2.2.2.out t]
            · have hl5 := hR5h.out.lt
              have hb6 : ¬ F2 (E r) := H4.out.2.2.2.2.2
              have hR6 := hR5h.out.keep (hX6.block _ hl5.1 hb6) (hX6.block _ hl5.2.1 H4.out.2.2.2.2.1)
              refine ⟨⟨L.filter (· ≠ x), cnt5, ys2 ++ [x], F6, hR6, by rw [← List.append_assoc]; exact hJ6, hX5.out.trans hX6, fun t => ?_, by simp; omega, fun hc => ?_⟩, by rw [hR6.left_eq, H4.out.1.left_eq]; exact hcl5⟩
              · rw [List.mem_append, H4.out.2.2.2.1.out t, notin_filter1, List.mem_singleton]
                constructor
                · rintro ((h | ⟨h1, h2⟩) | rfl)
                  · exact .inl h
                  · exact .inr ⟨h1, .inl h2⟩
                  · exact .inr ⟨hxK, .inr rfl⟩
                · rintro (h | ⟨h1, h2 | rfl⟩)
                  · exact .inl (.inl h)
                  · exact .inl (.inr ⟨h1, h2⟩)
                  · exact .inr rfl
              · rcases hX6.new _ hc with h | h
                · exact H4.out.2.2.2.2.1 h
                · omega
          | false =>
            go_wp2_with (first | (at_next; refine wpList_next rfl (.tmp 37) 3 4 (E r) q3 K L cnt rfl Try.underlying3 Try.underlying4 rfl H4.out.1 ?_ ?_; all_goals first | (intro x cb w5 cnt5 hx64 hxL hxK hR5 hcl5 hg5 hsz5 hen5; have hx2 := HKB.out x hxK; have hJ5 := Lib.hid (HJK.out F2 _ _ _ _ H4.out.2.1 hg5 (fun k e => by injection e with e; subst e; exact ⟨H4.out.2.2.2.2.1, by omega⟩)); have hX5 := Lib.hid (H4.out.2.2.1.grown hg5 (fun k e => by injection e with e; subst e; exact .inr hq3b)); have hR5h := Lib.hid hR5; clear hR5) | intro hL0) | (go_at_call 54; refine (HJ.out.2.2 _ _ _ x hJ5.out hx2 (by simp; omega) (by have := hX5.out.size; omega)).mono ?_; rintro e w6 ⟨rfl, F6, hJ6, hX6⟩))
            · have hgen : leadEnd J F xs0 nl fs s w (.returned (.tuple #[])) w4 := by
                refine ⟨rfl, ys2, F2, H4.out.2.1, H4.out.2.2.1, ?_, by omega⟩
                have h : leadL _ _ _ = _ := H1.out.2.2.1
                rw [h, HD.out, hll.out, if_neg (by simp), List.append_nil]
                refine mem_split (K := K) (L := L) (fun t => ?_) hL0
                rw [H4.out.2.2.2.1.out t, H1.out.2.2.2.out t]
              exact ⟨rfl, .tuple #[], by simp [results, Try.results53, go_sem], hgen⟩
            · have hl5 := hR5h.out.lt
              have hb6 : ¬ F2 (E r) := H4.out.2.2.2.2.2
              have hR6 := hR5h.out.keep (hX6.block _ hl5.1 hb6) (hX6.block _ hl5.2.1 H4.out.2.2.2.2.1)
              refine ⟨⟨L.filter (· ≠ x), cnt5, ys2 ++ [x], F6, hR6, by rw [← List.append_assoc]; exact hJ6, hX5.out.trans hX6, fun t => ?_, by simp; omega, fun hc => ?_⟩, by rw [hR6.left_eq, H4.out.1.left_eq]; exact hcl5⟩
              · rw [List.mem_append, H4.out.2.2.2.1.out t, notin_filter1, List.mem_singleton]
                constructor
                · rintro ((h | ⟨h1, h2⟩) | rfl)
                  · exact .inl h
                  · exact .inr ⟨h1, .inl h2⟩
                  · exact .inr ⟨hxK, .inr rfl⟩
                · rintro (h | ⟨h1, h2 | rfl⟩)
                  · exact .inl (.inl h)
                  · exact .inl (.inr ⟨h1, h2⟩)
                  · exact .inr rfl
              · rcases hX6.new _ hc with h | h
                · exact H4.out.2.2.2.2.1 h
                · omega
      · rw [decide_eq_false hr] at hrule
        have hll := Lib.hid (fun s => leadL_not (nl := nl) (fs := fs) (k := k) (s := s) (by rw [hL1.out.nlen]; exact hr))
        have HRU := Lib.hid hrule
        clear hrule hr
        obtain ⟨w1, rfl⟩ : ∃ w1 : World, w1 = wr := ⟨_, rfl⟩
        by_cases hk0 : k ≥ 0
        · go_wp2_with (first | (go_at_call 52; refine HRU.out.mono ?_; rintro e w2 ⟨⟨q, rfl, hq⟩, hD⟩; clear hq; have hJ2 := Lib.hid (HJ.out.2.1 _ _ _ _ H1.out.1 ⟨hD.below.os, hD.below.tape, hD.below.output⟩ hD.below.size (fun c hc _ => hD.below.block c hc)); have hX2 := Lib.hid (H1.out.2.1.below hD.below); have hsz2 := hD.below.size) | (go_at_call 54; refine (HJ.out.2.2 _ _ _ k hJ2.out ⟨hk0, hk100⟩ (by simp; omega) (by omega)).mono ?_; rintro e w6 ⟨rfl, F6, hJ6, hX6⟩))
          have hgen : leadEnd J F xs0 nl fs s w (.returned (.tuple #[])) w6 := by
            refine ⟨rfl, ys ++ [k], F6, by rw [← List.append_assoc]; exact hJ6, hX2.out.trans hX6, fun t => ?_, by simp; omega⟩
            have h : leadL _ _ _ = _ := H1.out.2.2.1
            rw [h, HD.out, hll.out, if_pos hk0, List.mem_append, List.mem_append, H1.out.2.2.2.out t]
          exact ⟨rfl, .tuple #[], by simp [results, Try.results53, go_sem], hgen⟩
        · go_wp2_with (go_at_call 52; refine HRU.out.mono ?_; rintro e w2 ⟨⟨q, rfl, hq⟩, hD⟩; clear hq; have hJ2 := Lib.hid (HJ.out.2.1 _ _ _ _ H1.out.1 ⟨hD.below.os, hD.below.tape, hD.below.output⟩ hD.below.size (fun c hc _ => hD.below.block c hc)); have hX2 := Lib.hid (H1.out.2.1.below hD.below); have hsz2 := hD.below.size)
          have hgen : leadEnd J F xs0 nl fs s w (.returned (.tuple #[])) w2 := by
            refine ⟨rfl, ys, F1, hJ2.out, hX2.out, fun t => ?_, by omega⟩
            have h : leadL _ _ _ = _ := H1.out.2.2.1
            rw [h, HD.out, hll.out, if_neg (by omega), List.append_nil, H1.out.2.2.2.out t]
          exact ⟨rfl, .tuple #[], by simp [results, Try.results53, go_sem], hgen⟩
    · have hje : j = s.length := by omega
      subst hje
      have hgen : leadEnd J F xs0 nl fs s w (.returned (.tuple #[])) wr := by
        refine ⟨rfl, ys, F1, H1.out.1, H1.out.2.1, fun t => ?_, hyl⟩
        have h : leadL _ _ _ = _ := H1.out.2.2.1
        rw [h, List.drop_length, leadL, List.append_nil, H1.out.2.2.2.out t]
      have HG := Lib.hid hgen
      clear hgen
      go_wp2
      exact ⟨rfl, .tuple #[], by simp [results, Try.results53, go_sem], HG.out⟩
end Go.Proofs.Ytigbfankkmmnbaa
