/- tables.each: the walks, for each function value that is handed in (written by gen_each.py); open: what is handed to each: the walks. -/
import Derived.Test.YtigbfankkmmnbaaZ10
import Derived.Deep.LoopGhost
set_option linter.unusedVariables false
set_option linter.unusedSimpArgs false
namespace Go.Proofs.Ytigbfankkmmnbaa
open Go.RowKit Gk

/-- the first s rules are closed, and the first j alternatives of the next -/
def ClTo {σ : Type} (c : Cfg) (Cl : Nat → List Int → σ → Prop) (t : σ) (s j : Nat) : Prop := ∀ (r : Nat) al (i : Nat) a, c.alts[r]? = some al → al[i]? = some a → (r < s ∨ r = s ∧ i < j) → Cl r a t
def EachP {σ : Type} (μ : σ → Nat) (c : Cfg) (Cl : Nat → List Int → σ → Prop) (t0 t : σ) (b : Bool) (s j : Nat) : Prop := (b = true → μ t < μ t0) ∧ (b = false → t = t0 ∧ ClTo c Cl t0 s j)
theorem EachP.step {σ : Type} {μ : σ → Nat} {c : Cfg} {Cl : Nat → List Int → σ → Prop} {t0 t t' : σ} {b b' : Bool} {s j : Nat} (h : EachP μ c Cl t0 t b s j) {al : List (List Int)} {a : List Int} (hal : c.alts[s]? = some al) (ha : al[j]? = some a)
    (h1 : b' = true → μ t' < μ t) (h2 : b' = false → t' = t ∧ Cl s a t) : EachP μ c Cl t0 t' (b' || b) s (j + 1) := by
  cases b' with
  | true =>
    refine ⟨fun _ => ?_, fun e => by cases e⟩
    have := h1 rfl
    cases b with
    | true => have := h.1 rfl; omega
    | false => rw [← (h.2 rfl).1]; exact this
  | false =>
    obtain ⟨e, h3⟩ := h2 rfl
    subst e
    refine ⟨h.1, fun e => ?_⟩
    obtain ⟨e2, h4⟩ := h.2 e
    subst e2
    refine ⟨rfl, fun r al' i a' hal' ha' hr => ?_⟩
    by_cases hx : r = s ∧ i = j
    · obtain ⟨rfl, rfl⟩ := hx
      rw [hal] at hal'; injection hal' with hal'; subst hal'
      rw [ha] at ha'; injection ha' with ha'; subst ha'
      exact h3
    · exact h4 r al' i a' hal' ha' (by omega)
theorem EachP.next {σ : Type} {μ : σ → Nat} {c : Cfg} {Cl : Nat → List Int → σ → Prop} {t0 t : σ} {b : Bool} {s : Nat} {al : List (List Int)} (hal : c.alts[s]? = some al) (h : EachP μ c Cl t0 t b s al.length) : EachP μ c Cl t0 t b (s + 1) 0 :=
  ⟨h.1, fun e => by
    obtain ⟨e2, h4⟩ := h.2 e
    refine ⟨e2, fun r al' i a' hal' ha' hr => h4 r al' i a' hal' ha' ?_⟩
    by_cases hx : r = s
    · subst hx
      rw [hal] at hal'; injection hal' with hal'; subst hal'
      exact .inr ⟨rfl, (List.getElem?_eq_some_iff.1 ha').1⟩
    · exact .inl (by omega)⟩
def EachS {σ : Type} (S : σ → World → Prop) (μ : σ → Nat) (c : Cfg) (Cl : Nat → List Int → σ → Prop) (gk : Nat) (flag : Value) (wr : World) : Prop :=
  ∃ t bb, flag = .bool bb ∧ S t wr ∧ (bb = true → μ t + 2 ≤ gk) ∧ Hid (bb = false → ClTo c Cl t c.alts.length 0)
def EachR {σ : Type} (S : σ → World → Prop) (μ : σ → Nat) (c : Cfg) (Cl : Nat → List Int → σ → Prop) (t0 : σ) (i flag : Value) (wr : World) : Prop :=
  ∃ (s : Nat) (t : σ) (bb : Bool), s ≤ c.alts.length ∧ i = .int .i64 s ∧ flag = .bool bb ∧ S t wr ∧ Hid (EachP μ c Cl t0 t bb s 0)
def EachA {σ : Type} (S : σ → World → Prop) (μ : σ → Nat) (c : Cfg) (Cl : Nat → List Int → σ → Prop) (t0 : σ) (s n : Nat) (i flag : Value) (wr : World) : Prop :=
  ∃ (j : Nat) (t : σ) (bb : Bool), j ≤ n ∧ i = .int .i64 j ∧ flag = .bool bb ∧ S t wr ∧ Hid (EachP μ c Cl t0 t bb s j)
set_option maxRecDepth 100000 in
set_option maxHeartbeats 4000000 in
theorem eachA_calls {σ : Type} (S : σ → World → Prop) (μ : σ → Nat) (Cl : Nat → List Int → σ → Prop) (pv : Nat) (w0 : World) (T : Nat) (a b : Value) (A3 : Option Addr) (c3 : Nat) (c : Cfg) (hal : c.alts.length ≤ 1000) (hrow : Row rowsT w0 A3 c.alts)
    (hS : ∀ t w, S t w → Below w0.heap.size w0 w ∧ ∃ x y z, Box w T #[a, b, .slice A3 c.alts.length c3, x, y, z] 56)
    (hstep : ∀ t w r al s u, S t w → c.alts[r]? = some al → s ∈ al → (∀ w', Below w0.heap.size w0 w' → Sl Ty.int w' u s) → Calls Try.prog 68 #[.int .i64 (r : Nat), u, .pointer (some ⟨pv, 0, none⟩)] w fun e w' => ∃ t' bb, e = .returned (.bool bb) ∧ S t' w' ∧ (bb = true → μ t' < μ t) ∧ (bb = false → t' = t ∧ Cl r s t))
    (t0 : σ) (w : World) (h : S t0 w) :
    Calls Try.prog 50 #[.pointer (some ⟨T, 0, none⟩), .func (.func 68) #[] #[.pointer (some ⟨pv, 0, none⟩)]] w fun e w' => e = .returned (.tuple #[]) ∧ ∃ t, S t w' ∧ ∀ (r : Nat) al s, c.alts[r]? = some al → s ∈ al → Cl r s t := by
  have HH := Lib.hid (And.intro h (And.intro hS hstep))
  clear h hS hstep
  go_enter Try.func50, Try.ntmps50
  go_wp2
  go_loopg [4] (μ t0 + 2) (fun gk flag wr => EachS S μ c Cl gk flag wr)
  case atStart => exact ⟨t0, true, rfl, HH.out.1, fun _ => Nat.le_refl _, fun h => (by cases h)⟩
  case round =>
    obtain ⟨t1, bb, rfl, hS, hgk, hfx⟩ := hrel
    have H0 := Lib.hid (And.intro hS (And.intro hgk hfx))
    clear hS hgk hfx
    cases bb with
    | false =>
      go_wp2
      refine ⟨rfl, .tuple #[], by simp [results, Try.results50, go_sem], rfl, t1, H0.out.1, fun r al s hal' hs => ?_⟩
      obtain ⟨i, hi⟩ := List.mem_iff_getElem?.1 hs
      exact H0.out.2.2.out (by first | rfl | trivial) r al i s hal' hi (.inl (List.getElem?_eq_some_iff.1 hal').1)
    | true =>
      obtain ⟨x1, y1, z1, hb1⟩ := (HH.out.2.1 t1 wr H0.out.1).2
      have htc := hb1.cell 2 (v := .slice A3 c.alts.length c3) rfl
      clear hb1
      obtain ⟨wa, rfl⟩ : ∃ wa : World, wa = wr := ⟨_, rfl⟩
      go_wp2
      go_loopw [16, 4] (fun i flag wr => EachR S μ c Cl t1 i flag wr) (fun i _ _ => c.alts.length - (intOf i).toNat)
      case atStart => exact ⟨0, t1, false, Nat.zero_le _, rfl, rfl, H0.out.1, fun h => (by cases h), fun _ => ⟨rfl, fun r al i s _ _ hr => by omega⟩⟩
      case round =>
        obtain ⟨s, t2, b2, hs, rfl, rfl, hS2, hP2⟩ := hrel
        have H2 := Lib.hid (And.intro hS2 (And.intro hP2 (HH.out.2.1 t2 wr hS2).1))
        clear hS2 hP2
        by_cases hlt : s < c.alts.length
        · obtain ⟨al, hal1⟩ := at_lt c.alts hlt
          obtain ⟨ad3, B3, c4, rfl, hcellB, g1, g2, g3, g4⟩ := (hrow.below H2.out.2.2).slice hal1
          have hrowB : Hid (∀ w' : World, Below w0.heap.size w0 w' → Row (Ty.slice Ty.int) w' B3 al) := by
            intro w' hb
            obtain ⟨ad0, B0, c0, e0, hcell0, _, _, _, g40⟩ := hrow.slice hal1
            injection e0 with e0
            subst e0
            have q1 := cell_far hcell0 H2.out.2.2.block
            rw [hcellB] at q1; injection q1 with q1; injection q1 with q1 _ _
            rw [q1]; exact g40.below hb
          have HAL := Lib.hid hal1; clear hal1 g4
          obtain ⟨w3, rfl⟩ : ∃ w3 : World, w3 = wr := ⟨_, rfl⟩
          go_wp2
          go_loopw [23, 4] (fun i flag wr => EachA S μ c Cl t1 s al.length i flag wr) (fun i _ _ => al.length - (intOf i).toNat)
          case atStart => exact ⟨0, t2, b2, Nat.zero_le _, rfl, rfl, H2.out.1, H2.out.2.1⟩
          case round =>
            obtain ⟨j, t3, b3, hj, rfl, rfl, hS3, hP3⟩ := hrel
            have H3 := Lib.hid (And.intro hS3 (And.intro hP3 (HH.out.2.1 t3 wr hS3).1))
            clear hS3 hP3
            by_cases hlt4 : j < al.length
            · obtain ⟨x, hx⟩ := at_lt al hlt4
              have hro : Row (Ty.slice Ty.int) wr B3 al := hrowB.out wr H3.out.2.2
              obtain ⟨adA, BA, cA, rfl, hcellA, a1, a2, a3, a4⟩ := hro.slice hx
              have hua : Hid (∀ w', Below w0.heap.size w0 w' → Sl Ty.int w' (.slice BA x.length cA) x) := by
                intro w' hb
                obtain ⟨ad5, B5, c5, e5, hcell5, y1, y2, y3, y4⟩ := (hrowB.out w0 (Below.refl _ _)).slice hx
                injection e5 with e5
                subst e5
                have q1 := cell_far hcell5 H3.out.2.2.block
                rw [hcellA] at q1; injection q1 with q1; injection q1 with q1 q2 q3
                subst q1 q3
                exact ⟨_, _, rfl, y1, y2, y3, y4.below hb⟩
              have hxm := List.mem_of_getElem? hx
              have hcl := HH.out.2.2 t3 wr s al x _ H3.out.1 HAL.out hxm hua.out
              have HCL := Lib.hid hcl
              have HX := Lib.hid hx
              clear hcl hx hro a4 hxm
              go_wp2_with (go_at_call 68; refine HCL.out.mono ?_; rintro e w5 ⟨t4, b4, rfl, hS5, ht5, hf5⟩; have H5 := Lib.hid (And.intro hS5 (H3.out.2.1.out.step HAL.out HX.out ht5 hf5)); clear hS5 ht5 hf5; cases b4)
              · exact ⟨⟨j + 1, t4, b3, by omega, by simp, rfl, H5.out.1, H5.out.2⟩, by simp [intOf]; omega⟩
              · exact ⟨⟨j + 1, t4, true, by omega, by simp, rfl, H5.out.1, H5.out.2⟩, by simp [intOf]; omega⟩
            · have hje : j = al.length := by omega
              subst hje
              go_wp2
              exact ⟨⟨s + 1, t3, b3, by omega, by simp, rfl, H3.out.1, H3.out.2.1.out.next HAL.out⟩, by simp [intOf]; omega⟩
        · have hse : s = c.alts.length := by omega
          subst hse
          have hgk := H0.out.2.1 (by first | rfl | trivial)
          have hPP := Lib.hid H2.out.2.1.out
          go_wp2
          go_roundg (if b2 = true then μ t2 + 2 else 0)
          case measure =>
            cases b2 with
            | false => simp; omega
            | true => have := hPP.out.1 rfl; simp; omega
          case rel =>
            refine ⟨t2, b2, rfl, H2.out.1, fun hb => by rw [if_pos hb]; exact Nat.le_refl _, fun hb => ?_⟩
            obtain ⟨e, h1⟩ := hPP.out.2 hb
            rw [e]; exact h1
set_option maxRecDepth 100000 in
set_option maxHeartbeats 4000000 in
theorem eachB_calls {σ : Type} (S : σ → World → Prop) (μ : σ → Nat) (Cl : Nat → List Int → σ → Prop) (pv : Nat) (w0 : World) (T : Nat) (a b : Value) (A3 : Option Addr) (c3 : Nat) (c : Cfg) (hal : c.alts.length ≤ 1000) (hrow : Row rowsT w0 A3 c.alts)
    (hS : ∀ t w, S t w → Below w0.heap.size w0 w ∧ ∃ x y z, Box w T #[a, b, .slice A3 c.alts.length c3, x, y, z] 56)
    (hstep : ∀ t w r al s u, S t w → c.alts[r]? = some al → s ∈ al → (∀ w', Below w0.heap.size w0 w' → Sl Ty.int w' u s) → Calls Try.prog 69 #[.int .i64 (r : Nat), u, .pointer (some ⟨pv, 0, none⟩)] w fun e w' => ∃ t' bb, e = .returned (.bool bb) ∧ S t' w' ∧ (bb = true → μ t' < μ t) ∧ (bb = false → t' = t ∧ Cl r s t))
    (t0 : σ) (w : World) (h : S t0 w) :
    Calls Try.prog 50 #[.pointer (some ⟨T, 0, none⟩), .func (.func 69) #[] #[.pointer (some ⟨pv, 0, none⟩)]] w fun e w' => e = .returned (.tuple #[]) ∧ ∃ t, S t w' ∧ ∀ (r : Nat) al s, c.alts[r]? = some al → s ∈ al → Cl r s t := by
  have HH := Lib.hid (And.intro h (And.intro hS hstep))
  clear h hS hstep
  go_enter Try.func50, Try.ntmps50
  go_wp2
  go_loopg [4] (μ t0 + 2) (fun gk flag wr => EachS S μ c Cl gk flag wr)
  case atStart => exact ⟨t0, true, rfl, HH.out.1, fun _ => Nat.le_refl _, fun h => (by cases h)⟩
  case round =>
    obtain ⟨t1, bb, rfl, hS, hgk, hfx⟩ := hrel
    have H0 := Lib.hid (And.intro hS (And.intro hgk hfx))
    clear hS hgk hfx
    cases bb with
    | false =>
      go_wp2
      refine ⟨rfl, .tuple #[], by simp [results, Try.results50, go_sem], rfl, t1, H0.out.1, fun r al s hal' hs => ?_⟩
      obtain ⟨i, hi⟩ := List.mem_iff_getElem?.1 hs
      exact H0.out.2.2.out (by first | rfl | trivial) r al i s hal' hi (.inl (List.getElem?_eq_some_iff.1 hal').1)
    | true =>
      obtain ⟨x1, y1, z1, hb1⟩ := (HH.out.2.1 t1 wr H0.out.1).2
      have htc := hb1.cell 2 (v := .slice A3 c.alts.length c3) rfl
      clear hb1
      obtain ⟨wa, rfl⟩ : ∃ wa : World, wa = wr := ⟨_, rfl⟩
      go_wp2
      go_loopw [16, 4] (fun i flag wr => EachR S μ c Cl t1 i flag wr) (fun i _ _ => c.alts.length - (intOf i).toNat)
      case atStart => exact ⟨0, t1, false, Nat.zero_le _, rfl, rfl, H0.out.1, fun h => (by cases h), fun _ => ⟨rfl, fun r al i s _ _ hr => by omega⟩⟩
      case round =>
        obtain ⟨s, t2, b2, hs, rfl, rfl, hS2, hP2⟩ := hrel
        have H2 := Lib.hid (And.intro hS2 (And.intro hP2 (HH.out.2.1 t2 wr hS2).1))
        clear hS2 hP2
        by_cases hlt : s < c.alts.length
        · obtain ⟨al, hal1⟩ := at_lt c.alts hlt
          obtain ⟨ad3, B3, c4, rfl, hcellB, g1, g2, g3, g4⟩ := (hrow.below H2.out.2.2).slice hal1
          have hrowB : Hid (∀ w' : World, Below w0.heap.size w0 w' → Row (Ty.slice Ty.int) w' B3 al) := by
            intro w' hb
            obtain ⟨ad0, B0, c0, e0, hcell0, _, _, _, g40⟩ := hrow.slice hal1
            injection e0 with e0
            subst e0
            have q1 := cell_far hcell0 H2.out.2.2.block
            rw [hcellB] at q1; injection q1 with q1; injection q1 with q1 _ _
            rw [q1]; exact g40.below hb
          have HAL := Lib.hid hal1; clear hal1 g4
          obtain ⟨w3, rfl⟩ : ∃ w3 : World, w3 = wr := ⟨_, rfl⟩
          go_wp2
          go_loopw [23, 4] (fun i flag wr => EachA S μ c Cl t1 s al.length i flag wr) (fun i _ _ => al.length - (intOf i).toNat)
          case atStart => exact ⟨0, t2, b2, Nat.zero_le _, rfl, rfl, H2.out.1, H2.out.2.1⟩
          case round =>
            obtain ⟨j, t3, b3, hj, rfl, rfl, hS3, hP3⟩ := hrel
            have H3 := Lib.hid (And.intro hS3 (And.intro hP3 (HH.out.2.1 t3 wr hS3).1))
            clear hS3 hP3
            by_cases hlt4 : j < al.length
            · obtain ⟨x, hx⟩ := at_lt al hlt4
              have hro : Row (Ty.slice Ty.int) wr B3 al := hrowB.out wr H3.out.2.2
              obtain ⟨adA, BA, cA, rfl, hcellA, a1, a2, a3, a4⟩ := hro.slice hx
              have hua : Hid (∀ w', Below w0.heap.size w0 w' → Sl Ty.int w' (.slice BA x.length cA) x) := by
                intro w' hb
                obtain ⟨ad5, B5, c5, e5, hcell5, y1, y2, y3, y4⟩ := (hrowB.out w0 (Below.refl _ _)).slice hx
                injection e5 with e5
                subst e5
                have q1 := cell_far hcell5 H3.out.2.2.block
                rw [hcellA] at q1; injection q1 with q1; injection q1 with q1 q2 q3
                subst q1 q3
                exact ⟨_, _, rfl, y1, y2, y3, y4.below hb⟩
              have hxm := List.mem_of_getElem? hx
              have hcl := HH.out.2.2 t3 wr s al x _ H3.out.1 HAL.out hxm hua.out
              have HCL := Lib.hid hcl
              have HX := Lib.hid hx
              clear hcl hx hro a4 hxm
              go_wp2_with (go_at_call 69; refine HCL.out.mono ?_; rintro e w5 ⟨t4, b4, rfl, hS5, ht5, hf5⟩; have H5 := Lib.hid (And.intro hS5 (H3.out.2.1.out.step HAL.out HX.out ht5 hf5)); clear hS5 ht5 hf5; cases b4)
              · exact ⟨⟨j + 1, t4, b3, by omega, by simp, rfl, H5.out.1, H5.out.2⟩, by simp [intOf]; omega⟩
              · exact ⟨⟨j + 1, t4, true, by omega, by simp, rfl, H5.out.1, H5.out.2⟩, by simp [intOf]; omega⟩
            · have hje : j = al.length := by omega
              subst hje
              go_wp2
              exact ⟨⟨s + 1, t3, b3, by omega, by simp, rfl, H3.out.1, H3.out.2.1.out.next HAL.out⟩, by simp [intOf]; omega⟩
        · have hse : s = c.alts.length := by omega
          subst hse
          have hgk := H0.out.2.1 (by first | rfl | trivial)
          have hPP := Lib.hid H2.out.2.1.out
          go_wp2
          go_roundg (if b2 = true then μ t2 + 2 else 0)
          case measure =>
            cases b2 with
            | false => simp; omega
            | true => have := hPP.out.1 rfl; simp; omega
          case rel =>
            refine ⟨t2, b2, rfl, H2.out.1, fun hb => by rw [if_pos hb]; exact Nat.le_refl _, fun hb => ?_⟩
            obtain ⟨e, h1⟩ := hPP.out.2 hb
            rw [e]; exact h1
set_option maxRecDepth 100000 in
set_option maxHeartbeats 4000000 in
theorem eachC_calls {σ : Type} (S : σ → World → Prop) (μ : σ → Nat) (Cl : Nat → List Int → σ → Prop) (pv : Nat) (w0 : World) (T : Nat) (a b : Value) (A3 : Option Addr) (c3 : Nat) (c : Cfg) (hal : c.alts.length ≤ 1000) (hrow : Row rowsT w0 A3 c.alts)
    (hS : ∀ t w, S t w → Below w0.heap.size w0 w ∧ ∃ x y z, Box w T #[a, b, .slice A3 c.alts.length c3, x, y, z] 56)
    (hstep : ∀ t w r al s u, S t w → c.alts[r]? = some al → s ∈ al → (∀ w', Below w0.heap.size w0 w' → Sl Ty.int w' u s) → Calls Try.prog 51 #[.int .i64 (r : Nat), u, .pointer (some ⟨pv, 0, none⟩)] w fun e w' => ∃ t' bb, e = .returned (.bool bb) ∧ S t' w' ∧ (bb = true → μ t' < μ t) ∧ (bb = false → t' = t ∧ Cl r s t))
    (t0 : σ) (w : World) (h : S t0 w) :
    Calls Try.prog 50 #[.pointer (some ⟨T, 0, none⟩), .func (.func 51) #[] #[.pointer (some ⟨pv, 0, none⟩)]] w fun e w' => e = .returned (.tuple #[]) ∧ ∃ t, S t w' ∧ ∀ (r : Nat) al s, c.alts[r]? = some al → s ∈ al → Cl r s t := by
  have HH := Lib.hid (And.intro h (And.intro hS hstep))
  clear h hS hstep
  go_enter Try.func50, Try.ntmps50
  go_wp2
  go_loopg [4] (μ t0 + 2) (fun gk flag wr => EachS S μ c Cl gk flag wr)
  case atStart => exact ⟨t0, true, rfl, HH.out.1, fun _ => Nat.le_refl _, fun h => (by cases h)⟩
  case round =>
    obtain ⟨t1, bb, rfl, hS, hgk, hfx⟩ := hrel
    have H0 := Lib.hid (And.intro hS (And.intro hgk hfx))
    clear hS hgk hfx
    cases bb with
    | false =>
      go_wp2
      refine ⟨rfl, .tuple #[], by simp [results, Try.results50, go_sem], rfl, t1, H0.out.1, fun r al s hal' hs => ?_⟩
      obtain ⟨i, hi⟩ := List.mem_iff_getElem?.1 hs
      exact H0.out.2.2.out (by first | rfl | trivial) r al i s hal' hi (.inl (List.getElem?_eq_some_iff.1 hal').1)
    | true =>
      obtain ⟨x1, y1, z1, hb1⟩ := (HH.out.2.1 t1 wr H0.out.1).2
      have htc := hb1.cell 2 (v := .slice A3 c.alts.length c3) rfl
      clear hb1
      obtain ⟨wa, rfl⟩ : ∃ wa : World, wa = wr := ⟨_, rfl⟩
      go_wp2
      go_loopw [16, 4] (fun i flag wr => EachR S μ c Cl t1 i flag wr) (fun i _ _ => c.alts.length - (intOf i).toNat)
      case atStart => exact ⟨0, t1, false, Nat.zero_le _, rfl, rfl, H0.out.1, fun h => (by cases h), fun _ => ⟨rfl, fun r al i s _ _ hr => by omega⟩⟩
      case round =>
        obtain ⟨s, t2, b2, hs, rfl, rfl, hS2, hP2⟩ := hrel
        have H2 := Lib.hid (And.intro hS2 (And.intro hP2 (HH.out.2.1 t2 wr hS2).1))
        clear hS2 hP2
        by_cases hlt : s < c.alts.length
        · obtain ⟨al, hal1⟩ := at_lt c.alts hlt
          obtain ⟨ad3, B3, c4, rfl, hcellB, g1, g2, g3, g4⟩ := (hrow.below H2.out.2.2).slice hal1
          have hrowB : Hid (∀ w' : World, Below w0.heap.size w0 w' → Row (Ty.slice Ty.int) w' B3 al) := by
            intro w' hb
            obtain ⟨ad0, B0, c0, e0, hcell0, _, _, _, g40⟩ := hrow.slice hal1
            injection e0 with e0
            subst e0
            have q1 := cell_far hcell0 H2.out.2.2.block
            rw [hcellB] at q1; injection q1 with q1; injection q1 with q1 _ _
            rw [q1]; exact g40.below hb
          have HAL := Lib.hid hal1; clear hal1 g4
          obtain ⟨w3, rfl⟩ : ∃ w3 : World, w3 = wr := ⟨_, rfl⟩
          go_wp2
          go_loopw [23, 4] (fun i flag wr => EachA S μ c Cl t1 s al.length i flag wr) (fun i _ _ => al.length - (intOf i).toNat)
          case atStart => exact ⟨0, t2, b2, Nat.zero_le _, rfl, rfl, H2.out.1, H2.out.2.1⟩
          case round =>
            obtain ⟨j, t3, b3, hj, rfl, rfl, hS3, hP3⟩ := hrel
            have H3 := Lib.hid (And.intro hS3 (And.intro hP3 (HH.out.2.1 t3 wr hS3).1))
            clear hS3 hP3
            by_cases hlt4 : j < al.length
            · obtain ⟨x, hx⟩ := at_lt al hlt4
              have hro : Row (Ty.slice Ty.int) wr B3 al := hrowB.out wr H3.out.2.2
              obtain ⟨adA, BA, cA, rfl, hcellA, a1, a2, a3, a4⟩ := hro.slice hx
              have hua : Hid (∀ w', Below w0.heap.size w0 w' → Sl Ty.int w' (.slice BA x.length cA) x) := by
                intro w' hb
                obtain ⟨ad5, B5, c5, e5, hcell5, y1, y2, y3, y4⟩ := (hrowB.out w0 (Below.refl _ _)).slice hx
                injection e5 with e5
                subst e5
                have q1 := cell_far hcell5 H3.out.2.2.block
                rw [hcellA] at q1; injection q1 with q1; injection q1 with q1 q2 q3
                subst q1 q3
                exact ⟨_, _, rfl, y1, y2, y3, y4.below hb⟩
              have hxm := List.mem_of_getElem? hx
              have hcl := HH.out.2.2 t3 wr s al x _ H3.out.1 HAL.out hxm hua.out
              have HCL := Lib.hid hcl
              have HX := Lib.hid hx
              clear hcl hx hro a4 hxm
              go_wp2_with (go_at_call 51; refine HCL.out.mono ?_; rintro e w5 ⟨t4, b4, rfl, hS5, ht5, hf5⟩; have H5 := Lib.hid (And.intro hS5 (H3.out.2.1.out.step HAL.out HX.out ht5 hf5)); clear hS5 ht5 hf5; cases b4)
              · exact ⟨⟨j + 1, t4, b3, by omega, by simp, rfl, H5.out.1, H5.out.2⟩, by simp [intOf]; omega⟩
              · exact ⟨⟨j + 1, t4, true, by omega, by simp, rfl, H5.out.1, H5.out.2⟩, by simp [intOf]; omega⟩
            · have hje : j = al.length := by omega
              subst hje
              go_wp2
              exact ⟨⟨s + 1, t3, b3, by omega, by simp, rfl, H3.out.1, H3.out.2.1.out.next HAL.out⟩, by simp [intOf]; omega⟩
        · have hse : s = c.alts.length := by omega
          subst hse
          have hgk := H0.out.2.1 (by first | rfl | trivial)
          have hPP := Lib.hid H2.out.2.1.out
          go_wp2
          go_roundg (if b2 = true then μ t2 + 2 else 0)
          case measure =>
            cases b2 with
            | false => simp; omega
            | true => have := hPP.out.1 rfl; simp; omega
          case rel =>
            refine ⟨t2, b2, rfl, H2.out.1, fun hb => by rw [if_pos hb]; exact Nat.le_refl _, fun hb => ?_⟩
            obtain ⟨e, h1⟩ := hPP.out.2 hb
            rw [e]; exact h1
end Go.Proofs.Ytigbfankkmmnbaa
set_option linter.unusedVariables false
set_option linter.unusedSimpArgs false
namespace Go.Proofs.Ytigbfankkmmnbaa
open Go.RowKit Gk

theorem box_ne {w : World} {b b' : Nat} {cs cs' : Array Value} {t t' : TypeId} (h : Box w b cs t) (h' : Box w b' cs' t') (ht : t ≠ t') : b ≠ b' := fun e => by
  subst e
  unfold Box at h h'
  rw [h] at h'; injection h' with h'; injection h' with _ h'; exact ht h'
theorem set_ne {w : World} {b b' : Nat} {K : List Int} {cs : Array Value} {t : TypeId} (h : ISet w b K) (h' : Box w b' cs t) : b ≠ b' := fun e => by
  obtain ⟨D, ⟨es, clock, hb, _⟩, _⟩ := h
  unfold Box at h'
  rw [e, h'] at hb; cases hb
theorem IL.neSet {w : World} {v : Value} {xs K : List Int} {b : Nat} (h : IL w v xs) (h' : ISet w b K) : v.ownBlock ≠ some b := fun e => by
  obtain ⟨css, ⟨g1, g2⟩, h2, h3, h5, h4⟩ := h
  obtain ⟨D, ⟨es, clock, hb, _⟩, _⟩ := h'
  rcases g2 with ⟨rfl, _⟩ | ⟨g', cap, cur', rfl, r1, r2, r3⟩
  · simp [Value.ownBlock] at e
  · simp [Value.ownBlock] at e
    subst e
    rw [r2] at hb; cases hb
/-- the tables of a grammar, as they lie -/
structure OpT (w0 : World) (T P N R : Nat) (E : Nat → Nat) (a b : Value) (A3 : Option Addr) (c3 : Nat) (c : Cfg) (z : Value) (nl : List Bool) (fs : List (List Int)) (w : World) : Prop where
  ld : LeadAt w T N R E a b A3 c.alts.length c3 z nl fs
  pb : Box w P #[.pointer (some ⟨T, 0, none⟩)] 57
  geT : w0.heap.size ≤ T
  geN : w0.heap.size ≤ N
  geR : w0.heap.size ≤ R
  geP : w0.heap.size ≤ P
  geE : ∀ i, i < c.alts.length → w0.heap.size ≤ E i
  bl : Below w0.heap.size w0 w
section
variable {w0 : World} {T P N R : Nat} {E : Nat → Nat} {a b : Value} {A3 : Option Addr} {c3 : Nat} {c : Cfg} {z : Value} {nl : List Bool} {fs : List (List Int)} {w w' : World}
theorem OpT.ne (h : OpT w0 T P N R E a b A3 c3 c z nl fs w) : (N ≠ T ∧ N ≠ P ∧ N ≠ R ∧ T ≠ P ∧ T ≠ R ∧ P ≠ R) ∧ ∀ i, i < c.alts.length → E i ≠ T ∧ E i ≠ P ∧ E i ≠ N ∧ E i ≠ R :=
  ⟨⟨box_ne h.ld.nb h.ld.tb (by decide), box_ne h.ld.nb h.pb (by decide), box_ne h.ld.nb h.ld.row.box (by decide), box_ne h.ld.tb h.pb (by decide), box_ne h.ld.tb h.ld.row.box (by decide), box_ne h.pb h.ld.row.box (by decide)⟩,
   fun i hi => by
    have hs := h.ld.row.set i _ (List.getElem?_eq_getElem (by rw [h.ld.flen]; exact hi))
    exact ⟨set_ne hs h.ld.tb, set_ne hs h.pb, set_ne hs h.ld.nb, set_ne hs h.ld.row.box⟩⟩
theorem OpT.below (h : OpT w0 T P N R E a b A3 c3 c z nl fs w) (k : Below w.heap.size w w') : OpT w0 T P N R E a b A3 c3 c z nl fs w' :=
  ⟨h.ld.fx (F := fun _ => False) ⟨id, id, id, fun _ _ => id⟩ ((Fx.refl w (fun _ => False)).below k), h.pb.below k, h.geT, h.geN, h.geR, h.geP, h.geE, below2 h.bl k⟩
theorem OpT.fx {F F' : Nat → Prop} (h : OpT w0 T P N R E a b A3 c3 c z nl fs w) (k : Fx w w' F F') (hF : ∀ d, F d → w.heap.size ≤ d) : OpT w0 T P N R E a b A3 c3 c z nl fs w' :=
  h.below ⟨k.os, k.tape, k.output, k.size, fun d hd => k.block d hd fun hf => by have := hF d hf; omega⟩
theorem OpT.setN (h : OpT w0 T P N R E a b A3 c3 c z nl fs w) {r : Nat} (m : Bool) : OpT w0 T P N R E a b A3 c3 c z (nl.set r m) fs (w.setCell ⟨N, r, none⟩ (.bool m)) := by
  obtain ⟨⟨n1, n2, n3, n4, n5, n6⟩, ne⟩ := h.ne
  have hk : ∀ g, g ≠ N → (w.setCell ⟨N, r, none⟩ (.bool m)).heap[g]? = w.heap[g]? := fun g hg => Below.heap_setCell w ⟨N, r, none⟩ _ g hg
  refine ⟨⟨h.ld.tb.keep (hk _ n1.symm), ?_, h.ld.row.keep (hk _ n3.symm) fun i hi => hk _ ((ne i (by rw [← h.ld.flen]; exact hi)).2.2.1), by simpa using h.ld.nlen, h.ld.flen⟩, h.pb.keep (hk _ n2.symm), h.geT, h.geN, h.geR, h.geP, h.geE, h.bl.setCell h.geN _⟩
  have := h.ld.nb.set r (.bool m)
  rwa [List.setIfInBounds_toArray, ← List.map_set] at this
theorem OpT.setF (h : OpT w0 T P N R E a b A3 c3 c z nl fs w) {r : Nat} (hr : r < c.alts.length) {K : List Int} (hS : ISet w' (E r) K) (g : w.grownBy w' (some (E r))) : OpT w0 T P N R E a b A3 c3 c z nl (fs.set r K) w' := by
  obtain ⟨⟨n1, n2, n3, n4, n5, n6⟩, ne⟩ := h.ne
  obtain ⟨e1, e2, e3, e4⟩ := ne r hr
  have hk : ∀ d, d < w.heap.size → d ≠ E r → w'.heap[d]? = w.heap[d]? := fun d hd hn => g.block d hd fun e => by injection e with e; exact hn e
  exact ⟨⟨h.ld.tb.keep (hk _ h.ld.tb.lt (Ne.symm e1)), h.ld.nb.keep (hk _ h.ld.nb.lt (Ne.symm e3)), h.ld.row.put (by rw [h.ld.flen]; exact hr) hS g, h.ld.nlen, by simpa using h.ld.flen⟩, h.pb.keep (hk _ h.pb.lt (Ne.symm e2)), h.geT, h.geN, h.geR, h.geP, h.geE, h.bl.grown g h.bl.size fun k e => by injection e with e; exact e ▸ h.geE r hr⟩
end
/-- .. and what is empty -/
def ClN (c : Cfg) (r : Nat) (s : List Int) (nl : List Bool) : Prop := emptyP nl s = true → nl[r]? = some true
set_option maxRecDepth 100000 in
set_option maxHeartbeats 2000000 in
theorem opn1_calls (w0 : World) (T P N R : Nat) (E : Nat → Nat) (a b : Value) (A3 : Option Addr) (c3 : Nat) (c : Cfg) (z : Value) (fs : List (List Int)) (hal : c.alts.length ≤ 1000) (nl : List Bool) (w : World) (r : Nat) (al : List (List Int)) (s : List Int) (u : Value)
    (h : OpT w0 T P N R E a b A3 c3 c z nl fs w ∧ NulI c nl) (hr : c.alts[r]? = some al) (hs : s ∈ al) (hu : ∀ w', Below w0.heap.size w0 w' → Sl Ty.int w' u s) :
    Calls Try.prog 68 #[.int .i64 (r : Nat), u, .pointer (some ⟨P, 0, none⟩)] w fun e w' => ∃ t' bb, e = .returned (.bool bb) ∧ (OpT w0 T P N R E a b A3 c3 c z t' fs w' ∧ NulI c t') ∧ (bb = true → c.alts.length - cntT t' < c.alts.length - cntT nl) ∧ (bb = false → t' = nl ∧ ClN c r s nl) := by
  have hrl : r < c.alts.length := (List.getElem?_eq_some_iff.1 hr).1
  have hrn : r < nl.length := by rw [h.2.1]; exact hrl
  obtain ⟨bb, hbb⟩ := at_lt nl hrn
  have hpc := h.1.pb.cell 0 (v := .pointer (some ⟨T, 0, none⟩)) rfl
  have htc := h.1.ld.tb.cell 3 (v := .slice (some ⟨N, 0, none⟩) c.alts.length c.alts.length) rfl
  have hnc := h.1.ld.emp.cell hbb
  have hus := hu w h.1.bl
  have hemp := emp_calls w T N a b A3 c.alts.length c3 _ z u nl s h.1.ld.emp hal hus
  obtain ⟨AU, cU, rfl, _, _, _, _⟩ := hus
  have HH := Lib.hid (And.intro h (And.intro hr (And.intro hs hbb)))
  clear h hr hs hu hbb
  cases bb with
  | true =>
    go_enter Try.func68, Try.ntmps68
    go_wp2
    go_ret
    exact ⟨nl, false, rfl, HH.out.1, fun h => (by cases h), fun _ => ⟨rfl, fun _ => HH.out.2.2.2⟩⟩
  | false =>
    obtain ⟨be, hbe⟩ : ∃ be, be = emptyP nl s := ⟨_, rfl⟩
    rw [← hbe] at hemp
    have HE := Lib.hid hemp
    have HB := Lib.hid hbe
    clear hemp hbe
    cases be with
    | false =>
      go_enter Try.func68, Try.ntmps68
      go_wp2_with (go_at_call 55; refine HE.out.mono ?_; rintro e w1 ⟨rfl, hb1⟩)
      go_ret
      exact ⟨nl, false, rfl, ⟨HH.out.1.1.below hb1, HH.out.1.2⟩, fun h => (by cases h), fun _ => ⟨rfl, fun h => (by have := HB.out; rw [h] at this; cases this)⟩⟩
    | true =>
      go_enter Try.func68, Try.ntmps68
      go_wp2_with (go_at_call 55; refine HE.out.mono ?_; rintro e w1 ⟨rfl, hb1⟩; have hO1 := Lib.hid (HH.out.1.1.below hb1); have hpc1 := hO1.out.pb.cell 0 (v := .pointer (some ⟨T, 0, none⟩)) rfl; have htc1 := hO1.out.ld.tb.cell 3 (v := .slice (some ⟨N, 0, none⟩) c.alts.length c.alts.length) rfl; have hnc1 := hO1.out.ld.emp.cell HH.out.2.2.2; have hfr1 := hO1.out.ld.nb.frozen r)
      go_ret
      have hst : nulStep nl r s = nl.set r true := by unfold nulStep; rw [← HB.out]; simp
      have hinv := nulStep_inv HH.out.1.2 HH.out.2.1 HH.out.2.2.1
      rw [hst] at hinv
      refine ⟨_, true, rfl, ⟨hO1.out.setN true, hinv⟩, fun _ => ?_, fun h => by cases h⟩
      have h1 := cnt_set nl r HH.out.2.2.2
      have h2 := cnt_le (nl.set r true)
      rw [h1, List.length_set, HH.out.1.2.1] at h2
      omega
/-- a list that is appended to, in a variable -/
def JL (lv : Nat) (xs : List Int) (F : Nat → Prop) (w : World) : Prop := ∃ v, Box w lv #[v] 35 ∧ IL w v xs ∧ ∀ d, F d ↔ (d = lv ∨ v.ownBlock = some d)
theorem JL.lt {lv : Nat} {xs : List Int} {F : Nat → Prop} {w : World} (h : JL lv xs F w) : ∀ d, F d → d < w.heap.size := by
  obtain ⟨v, hb, hi, hF⟩ := h
  intro d hd
  rcases (hF d).1 hd with rfl | hd
  · exact hb.lt
  · exact (hi.lt d hd).2
theorem JL.keep {lv : Nat} {xs : List Int} {F : Nat → Prop} {w w' : World} (h : JL lv xs F w) (hk : ∀ d, d < w.heap.size → F d → w'.heap[d]? = w.heap[d]?) : JL lv xs F w' := by
  have hlt := h.lt
  obtain ⟨v, hb, hi, hF⟩ := h
  exact ⟨v, hb.keep (hk lv hb.lt ((hF lv).2 (.inl rfl))), hi.keep fun g hg => hk g (hi.lt g hg).2 ((hF g).2 (.inr hg)), hF⟩
set_option maxRecDepth 100000 in
set_option maxHeartbeats 2000000 in
theorem lay21_calls (lv : Nat) (xs : List Int) (F : Nat → Prop) (w : World) (t : Int) (h : JL lv xs F w) (ht : 0 ≤ t ∧ t ≤ 100000) (hx : xs.length ≤ 1000000) :
    Calls Try.prog 70 #[.int .i64 t, .pointer (some ⟨lv, 0, none⟩)] w fun e w' => e = .returned (.tuple #[]) ∧ ∃ F', JL lv (xs ++ [t]) F' w' ∧ Fx w w' F F' := by
  obtain ⟨v, hb, hi, hF⟩ := h
  have hne := hi.ne (g := lv) hb (by decide)
  have ht64 : Ty.i64 t := by unfold Ty.i64; omega
  obtain ⟨AV, cV, rfl, _, _, _, _⟩ := id hi.sl
  have hc := hb.cell 0 (v := .slice AV xs.length cV) rfl
  have HH := Lib.hid (And.intro hb (And.intro hi (And.intro hF hne)))
  clear hb hi hF hne
  have hlt := HH.out.1.lt
  go_enter Try.func70, Try.ntmps70
  go_wp2_with (at_builtin; refine wpList_app (T := Ty.int) (v := .slice AV xs.length cV) (xs := xs) (w0 := w) (W := w) (B := 0) (D := fun _ => True) rfl (.tmp 3) (.tmp 5) 35 3 8 rfl elemInt rfl t #[.int .i64 t] w.heap.size rfl rfl HH.out.2.1 (fun _ _ => trivial) (int_far _ _ _ ht64) (Below.refl _ _) (Nat.zero_le _) (by omega) ?_; intro v1 w1 hO1 hB1 hg1 hat1; obtain ⟨A1, c1, rfl, _, _, _, _⟩ := id hO1.sl; have hb1 := HH.out.1.keep (hg1.block lv hlt (Ne.symm HH.out.2.2.2)); have hfr := hb1.frozen 0; have hcl := hb1.cell 0 (v := .slice AV xs.length cV) rfl; have H1 := Lib.hid (And.intro hO1 (And.intro hg1 (And.intro hat1 hb1))); clear hO1 hB1 hg1 hat1 hb1)
  refine ⟨rfl, .tuple #[], by simp [results, Try.results70, go_sem], rfl, fun d => d = lv ∨ (Value.slice A1 (xs.length + 1) c1).ownBlock = some d, ?_⟩
  have el : (xs ++ [t]).length = xs.length + 1 := by simp
  obtain ⟨hO1', hg1, hat1, hb1⟩ := H1.out
  have hO1 := IL.of hO1'
  rw [el] at hO1 hat1
  have hk : ∀ g, g ≠ lv → (w1.setCell ⟨lv, 0, none⟩ (.slice A1 (xs.length + 1) c1)).heap[g]? = w1.heap[g]? := fun g hg => Below.heap_setCell w1 ⟨lv, 0, none⟩ _ g hg
  have hon : (Value.slice A1 (xs.length + 1) c1).ownBlock ≠ some lv := fun e => by
    rcases hat1 with h | ⟨k, h, hk⟩
    · exact HH.out.2.2.2 (h.symm.trans e)
    · rw [e] at h; injection h with h; omega
  refine ⟨⟨_, hb1.set 0 _, hO1.keep fun g hg => hk g fun e => hon (by rw [hg, e]), fun d => Iff.rfl⟩, ⟨hg1.os, hg1.tape, hg1.output, by simpa using hg1.size, fun d hd hn => ?_, fun d hd => ?_⟩⟩
  · rw [hk d fun e => hn ((HH.out.2.2.1 d).2 (.inl e)), hg1.block d hd fun e => hn ((HH.out.2.2.1 d).2 (.inr e.symm))]
  · rcases hd with rfl | hd
    · exact .inl ((HH.out.2.2.1 d).2 (.inl rfl))
    · rcases hat1 with h | ⟨k, h, hk⟩
      · exact .inl ((HH.out.2.2.1 d).2 (.inr (h ▸ hd)))
      · rw [hd] at h; injection h with h; exact .inr (by omega)
end Go.Proofs.Ytigbfankkmmnbaa
