/- The program's Short: each, Short: the walks. -/
import Derived.Test.YtgjobbapnileiaaShW
set_option linter.unusedVariables false
set_option linter.unusedSimpArgs false
namespace Go.Proofs.Ytgjobbapnileiaa
open Go.RowKit Gk

def FixTo (c : Cfg) (out : List Int) (s : Nat) : Prop := ∀ r, r < s → ∀ m al a, out[r]? = some m → c.alts[r]? = some al → a ∈ al → m ≤ len9 out a
def Each0 (w0 : World) (T P2 P3 O : Nat) (a b d : Value) (c : Cfg) (gk : Nat) (flag : Value) (wr : World) : Prop :=
  ∃ out bb, flag = .bool bb ∧ ShS w0 T P2 P3 O a b d c out wr ∧ (bb = true → left9 out + 2 ≤ gk) ∧ Hid (bb = false → ShC c out)
def Each2 (w0 : World) (T P2 P3 O : Nat) (a b d : Value) (c : Cfg) (out1 : List Int) (i flag : Value) (wr : World) : Prop :=
  ∃ (s : Nat) (out : List Int) (bb : Bool), s ≤ c.alts.length ∧ i = .int .i64 s ∧ flag = .bool bb ∧ ShS w0 T P2 P3 O a b d c out wr ∧ Hid (bb = true → left9 out < left9 out1) ∧ Hid (bb = false → out = out1 ∧ FixTo c out1 s)
def Each4 (w0 : World) (T P2 P3 O : Nat) (a b d : Value) (c : Cfg) (out1 : List Int) (s : Nat) (al : List (List Int)) (i flag : Value) (wr : World) : Prop :=
  ∃ (j : Nat) (out : List Int) (bb : Bool), j ≤ al.length ∧ i = .int .i64 j ∧ flag = .bool bb ∧ ShS w0 T P2 P3 O a b d c out wr ∧ Hid (bb = true → left9 out < left9 out1) ∧ Hid (bb = false → out = out1 ∧ FixTo c out1 s ∧ ∀ m x, out1[s]? = some m → x ∈ al.take j → m ≤ len9 out1 x)
theorem mem_take_next {α : Type} {l : List α} {j : Nat} {a x : α} (ha : l[j]? = some a) (hx : x ∈ l.take (j + 1)) : x ∈ l.take j ∨ x = a := by
  rw [take_next ha] at hx
  simpa using hx
set_option maxRecDepth 100000 in
set_option maxHeartbeats 4000000 in
theorem each_calls (w0 : World) (T P2 P3 O : Nat) (a b : Value) (A3 : Option Addr) (c3 : Nat) (c : Cfg) (out0 : List Int) (w : World) (h : ShS w0 T P2 P3 O a b (.slice A3 c.alts.length c3) c out0 w) (hrow : Row rowsT w0 A3 c.alts) (hok : CfgOk c) (hsm : Small 60 c) :
    Calls Try.prog 30 #[.pointer (some ⟨T, 0, none⟩), .func (.func 31) #[] #[.pointer (some ⟨P2, 0, none⟩), .pointer (some ⟨P3, 0, none⟩)]] w fun e w' => e = .returned (.tuple #[]) ∧ ∃ out, ShS w0 T P2 P3 O a b (.slice A3 c.alts.length c3) c out w' ∧ ShC c out := by
  have hal : c.alts.length ≤ 60 := by have := hok.1; have := hsm.1; omega
  have HH := Lib.hid (And.intro h (And.intro hok hsm))
  clear h hok hsm
  go_enter Try.func30, Try.ntmps30
  go_wp2
  go_loopg [4] (left9 out0 + 2) (fun gk flag wr => Each0 w0 T P2 P3 O a b (.slice A3 c.alts.length c3) c gk flag wr)
  case atStart => exact ⟨out0, true, rfl, HH.out.1, fun _ => Nat.le_refl _, fun h => (by cases h)⟩
  case round =>
    obtain ⟨out1, bb, rfl, hS, hgk, hfx⟩ := hrel
    have H0 := Lib.hid (And.intro hS (And.intro hgk hfx))
    clear hS hgk hfx
    cases bb with
    | false =>
      go_wp2
      exact ⟨rfl, .tuple #[], by simp [results, Try.results30, go_sem], rfl, out1, H0.out.1, H0.out.2.2 (by first | rfl | trivial)⟩
    | true =>
      have htc := H0.out.1.tb.cell 2 (v := .slice A3 c.alts.length c3) rfl
      obtain ⟨wa, rfl⟩ : ∃ wa : World, wa = wr := ⟨_, rfl⟩
      go_wp2
      go_loopw [16, 4] (fun i flag wr => Each2 w0 T P2 P3 O a b (.slice A3 c.alts.length c3) c out1 i flag wr) (fun i _ _ => c.alts.length - (intOf i).toNat)
      case atStart => exact ⟨0, out1, false, Nat.zero_le _, rfl, rfl, H0.out.1, fun h => (by cases h), fun _ => ⟨rfl, fun r hr => absurd hr (Nat.not_lt_zero _)⟩⟩
      case round =>
        obtain ⟨s, out2, b2, hs, rfl, rfl, hS2, ht2, hf2⟩ := hrel
        have H2 := Lib.hid (And.intro hS2 (And.intro ht2 hf2))
        clear hS2 ht2 hf2
        by_cases hlt : s < c.alts.length
        · obtain ⟨al, hal1⟩ := at_lt c.alts hlt
          obtain ⟨ad3, B3, c4, rfl, hcellB, g1, g2, g3, g4⟩ := (hrow.below H2.out.1.bl).slice hal1
          have hrowB : Hid (∀ w' : World, Below w0.heap.size w0 w' → Row (Ty.slice Ty.int) w' B3 al) := by
            intro w' hb
            obtain ⟨ad0, B0, c0, e0, hcell0, _, _, _, g40⟩ := hrow.slice hal1
            injection e0 with e0
            subst e0
            have q1 := cell_far hcell0 H2.out.1.bl.block
            rw [hcellB] at q1; injection q1 with q1; injection q1 with q1 _ _
            rw [q1]; exact g40.below hb
          have HAL := Lib.hid hal1; clear hal1 g4
          obtain ⟨w3, rfl⟩ : ∃ w3 : World, w3 = wr := ⟨_, rfl⟩
          go_wp2
          go_loopw [23, 4] (fun i flag wr => Each4 w0 T P2 P3 O a b (.slice (some ad3) c.alts.length c3) c out1 s al i flag wr) (fun i _ _ => al.length - (intOf i).toNat)
          case atStart => exact ⟨0, out2, b2, Nat.zero_le _, rfl, rfl, H2.out.1, H2.out.2.1, fun h => ⟨(H2.out.2.2 h).1, (H2.out.2.2 h).2, fun m x _ hx => by simp at hx⟩⟩
          case round =>
            obtain ⟨j, out3, b3, hj, rfl, rfl, hS3, ht3, hf3⟩ := hrel
            have H3 := Lib.hid (And.intro hS3 (And.intro ht3 hf3))
            clear hS3 ht3 hf3
            by_cases hlt4 : j < al.length
            · obtain ⟨x, hx⟩ := at_lt al hlt4
              have hro : Row (Ty.slice Ty.int) wr B3 al := hrowB.out wr H3.out.1.bl
              obtain ⟨adA, BA, cA, rfl, hcellA, a1, a2, a3, a4⟩ := hro.slice hx
              have hua : Hid (Sl Ty.int wr (.slice BA x.length cA) x) := ⟨BA, cA, rfl, a1, a2, a3, a4⟩
              have hxm := List.mem_of_getElem? hx
              have hsmA := (HH.out.2.2.2 al (List.mem_of_getElem? HAL.out)).2 x hxm
              have hinA := HH.out.2.1.2 al (List.mem_of_getElem? HAL.out) x hxm
              have hnm := HH.out.2.1.1
              have hcl := clos_calls w0 T P2 P3 O a b _ c3 c out3 s al x _ wr H3.out.1 HAL.out hxm hua.out (by omega) (fun k hk hk0 => by rcases hinA k hk with h | h <;> omega) (by omega)
              have HCL := Lib.hid hcl
              have HX := Lib.hid hx
              clear hcl hx hro a4 hsmA hinA hnm hxm
              go_wp2_with (go_at_call 31; refine HCL.out.mono ?_; rintro e w5 ⟨out4, b4, rfl, hS5, ht5, hf5⟩; have H5 := Lib.hid (And.intro hS5 (And.intro ht5 hf5)); clear hS5 ht5 hf5; cases b4)
              · refine ⟨⟨j + 1, out4, b3, by omega, by simp, rfl, H5.out.1, fun h => ?_, fun h => ?_⟩, by simp [intOf]; omega⟩
                · rw [(H5.out.2.2 (by first | rfl | trivial)).1]; exact H3.out.2.1 h
                · obtain ⟨e, h1, h2⟩ := H3.out.2.2 h
                  obtain ⟨e5, h5⟩ := H5.out.2.2 (by first | rfl | trivial)
                  refine ⟨e5.trans e, h1, fun m y hm hy => ?_⟩
                  rcases mem_take_next HX.out hy with hy | rfl
                  · exact h2 m y hm hy
                  · rw [← e]; exact h5 m (by rw [e]; exact hm)
              · refine ⟨⟨j + 1, out4, true, by omega, by simp, rfl, H5.out.1, fun _ => ?_, fun h => by cases h⟩, by simp [intOf]; omega⟩
                have h1 := H5.out.2.1 (by first | rfl | trivial)
                cases b3 with
                | false => obtain ⟨e, _, _⟩ := H3.out.2.2 rfl; rw [← e]; exact h1
                | true => have := H3.out.2.1 rfl; omega
            · have hje : j = al.length := by omega
              have HJE := Lib.hid hje; clear hje
              go_wp2
              refine ⟨⟨s + 1, out3, b3, by omega, by simp, rfl, H3.out.1, H3.out.2.1, fun h => ?_⟩, by simp [intOf]; omega⟩
              obtain ⟨e, h1, h2⟩ := H3.out.2.2 h
              refine ⟨e, fun r hr m al' x hm hal' hx => ?_⟩
              by_cases hrs : r = s
              · subst hrs
                rw [HAL.out] at hal'; injection hal' with hal'; subst hal'
                exact h2 m x hm (by rw [HJE.out, List.take_length]; exact hx)
              · exact h1 r (by omega) m al' x hm hal' hx
        · have hse : s = c.alts.length := by omega
          have HSE := Lib.hid hse; clear hse
          have hgk := H0.out.2.1 (by first | rfl | trivial)
          go_wp2
          go_roundg (if b2 = true then left9 out2 + 2 else 0)
          case measure =>
            cases b2 with
            | false => simp; omega
            | true => have := H2.out.2.1 rfl; simp; omega
          case rel =>
            refine ⟨out2, b2, rfl, H2.out.1, fun hb => by rw [if_pos hb]; exact Nat.le_refl _, fun hb => ?_⟩
            obtain ⟨e, h1⟩ := H2.out.2.2 hb
            subst e
            exact fun r m al' x hm hal' hx => h1 r (by rw [HSE.out]; exact (List.getElem?_eq_some_iff.1 hal').1) m al' x hm hal' hx
theorem ilOfBox {w : World} {O n : Nat} {out : List Int} (h : Box w O (out.map (Value.int .i64)).toArray 3) (hn : out.length = n) (hl : n ≤ 100000) (hi : ∀ x ∈ out, Ty.i64 x) : IL w (.slice (some ⟨O, 0, none⟩) n n) out := by
  subst hn
  refine ⟨out.map fun x => [.int .i64 x], ⟨?_, .inr ⟨O, out.length, _, rfl, Nat.zero_le _, h, Nat.le_refl _, by simp only [maxLen]; omega, by simp; exact (Nat.mul_one _).symm, ?_⟩⟩, by simp, by unfold LB; omega, fun _ _ => trivial, fun i x hx => ⟨[.int .i64 x], by simp [hx], fun _ _ _ => ⟨rfl, hi x (List.mem_of_getElem? hx)⟩⟩⟩
  · have : ∀ l : List Int, (l.map fun x => [Value.int .i64 x]).flatten.length = l.length := by
      intro l
      induction l with
      | nil => rfl
      | cons a l ih => simp [ih]
    rw [this]; exact (Nat.mul_one _).symm
  · have : ∀ l : List Int, (l.map fun x => [Value.int .i64 x]).flatten = l.map (Value.int .i64) := by
      intro l
      induction l with
      | nil => rfl
      | cons a l ih => simp [ih]
    rw [this]
    show List.take (out.length * 1) _ = _
    rw [Nat.mul_one]
    exact List.take_of_length_le (by simp)
theorem short_prep (w : World) (a b d : Value) :
    Box ((((w.alloc (.cells #[a, b, d] 25)).alloc (.cells #[a, b, d, .slice none 0 0, .slice none 0 0, .slice none 0 0] 78)).alloc (.cells #[.pointer (some ⟨w.heap.size + 1, 0, none⟩)] 75)).alloc (.cells #[.int .i64 2147483647] 3)) (w.heap.size + 1) #[a, b, d, .slice none 0 0, .slice none 0 0, .slice none 0 0] 78 ∧
    Box ((((w.alloc (.cells #[a, b, d] 25)).alloc (.cells #[a, b, d, .slice none 0 0, .slice none 0 0, .slice none 0 0] 78)).alloc (.cells #[.pointer (some ⟨w.heap.size + 1, 0, none⟩)] 75)).alloc (.cells #[.int .i64 2147483647] 3)) (w.heap.size + 2) #[.pointer (some ⟨w.heap.size + 1, 0, none⟩)] 75 ∧
    Box ((((w.alloc (.cells #[a, b, d] 25)).alloc (.cells #[a, b, d, .slice none 0 0, .slice none 0 0, .slice none 0 0] 78)).alloc (.cells #[.pointer (some ⟨w.heap.size + 1, 0, none⟩)] 75)).alloc (.cells #[.int .i64 2147483647] 3)) (w.heap.size + 3) #[.int .i64 2147483647] 3 ∧
    Below w.heap.size w ((((w.alloc (.cells #[a, b, d] 25)).alloc (.cells #[a, b, d, .slice none 0 0, .slice none 0 0, .slice none 0 0] 78)).alloc (.cells #[.pointer (some ⟨w.heap.size + 1, 0, none⟩)] 75)).alloc (.cells #[.int .i64 2147483647] 3)) ∧
    ((((w.alloc (.cells #[a, b, d] 25)).alloc (.cells #[a, b, d, .slice none 0 0, .slice none 0 0, .slice none 0 0] 78)).alloc (.cells #[.pointer (some ⟨w.heap.size + 1, 0, none⟩)] 75)).alloc (.cells #[.int .i64 2147483647] 3)).heap.size = w.heap.size + 4 := by
  have s1 : (w.alloc (.cells #[a, b, d] 25)).heap.size = w.heap.size + 1 := by simp
  have b1 : Below w.heap.size w (w.alloc (.cells #[a, b, d] 25)) := (Below.refl _ _).alloc (Nat.le_refl _) _
  generalize w.alloc (.cells #[a, b, d] 25) = w1 at *
  have t2 := Box.new w1 #[a, b, d, .slice none 0 0, .slice none 0 0, .slice none 0 0] 78
  have s2 : (w1.alloc (.cells #[a, b, d, .slice none 0 0, .slice none 0 0, .slice none 0 0] 78)).heap.size = w.heap.size + 2 := by simp; omega
  have b2 : Below w.heap.size w (w1.alloc (.cells #[a, b, d, .slice none 0 0, .slice none 0 0, .slice none 0 0] 78)) := b1.alloc (by omega) _
  generalize w1.alloc (.cells #[a, b, d, .slice none 0 0, .slice none 0 0, .slice none 0 0] 78) = w2 at *
  have t3 := Box.new w2 #[.pointer (some ⟨w.heap.size + 1, 0, none⟩)] 75
  have t2' := t2.alloc (.cells #[.pointer (some ⟨w.heap.size + 1, 0, none⟩)] 75)
  have s3 : (w2.alloc (.cells #[.pointer (some ⟨w.heap.size + 1, 0, none⟩)] 75)).heap.size = w.heap.size + 3 := by simp; omega
  have b3 : Below w.heap.size w (w2.alloc (.cells #[.pointer (some ⟨w.heap.size + 1, 0, none⟩)] 75)) := b2.alloc (by omega) _
  generalize w2.alloc (.cells #[.pointer (some ⟨w.heap.size + 1, 0, none⟩)] 75) = w3 at *
  have t4 := Box.new w3 #[.int .i64 2147483647] 3
  rw [s1] at t2'
  rw [s2] at t3
  rw [s3] at t4
  exact ⟨t2'.alloc _, t3.alloc _, t4, b3.alloc (by omega) _, by simp; omega⟩
set_option maxRecDepth 100000 in
set_option maxHeartbeats 4000000 in
theorem short_calls (c : Cfg) (v : Value) (w : World) (h : CfgV w v c) (hok : CfgOk c) (hsm : Small 60 c) (h0 : 0 < c.alts.length) : Calls Try.prog 18 #[v] w (shortEnd c w) := by
  have hal : c.alts.length ≤ 60 := by have := hok.1; have := hsm.1; omega
  obtain ⟨a0, b0, d0, rfl, h1, h2, h3⟩ := id h
  obtain ⟨A1, c1, rfl, hc1, hm1, _, hr1⟩ := id h1
  obtain ⟨A2, c2, rfl, hc2, hm2, _, hr2⟩ := id h2
  obtain ⟨A3, c3, rfl, hc3, hm3, hl3, hr3⟩ := id h3
  have HH := Lib.hid (And.intro hok (And.intro hsm hr3))
  unfold LB at hl3
  clear h hok hsm h1 h2 h3 hr1 hr2 hr3
  go_enter Try.func18, Try.ntmps18
  obtain ⟨q1, q2, q3, q4, q5⟩ := short_prep w (.slice A1 c.toks.length c1) (.slice A2 c.names.length c2) (.slice A3 c.alts.length c3)
  have hrep := repeat_calls (w.heap.size + 3) c.alts.length 2147483647 _ q3 h0 (by omega)
  have HP := Lib.hid (And.intro q1 (And.intro q2 q4))
  clear q1 q2 q3 q4
  have HREP := Lib.hid hrep
  clear hrep
  go_wp2_with (first | (go_at_call 29; refine HREP.out.mono ?_; rintro e w5 ⟨O, rfl, hO, hOs, hb5⟩; have hOlt := hO.lt; have hb5s := hb5.size; have hT5 := (HP.out.1.below hb5).alloc (.cells #[.slice (some ⟨O, 0, none⟩) c.alts.length c.alts.length] 34); have hP5 := (HP.out.2.1.below hb5).alloc (.cells #[.slice (some ⟨O, 0, none⟩) c.alts.length c.alts.length] 34); have hp2c := hP5.cell 0 (v := .pointer (some ⟨w.heap.size + 1, 0, none⟩)) rfl; have hO5 := hO.alloc (.cells #[.slice (some ⟨O, 0, none⟩) c.alts.length c.alts.length] 34); have hSS : Hid (ShS w (w.heap.size + 1) (w.heap.size + 2) w5.heap.size O (.slice A1 c.toks.length c1) (.slice A2 c.names.length c2) (.slice A3 c.alts.length c3) c (List.replicate c.alts.length farI) (w5.alloc (.cells #[.slice (some ⟨O, 0, none⟩) c.alts.length c.alts.length] 34))) := ⟨hT5, hP5, Box.new _ _ _, by rw [List.map_replicate]; simpa [farI] using hO5, ⟨by omega, by omega, by omega⟩, (below2 HP.out.2.2 hb5).alloc (by omega) _, by omega, ShI.start c⟩; clear hO hT5 hP5 hO5) | (go_at_call 30; refine (each_calls w (w.heap.size + 1) (w.heap.size + 2) w5.heap.size O _ _ A3 c3 c _ _ hSS.out HH.out.2.2 HH.out.1 HH.out.2.1).mono ?_; rintro e w6 ⟨rfl, out, hS6, hC6⟩; have hp3c := hS6.p3.cell 0 (v := .slice (some ⟨O, 0, none⟩) c.alts.length c.alts.length) rfl))
  go_ret
  have hso := short_ok hS6.inv hC6
  refine ⟨_, out, rfl, hso, ilOfBox hS6.ob hso.1 (by omega) (fun x hx => ?_), hS6.bl⟩
  obtain ⟨i, hi⟩ := List.mem_iff_getElem?.1 hx
  have h1 := (hso.2 i x hi).nn
  have h2 := (hso.2 i x hi).le
  unfold farI at h2
  unfold Ty.i64; omega
end Go.Proofs.Ytgjobbapnileiaa
