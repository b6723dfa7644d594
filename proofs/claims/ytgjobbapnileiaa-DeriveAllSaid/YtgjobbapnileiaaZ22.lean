/- The reference's Short: length, Short: the walks. -/
import Derived.Test.YtgjobbapnileiaaZ09
import Derived.Test.YtgjobbapnileiaaZ20
import Derived.Test.YtgjobbapnileiaaZ13
import Derived.Test.YtgjobbapnileiaaZ16
import Derived.Test.YtgjobbapnileiaaZ21
set_option linter.unusedVariables false
set_option linter.unusedSimpArgs false
namespace Go.Proofs.Ytgjobbapnileiaa
open Go.RowKit Gk

theorem rule9_mor (out : List Int) (k : Int) : (rule9 out.length k = -1 ∧ mor9 out k = 1) ∨ ∃ (r : Nat) (m : Int), rule9 out.length k = r ∧ r < out.length ∧ out[r]? = some m ∧ mor9 out k = m := by
  unfold rule9 mor9
  by_cases hk : k < 0
  · by_cases hr : -1 - k < (out.length : Int)
    · have hl : (-1 - k).toNat < out.length := by omega
      exact .inr ⟨(-1 - k).toNat, out[(-1 - k).toNat], by rw [if_pos ⟨hk, hr⟩]; omega, hl, List.getElem?_eq_getElem hl, by rw [if_pos hk, List.getElem?_eq_getElem hl]⟩
    · exact .inl ⟨if_neg fun h => hr h.2, by rw [if_pos hk, List.getElem?_eq_none (by omega)]⟩
  · exact .inl ⟨if_neg fun h => hk h.1, by rw [if_neg hk]⟩
set_option maxRecDepth 100000 in
set_option maxHeartbeats 2000000 in
theorem length_calls (c : Cfg) (s : List Int) (out : List Int) (v u o : Value) (w : World) (h : CfgV w v c) (hu : Sl Ty.int w u s) (ho : Sl Ty.int w o out) (hi : ShI c out) (hal : c.alts.length ≤ 1000) :
    Calls Try.prog 38 #[v, u, o] w fun e w' => e = .returned (.int .i64 (len9 out s)) ∧ Below w.heap.size w w' := by
  obtain ⟨a0, b0, d0, rfl, h1, h2, h3⟩ := id h
  obtain ⟨A1, c1, rfl, hc1, hm1, hl1, hr1⟩ := id h1
  obtain ⟨A2, c2, rfl, hc2, hm2, hl2, hr2⟩ := id h2
  obtain ⟨A3, c3, rfl, hc3, hm3, hl3, hr3⟩ := id h3
  obtain ⟨AU, cU, rfl, ku1, ku2, ku3, ku4⟩ := id hu
  obtain ⟨AO, cO, rfl, ko1, ko2, ko3, ko4⟩ := id ho
  unfold LB at ku3 ko3
  have hB1 := Box.new w #[.slice A1 c.toks.length c1, .slice A2 c.names.length c2, .slice A3 c.alts.length c3] 25
  have hb1 : Below w.heap.size w (w.alloc (.cells #[.slice A1 c.toks.length c1, .slice A2 c.names.length c2, .slice A3 c.alts.length c3] 25)) := (Below.refl _ _).alloc (Nat.le_refl _) _
  have hsz1 : (w.alloc (.cells #[.slice A1 c.toks.length c1, .slice A2 c.names.length c2, .slice A3 c.alts.length c3] 25)).heap.size = w.heap.size + 1 := by simp
  have HLEN := Lib.hid hi
  clear h h1 h2 h3 hu ho hr1 hr2 hr3 hi
  go_enter Try.func38, Try.ntmps38
  go_wp2
  generalize w.alloc (.cells #[.slice A1 c.toks.length c1, .slice A2 c.names.length c2, .slice A3 c.alts.length c3] 25) = wb at *
  go_loopw [13, 7] (fun i q wr => (∃ (n : Nat) (x : Int), n ≤ s.length ∧ i = .int .i64 n ∧ q = .int .i64 x ∧ 0 ≤ x ∧ x ≤ 2147483647 ∧ Hid (x = len9 out (s.take n))) ∧ Below wb.heap.size wb wr) (fun i _ _ => s.length - (intOf i).toNat)
  case atStart => exact ⟨⟨0, 0, Nat.zero_le _, rfl, rfl, by omega, by omega, by simp [Hid, len9]⟩, Below.refl _ _⟩
  case round =>
    obtain ⟨⟨n, x, hn, rfl, rfl, hx0, hx1, hE⟩, hB⟩ := hrel
    have HB := Lib.hid (And.intro hE hB)
    have hwr := below2 hb1 hB
    have ku4r := ku4.below hwr
    have hbr := hB1.below hB
    have x0 := hbr.cell 0 (v := .slice A1 c.toks.length c1) rfl
    have x1 := hbr.cell 1 (v := .slice A2 c.names.length c2) rfl
    have x2 := hbr.cell 2 (v := .slice A3 c.alts.length c3) rfl
    have HWR := Lib.hid hwr
    clear hE hB hbr hwr
    by_cases hlt : n < s.length
    · obtain ⟨k, hk⟩ := at_lt s hlt
      obtain ⟨ad, rfl, hk64, hcell⟩ := ku4r.int hk
      have hstep : Hid (len9 out (s.take (n + 1)) = min (len9 out (s.take n) + mor9 out k) farI) := by
        rw [take_next hk, len9_snoc]; rfl
      have hrule := rule9_calls A1 A2 A3 c.toks.length c.names.length c.alts.length c1 c2 c3 k wr hk64 (by omega)
      rw [← HLEN.out.1] at hrule
      have HK := Lib.hid hk
      clear hk
      rcases rule9_mor out k with ⟨e1, e2⟩ | ⟨r, m, e1, hrl, hrb, e2⟩
      · rw [e1, HLEN.out.1] at hrule
        have HR := Lib.hid hrule
        have E2 := Lib.hid e2
        clear hrule e1 e2
        go_wp2_with (go_at_call 41; refine HR.out.mono ?_; rintro e w3 ⟨rfl, hb3⟩)
        refine ⟨⟨⟨n + 1, min (x + 1) 2147483647, by omega, by simp, rfl, by omega, by omega, ?_⟩, below2 HB.out.2 hb3⟩, by simp [intOf]; omega⟩
        have h1 : len9 out _ = _ := hstep
        show _ = _
        rw [h1, E2.out, ← (show x = _ from HB.out.1)]; rfl
      · rw [e1, HLEN.out.1] at hrule
        have HR := Lib.hid hrule
        have E2 := Lib.hid e2
        have hmr := HLEN.out.2 r m hrb
        have hm0 := hmr.1
        have hm1' : m ≤ 2147483647 := hmr.2.1
        have hrl2 : r < c.alts.length := by have := HLEN.out.1; omega
        clear hrule e1 e2 hmr
        have HRB := Lib.hid hrb
        clear hrb
        have hcellb : Hid (∀ w' : World, Below w.heap.size w w' → ∃ ad, AO = some ad ∧ w'.cell? (ad.add r) = some (.int .i64 m)) := fun w' hb => by
          obtain ⟨ad, e, _, hc⟩ := (ko4.below hb).int HRB.out; exact ⟨ad, e, hc⟩
        obtain ⟨ado, hao, _⟩ := hcellb.out w (Below.refl _ _)
        subst hao
        have HCB : Hid (∀ w' : World, Below w.heap.size w w' → w'.cell? (ado.add r) = some (.int .i64 m)) := fun w' hb => by
          obtain ⟨ad', e', hc⟩ := hcellb.out w' hb
          injection e' with e'; subst e'; exact hc
        go_wp2_with (go_at_call 41; refine HR.out.mono ?_; rintro e w3 ⟨rfl, hb3⟩; have hcb := HCB.out w3 (below2 HWR.out hb3))
        refine ⟨⟨⟨n + 1, min (x + m) 2147483647, by omega, by simp, rfl, by omega, by omega, ?_⟩, below2 HB.out.2 hb3⟩, by simp [intOf]; omega⟩
        have h1 : len9 out _ = _ := hstep
        show _ = _
        rw [h1, E2.out, ← (show x = _ from HB.out.1)]; rfl
    · go_wp2
      go_ret
      have h : x = _ := HB.out.1
      rw [List.take_of_length_le (by omega)] at h
      exact ⟨ret_int h.symm, HWR.out⟩
/-- what is known, in memory -/
structure RSh (w0 : World) (X O : Nat) (a b d : Value) (n : Nat) (out : List Int) (w : World) : Prop where
  cb : Box w X #[a, b, d] 25
  ob : Box w O (out.map (Value.int .i64)).toArray 3
  len : out.length = n
  ne : O ≠ X
  lb : w0.heap.size ≤ O
  bl : Below w0.heap.size w0 w
theorem RSh.below {w0 : World} {X O : Nat} {a b d : Value} {n : Nat} {out : List Int} {w w' : World} (h : RSh w0 X O a b d n out w) (k : Below w.heap.size w w') : RSh w0 X O a b d n out w' :=
  ⟨h.cb.below k, h.ob.below k, h.len, h.ne, h.lb, below2 h.bl k⟩
theorem RSh.cell {w0 : World} {X O : Nat} {a b d : Value} {n : Nat} {out : List Int} {w : World} (h : RSh w0 X O a b d n out w) {r : Nat} {m : Int} (hm : out[r]? = some m) : w.cell? ⟨O, r, none⟩ = some (.int .i64 m) :=
  h.ob.cell r (by simp [hm])
theorem RSh.sl {w0 : World} {X O : Nat} {a b d : Value} {n : Nat} {out : List Int} {w : World} (h : RSh w0 X O a b d n out w) (hn : n ≤ 100000) (h64 : ∀ x ∈ out, Ty.i64 x) : Sl Ty.int w (.slice (some ⟨O, 0, none⟩) n n) out :=
  (ilOfBox h.ob h.len hn h64).sl
theorem RSh.set {w0 : World} {X O : Nat} {a b d : Value} {n : Nat} {out : List Int} {w : World} (h : RSh w0 X O a b d n out w) (r : Nat) (m : Int) : RSh w0 X O a b d n (out.set r m) (w.setCell ⟨O, r, none⟩ (.int .i64 m)) := by
  have hk : ∀ g, g ≠ O → (w.setCell ⟨O, r, none⟩ (.int .i64 m)).heap[g]? = w.heap[g]? := fun g hg => Below.heap_setCell w ⟨O, r, none⟩ _ g hg
  refine ⟨h.cb.keep (hk _ h.ne.symm), ?_, by simpa using h.len, h.ne, h.lb, h.bl.setCell h.lb _⟩
  have := h.ob.set r (.int .i64 m)
  rwa [List.setIfInBounds_toArray, ← List.map_set] at this
theorem shI64 {c : Cfg} {out : List Int} (h : ShI c out) : ∀ x ∈ out, Ty.i64 x := fun x hx => by
  obtain ⟨i, hi⟩ := List.mem_iff_getElem?.1 hx
  obtain ⟨h1, h2, _⟩ := h.2 i x hi
  unfold farI at h2
  unfold Ty.i64; omega
/-- the region of a step -/
def RShV (O n r : Nat) (cv xv : Value) (m q : Int) (i : Nat) (v : Value) (_ : World) : Prop := match i with
  | 0 => v = .slice (some ⟨O, 0, none⟩) n n
  | 1 => v = .int .i64 r
  | 2 => v = .slice (some ⟨O, 0, none⟩) n n
  | 3 => v = .int .i64 r
  | 4 => v = .pointer (some ⟨O, r, none⟩)
  | 5 => v = .int .i64 m
  | 6 => v = cv
  | 7 => v = xv
  | 8 => v = .slice (some ⟨O, 0, none⟩) n n
  | 9 => v = .int .i64 q
  | 10 => v = .int .i64 (min m q)
  | _ => v = .pointer (some ⟨O, r, none⟩)
theorem exec_min {P : Program} {ρ : Operand → Value} {o : Oper} {x y : Operand} {ts : Array TypeId} {a b : Int} {w : World} (ho : o.op = .call { callee := .builtin .min, args := #[x, y], argTypes := ts }) (hx : ρ x = .int .i64 a) (hy : ρ y = .int .i64 b) : (execOp ρ o).run P w = .ok (.value (.int .i64 (min a b))) w := by
  unfold execOp
  simp only [ho, resolve, invoke, builtin, Sem.run_bind, Sem.run_pure, Result.andThen_ok, List.map_toArray, List.map_cons, List.map_nil, hx, hy]
  go_simp
/-- far at the first j places -/
def farTo (n j : Nat) : List Int := List.replicate j farI ++ List.replicate (n - j) 0
theorem farTo_set {n j : Nat} (h : j < n) : (farTo n j).set j farI = farTo n (j + 1) := by
  unfold farTo
  apply List.ext_getElem?
  intro i
  by_cases e : i = j
  · subst e
    rw [List.getElem?_set_self (by simp; omega), List.getElem?_append_left (by simp), List.getElem?_replicate, if_pos (by omega)]
  · rw [List.getElem?_set_ne (fun e' => e e'.symm)]
    by_cases hij : i < j
    · rw [List.getElem?_append_left (by simp; omega), List.getElem?_append_left (by simp; omega), List.getElem?_replicate, List.getElem?_replicate, if_pos hij, if_pos (by omega)]
    · rw [List.getElem?_append_right (by simp; omega), List.getElem?_append_right (by simp; omega), List.getElem?_replicate, List.getElem?_replicate]
      simp only [List.length_replicate]
      by_cases hin : i < n
      · rw [if_pos (by omega), if_pos (by omega)]
      · rw [if_neg (by omega), if_neg (by omega)]
def rshEnd (c : Cfg) (w : World) (e : Ending) (w' : World) : Prop := ∃ O out, e = .returned (.slice (some ⟨O, 0, none⟩) c.alts.length c.alts.length) ∧ Box w' O (out.map (Value.int .i64)).toArray 3 ∧ ShortOk c out ∧ Below w.heap.size w w' ∧ w.heap.size ≤ O
set_option maxRecDepth 100000 in
set_option maxHeartbeats 4000000 in
theorem refShort_calls (c : Cfg) (v : Value) (w : World) (h : CfgV w v c) (hok : CfgOk c) (hsm : Small 60 c) (h0 : 0 < c.alts.length) : Calls Try.prog 21 #[v] w (rshEnd c w) := by
  have hal : c.alts.length ≤ 60 := by have := hok.1; have := hsm.1; omega
  obtain ⟨a0, b0, d0, rfl, h1, h2, h3⟩ := id h
  obtain ⟨A1, c1, rfl, hc1, hm1, _, hr1⟩ := id h1
  obtain ⟨A2, c2, rfl, hc2, hm2, _, hr2⟩ := id h2
  obtain ⟨A3, c3, rfl, hc3, hm3, hl3, hr3⟩ := id h3
  have HH := Lib.hid (And.intro h (And.intro hok hsm))
  unfold LB at hl3
  clear h hok hsm h1 h2 h3 hr1 hr2
  have hB1 := Box.new w #[.slice A1 c.toks.length c1, .slice A2 c.names.length c2, .slice A3 c.alts.length c3] 25
  have hb1 : Below w.heap.size w (w.alloc (.cells #[.slice A1 c.toks.length c1, .slice A2 c.names.length c2, .slice A3 c.alts.length c3] 25)) := (Below.refl _ _).alloc (Nat.le_refl _) _
  obtain ⟨i0, hi0, hz0, hzs, hzb⟩ := info_parts infoInt
  have hmk := run_makeSlice (P := Try.prog) (w.alloc (.cells #[.slice A1 c.toks.length c1, .slice A2 c.names.length c2, .slice A3 c.alts.length c3] 25)) 34 3 i0 _ Try.underlying34 hi0 hz0 .i64 .i64 c.alts.length c.alts.length (by omega) (by omega) (by rw [hzs]; omega) (by rw [hzb]; omega) (by omega)
  have e0 : (madeCells (Value.int .i64 0).cells ((c.alts.length : Int).toNat * i0.size)) = Array.replicate c.alts.length (.int .i64 0) := by rw [hzs, Int.toNat_natCast]; exact madeZero _
  rw [e0, Int.toNat_natCast] at hmk
  clear hi0 hz0 hzs hzb e0
  have hsz1 : (w.alloc (.cells #[.slice A1 c.toks.length c1, .slice A2 c.names.length c2, .slice A3 c.alts.length c3] 25)).heap.size = w.heap.size + 1 := by simp
  have hS0 : Hid (RSh w w.heap.size (w.heap.size + 1) (.slice A1 c.toks.length c1) (.slice A2 c.names.length c2) (.slice A3 c.alts.length c3) c.alts.length (farTo c.alts.length 0) ((w.alloc (.cells #[.slice A1 c.toks.length c1, .slice A2 c.names.length c2, .slice A3 c.alts.length c3] 25)).alloc (.cells (Array.replicate c.alts.length (.int .i64 0)) 3))) := by
    have hO := Box.new (w.alloc (.cells #[.slice A1 c.toks.length c1, .slice A2 c.names.length c2, .slice A3 c.alts.length c3] 25)) (Array.replicate c.alts.length (Value.int .i64 0)) 3
    rw [hsz1] at hO
    exact ⟨hB1.alloc _, by unfold farTo; simpa using hO, by simp [farTo], by omega, by omega, hb1.alloc (by omega) _⟩
  have hbc := hB1.cell 2 (v := .slice A3 c.alts.length c3) rfl
  clear hB1 hb1
  go_enter Try.func21, Try.ntmps21
  go_wp2
  clear hmk hbc hsz1
  go_loopw [15] (fun i wr => ∃ (j : Nat), j ≤ c.alts.length ∧ i = .int .i64 j ∧ RSh w w.heap.size (w.heap.size + 1) (.slice A1 c.toks.length c1) (.slice A2 c.names.length c2) (.slice A3 c.alts.length c3) c.alts.length (farTo c.alts.length j) wr) (fun i _ => c.alts.length - (intOf i).toNat)
  case atStart => exact ⟨0, Nat.zero_le _, rfl, hS0⟩
  case round =>
    obtain ⟨j0, hj0, rfl, hS1⟩ := hrel
    have H0 := Lib.hid hS1
    by_cases hlt0 : j0 < c.alts.length
    · have hfl : j0 < (farTo c.alts.length j0).length := by simp [farTo]; omega
      obtain ⟨m0, hm0⟩ := at_lt _ hfl
      have hcj := hS1.cell hm0
      have hfr := hS1.ob.frozen j0
      clear hS1 hfl hm0
      go_wp2
      refine ⟨⟨j0 + 1, by omega, by simp, ?_⟩, by simp [intOf]; omega⟩
      have := H0.out.set j0 farI
      rwa [farTo_set hlt0] at this
    · have hje : j0 = c.alts.length := by omega
      subst hje
      clear hS1 hS0
      obtain ⟨wz, rfl⟩ : ∃ wz : World, wz = wr := ⟨_, rfl⟩
      have HF : Hid (farTo c.alts.length c.alts.length = List.replicate c.alts.length farI) := by
        show _ = _
        unfold farTo; simp
      go_wp2
      go_loopw [24] (fun i wr => ∃ (j : Nat) (out : List Int), j ≤ c.alts.length ∧ i = .int .i64 j ∧ RSh w w.heap.size (w.heap.size + 1) (.slice A1 c.toks.length c1) (.slice A2 c.names.length c2) (.slice A3 c.alts.length c3) c.alts.length out wr ∧ Hid (Sett c out j)) (fun i _ => c.alts.length - (intOf i).toNat)
      case atStart => exact ⟨0, List.replicate c.alts.length farI, Nat.zero_le _, rfl, by have h := H0.out; rw [show farTo c.alts.length c.alts.length = _ from HF] at h; exact h, Sett.start c⟩
      case round =>
        obtain ⟨j1, out0, hj1, rfl, hS1, hT1⟩ := hrel
        have H1 := Lib.hid (And.intro hS1 hT1)
        have x2 := hS1.cb.cell 2 (v := .slice A3 c.alts.length c3) rfl
        clear hS1 hT1
        by_cases hlt1 : j1 < c.alts.length
        · obtain ⟨wa, rfl⟩ : ∃ wa : World, wa = wr := ⟨_, rfl⟩
          go_wp2
          go_loopw [29] (fun i wr => ∃ (s : Nat) (out : List Int), s ≤ c.alts.length ∧ i = .int .i64 s ∧ RSh w w.heap.size (w.heap.size + 1) (.slice A1 c.toks.length c1) (.slice A2 c.names.length c2) (.slice A3 c.alts.length c3) c.alts.length out wr ∧ Hid (Seen c out0 out s 0)) (fun i _ => c.alts.length - (intOf i).toNat)
          case atStart => exact ⟨0, out0, Nat.zero_le _, rfl, H1.out.1, Seen.start H1.out.2.out.1⟩
          case round =>
            obtain ⟨s, out1, hs, rfl, hS2, hR2⟩ := hrel
            have H2 := Lib.hid (And.intro hS2 hR2)
            have y2 := hS2.cb.cell 2 (v := .slice A3 c.alts.length c3) rfl
            clear hS2 hR2
            by_cases hlt : s < c.alts.length
            · obtain ⟨al, hal1⟩ := at_lt c.alts hlt
              obtain ⟨ad3, B3, c4, rfl, hcellB, g1, g2, g3, g4⟩ := (hr3.below H2.out.1.bl).slice hal1
              have hrowB : Hid (∀ w' : World, Below w.heap.size w w' → Row (Ty.slice Ty.int) w' B3 al) := by
                intro w' hb
                obtain ⟨ad0, B0, c0, e0, hcell0, _, _, _, g40⟩ := hr3.slice hal1
                injection e0 with e0
                subst e0
                have q1 := cell_far hcell0 H2.out.1.bl.block
                rw [hcellB] at q1; injection q1 with q1; injection q1 with q1 _ _
                rw [q1]; exact g40.below hb
              have HAL := Lib.hid hal1; clear hal1 g4
              obtain ⟨w3, rfl⟩ : ∃ w3 : World, w3 = wr := ⟨_, rfl⟩
              go_wp2
              go_loopw [36] (fun i wr => ∃ (j : Nat) (out : List Int), j ≤ al.length ∧ i = .int .i64 j ∧ RSh w w.heap.size (w.heap.size + 1) (.slice A1 c.toks.length c1) (.slice A2 c.names.length c2) (.slice (some ad3) c.alts.length c3) c.alts.length out wr ∧ Hid (Seen c out0 out s j)) (fun i _ => al.length - (intOf i).toNat)
              case atStart => exact ⟨0, out1, Nat.zero_le _, rfl, H2.out.1, H2.out.2⟩
              case round =>
                obtain ⟨j, out2, hj, rfl, hS3, hR3⟩ := hrel
                have H3 := Lib.hid (And.intro hS3 hR3)
                clear hS3 hR3
                by_cases hlt4 : j < al.length
                · obtain ⟨x, hx⟩ := at_lt al hlt4
                  have hro : Row (Ty.slice Ty.int) wr B3 al := hrowB.out wr H3.out.1.bl
                  obtain ⟨adA, BA, cA, rfl, hcellA, a1, a2, a3, a4⟩ := hro.slice hx
                  have hua : Hid (Sl Ty.int wr (.slice BA x.length cA) x) := ⟨BA, cA, rfl, a1, a2, a3, a4⟩
                  have hxm := List.mem_of_getElem? hx
                  have hinA := HH.out.2.1.2 al (List.mem_of_getElem? HAL.out) x hxm
                  have hnm := HH.out.2.1.1
                  have hin : Hid (∀ k ∈ x, k < 0 → -1 - k < c.alts.length) := fun k hk hk0 => by rcases hinA k hk with h | h <;> omega
                  have hsee : Hid (Seen c out0 (shStep out2 s x) s (j + 1)) := H3.out.2.out.step H1.out.2.out.1 HAL.out hx hin.out
                  have hsl2 : s < out2.length := by have := H3.out.1.len; omega
                  obtain ⟨m, hm⟩ := at_lt out2 hsl2
                  have hst : Hid (shStep out2 s x = out2.set s (min m (len9 out2 x))) := by
                    show _ = _
                    unfold shStep; rw [List.getD_eq_getElem?_getD, hm]; rfl
                  obtain ⟨q, hq⟩ : ∃ q, q = len9 out2 x := ⟨_, rfl⟩
                  rw [← hq] at hst
                  have HQ := Lib.hid hq
                  have HM := Lib.hid hm
                  clear hx hro a4 hxm hinA hnm hq hm
                  obtain ⟨wb, rfl⟩ : ∃ wb : World, wb = wr := ⟨_, rfl⟩
                  go_wp2
                  refine wp_region_growLast 12 (by kernel_rfl) (by kernel_rfl) (by kernel_rfl) (by kernel_rfl) (by kernel_rfl) (RShV (w.heap.size + 1) c.alts.length s (.agg #[.slice A1 c.toks.length c1, .slice A2 c.names.length c2, .slice (some ad3) c.alts.length c3]) (.slice BA x.length cA) m q) (fun _ _ _ _ h _ => h) ?_ ?_
                  · intro i hi o ho val w2 hB2 hd
                    have hS2 := H3.out.1.below hB2
                    have x0 := hS2.cb.cell 0 (v := .slice A1 c.toks.length c1) rfl
                    have x1 := hS2.cb.cell 1 (v := .slice A2 c.names.length c2) rfl
                    have x2 := hS2.cb.cell 2 (v := .slice (some ad3) c.alts.length c3) rfl
                    have hcm := hS2.cell HM.out
                    have : i = 0 ∨ i = 1 ∨ i = 2 ∨ i = 3 ∨ i = 4 ∨ i = 5 ∨ i = 6 ∨ i = 7 ∨ i = 8 ∨ i = 9 ∨ i = 10 ∨ i = 11 := by omega
                    rcases this with rfl | rfl | rfl | rfl | rfl | rfl | rfl | rfl | rfl | rfl | rfl | rfl <;> cases ho
                    · exact does_value (exec_move (.inl rfl) rfl) ⟨Below.refl _ _, rfl⟩
                    · exact does_value (exec_move (.inl rfl) rfl) ⟨Below.refl _ _, rfl⟩
                    · exact does_value (exec_move (.inl rfl) rfl) ⟨Below.refl _ _, rfl⟩
                    · exact does_value (exec_move (.inl rfl) rfl) ⟨Below.refl _ _, rfl⟩
                    · have e2 : val 2 = .slice (some ⟨w.heap.size + 1, 0, none⟩) c.alts.length c.alts.length := hd 2 ⟨⟨2, .data⟩, by simp, rfl, rfl⟩
                      have e3 : val 3 = .int .i64 s := hd 3 ⟨⟨3, .data⟩, by simp, rfl, rfl⟩
                      exact does_value (v := .pointer (some ⟨w.heap.size + 1, s, none⟩)) (w := w2) (exec_indexAddr rfl e2 e3 (by go_simp)) ⟨Below.refl _ _, rfl⟩
                    · have e4 : val 4 = .pointer (some ⟨w.heap.size + 1, s, none⟩) := hd 4 ⟨⟨4, .data⟩, by simp, rfl, rfl⟩
                      exact does_value (exec_load rfl e4 (by go_simp)) ⟨Below.refl _ _, rfl⟩
                    · exact does_value (exec_load rfl rfl (by go_simp)) ⟨Below.refl _ _, rfl⟩
                    · exact does_value (exec_move (.inl rfl) rfl) ⟨Below.refl _ _, rfl⟩
                    · exact does_value (exec_move (.inl rfl) rfl) ⟨Below.refl _ _, rfl⟩
                    · have e6 : val 6 = .agg #[.slice A1 c.toks.length c1, .slice A2 c.names.length c2, .slice (some ad3) c.alts.length c3] := hd 6 ⟨⟨6, .data⟩, by simp, rfl, rfl⟩
                      have e7 : val 7 = .slice BA x.length cA := hd 7 ⟨⟨7, .data⟩, by simp, rfl, rfl⟩
                      have e8 : val 8 = .slice (some ⟨w.heap.size + 1, 0, none⟩) c.alts.length c.alts.length := hd 8 ⟨⟨8, .data⟩, by simp, rfl, rfl⟩
                      refine does_enter (f := 38) (args := #[.agg #[.slice A1 c.toks.length c1, .slice A2 c.names.length c2, .slice (some ad3) c.alts.length c3], .slice BA x.length cA, .slice (some ⟨w.heap.size + 1, 0, none⟩) c.alts.length c.alts.length]) (w := w2) (exec_call rfl rfl (by simp only [List.map_toArray, List.map_cons, List.map_nil]; exact args3 e6 e7 e8) Try.func38 (by decide) rfl) ?_
                      refine (length_calls c x out2 _ _ _ w2 (HH.out.1.below hS2.bl) (hua.out.below hB2) (hS2.sl (by omega) (shI64 H3.out.2.out.1.inv)) H3.out.2.out.1.inv (by omega)).mono ?_
                      rintro e w' ⟨rfl, hb⟩
                      rw [← HQ.out]
                      exact ⟨_, rfl, hb, rfl⟩
                    · have e5 : val 5 = .int .i64 m := hd 5 ⟨⟨5, .data⟩, by simp, rfl, rfl⟩
                      have e9 : val 9 = .int .i64 q := hd 9 ⟨⟨9, .data⟩, by simp, rfl, rfl⟩
                      exact does_value (exec_min rfl e5 e9) ⟨Below.refl _ _, rfl⟩
                    · have e0 : val 0 = .slice (some ⟨w.heap.size + 1, 0, none⟩) c.alts.length c.alts.length := hd 0 ⟨⟨0, .data⟩, by simp, rfl, rfl⟩
                      have e1 : val 1 = .int .i64 s := hd 1 ⟨⟨1, .data⟩, by simp, rfl, rfl⟩
                      exact does_value (v := .pointer (some ⟨w.heap.size + 1, s, none⟩)) (w := w2) (exec_indexAddr rfl e0 e1 (by go_simp)) ⟨Below.refl _ _, rfl⟩
                  · intro o ho val w2 hB2 hV
                    cases ho
                    have e10 : val 10 = .int .i64 (min m q) := hV 10 (by decide)
                    have e11 : val 11 = .pointer (some ⟨w.heap.size + 1, s, none⟩) := hV 11 (by decide)
                    have hS2 := H3.out.1.below hB2
                    have hcm := hS2.cell HM.out
                    have hfr := hS2.ob.frozen s
                    clear hV
                    refine does_skip (w := w2.setCell ⟨w.heap.size + 1, s, none⟩ (.int .i64 (min m q))) (exec_store rfl e11 e10 (by go_simp)) ?_
                    simp [fillAll, List.range, List.range.loop, dstOf, Act.put]
                    go_wp2
                    have h : shStep out2 s x = _ := hst
                    refine ⟨⟨j + 1, shStep out2 s x, by omega, by simp, by rw [h]; exact hS2.set s _, hsee⟩, by simp [intOf]; omega⟩
                · have hje : j = al.length := by omega
                  subst hje
                  go_wp2
                  exact ⟨⟨s + 1, out2, by omega, by simp, H3.out.1, H3.out.2.out.next HAL.out⟩, by simp [intOf]; omega⟩
            · have hse : s = c.alts.length := by omega
              subst hse
              go_wp2
              exact ⟨⟨j1 + 1, out1, by omega, by simp, H2.out.1, H1.out.2.out.round H2.out.2.out⟩, by simp [intOf]; omega⟩
        · have hje : j1 = c.alts.length := by omega
          subst hje
          go_wp2
          go_ret
          exact ⟨_, out0, rfl, H1.out.1.ob, H1.out.2.out.all, H1.out.1.bl, by omega⟩
end Go.Proofs.Ytgjobbapnileiaa
