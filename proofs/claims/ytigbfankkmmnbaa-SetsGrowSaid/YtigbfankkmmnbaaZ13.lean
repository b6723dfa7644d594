/- open: the walk; slices.Sort of numbers, by the library's contract. -/
import Derived.Test.YtigbfankkmmnbaaZ12
import Derived.Shelf.Sort.Plain
import Derived.Sort.OwnSortedInts
set_option linter.unusedVariables false
set_option linter.unusedSimpArgs false
namespace Go.Proofs.Ytigbfankkmmnbaa
open Go.RowKit Gk

def NewN (w0 w : World) (v : Value) (n : Nat) : Prop := ∃ N, v = .slice (some ⟨N, 0, none⟩) n n ∧ Box w N (Array.replicate n (.bool false)) 4 ∧ w0.heap.size ≤ N
def NewF (w0 w : World) (v : Value) (n : Nat) : Prop := ∃ R E, v = .slice (some ⟨R, 0, none⟩) n n ∧ SetRow w R E (List.replicate n []) ∧ w0.heap.size ≤ R ∧ ∀ i, i < n → w0.heap.size ≤ E i
theorem NewN.below {w0 w w' : World} {v : Value} {n : Nat} (h : NewN w0 w v n) (k : Below w.heap.size w w') : NewN w0 w' v n := by obtain ⟨N, e, h1, h2⟩ := h; exact ⟨N, e, h1.below k, h2⟩
theorem NewF.below {w0 w w' : World} {v : Value} {n : Nat} (h : NewF w0 w v n) (k : Below w.heap.size w w') : NewF w0 w' v n := by obtain ⟨R, E, e, h1, h2⟩ := h; exact ⟨R, E, e, h1.below k, h2⟩
/-- the region that makes the tables -/
def OpnV (w0 : World) (X n : Nat) (a b d : Value) (i : Nat) (v : Value) (w : World) : Prop := match i with
  | 0 => v = .agg #[a, b, d]
  | 1 => v = .pointer (some ⟨X, 2, none⟩)
  | 2 => v = d
  | 3 => v = .int .i64 n
  | 4 => NewN w0 w v n
  | 5 => v = .pointer (some ⟨X, 2, none⟩)
  | 6 => v = d
  | 7 => v = .int .i64 n
  | 8 => NewF w0 w v n
  | 9 => ∃ nv fv, v = .agg #[a, b, d, nv, fv, .slice none 0 0] ∧ NewN w0 w nv n ∧ NewF w0 w fv n
  | 10 => ∃ T nv fv, v = .pointer (some ⟨T, 0, none⟩) ∧ Box w T #[a, b, d, nv, fv, .slice none 0 0] 56 ∧ w0.heap.size ≤ T ∧ NewN w0 w nv n ∧ NewF w0 w fv n
  | _ => ∃ P, v = .pointer (some ⟨P, 0, none⟩) ∧ Box w P #[.pointer none] 57 ∧ w0.heap.size ≤ P
theorem OpnV.below {w0 : World} {X n : Nat} {a b d : Value} (i : Nat) (v : Value) (w w' : World) (h : OpnV w0 X n a b d i v w) (k : Below w.heap.size w w') : OpnV w0 X n a b d i v w' := by
  unfold OpnV at h ⊢
  split at h
  · exact h
  · exact h
  · exact h
  · exact h
  · exact h.below k
  · exact h
  · exact h
  · exact h
  · exact h.below k
  · obtain ⟨nv, fv, e, h1, h2⟩ := h; exact ⟨nv, fv, e, h1.below k, h2.below k⟩
  · obtain ⟨T, nv, fv, e, h0, h3, h1, h2⟩ := h; exact ⟨T, nv, fv, e, h0.below k, h3, h1.below k, h2.below k⟩
  · rename_i n0 n1 n2 n3 n4 n5 n6 n7 n8 n9 n10
    obtain ⟨P, e, h1, h2⟩ := h; exact ⟨P, e, h1.below k, h2⟩
def opnEnd (c : Cfg) (a b : Value) (A3 : Option Addr) (c3 : Nat) (w : World) (e : Ending) (w' : World) : Prop :=
  ∃ T P N R E nl fs, e = .returned (.pointer (some ⟨T, 0, none⟩)) ∧ OpT w T P N R E a b A3 c3 c (.slice none 0 0) nl fs w' ∧ NulOk c nl ∧ FrsI c fs ∧ FrsC c nl fs
theorem nul_start (c : Cfg) : NulI c (List.replicate c.alts.length false) := ⟨by simp, fun r hr => by
  rw [List.getElem?_replicate] at hr
  split at hr
  · injection hr with hr; cases hr
  · cases hr⟩
theorem frs_start (c : Cfg) : FrsI c (List.replicate c.alts.length []) := ⟨by simp, fun r l hl t ht => by
  rw [List.getElem?_replicate] at hl
  split at hl
  · injection hl with hl; subst hl; simp at ht
  · cases hl⟩
set_option maxRecDepth 100000 in
set_option maxHeartbeats 8000000 in
theorem open_calls (c : Cfg) (a b : Value) (A3 : Option Addr) (c3 : Nat) (w : World) (h : CfgV w (.agg #[a, b, .slice A3 c.alts.length c3]) c) (hok : CfgOk c) (hsm : Small 200 c) :
    Calls Try.prog 43 #[.agg #[a, b, .slice A3 c.alts.length c3]] w (opnEnd c a b A3 c3 w) := by
  have hal : c.alts.length ≤ 200 := by have := hok.1; have := hsm.1; omega
  obtain ⟨a0, b0, d0, he, h1, h2, h3⟩ := id h
  injection he with he; injection he with he
  simp only [List.cons.injEq, and_true] at he
  obtain ⟨rfl, rfl, rfl⟩ := he
  obtain ⟨A1, c1, rfl, hc1, hm1, _, hr1⟩ := id h1
  obtain ⟨A2, c2, rfl, hc2, hm2, _, hr2⟩ := id h2
  obtain ⟨A3', c3', e3, hc3, hm3, hl3, hr3⟩ := id h3
  injection e3 with e31 e32 e33
  subst e31 e33
  unfold LB at hl3
  have HH := Lib.hid (And.intro h (And.intro hok hsm))
  clear h hok hsm h1 h2 h3 hr1 hr2 e32
  have hB1 := Box.new w #[.slice A1 c.toks.length c1, .slice A2 c.names.length c2, .slice A3 c.alts.length c3] 25
  have hb1 : Below w.heap.size w (w.alloc (.cells #[.slice A1 c.toks.length c1, .slice A2 c.names.length c2, .slice A3 c.alts.length c3] 25)) := (Below.refl _ _).alloc (Nat.le_refl _) _
  have HB := Lib.hid (And.intro hB1 hb1)
  clear hB1 hb1
  go_enter Try.func43, Try.ntmps43
  go_wp2
  generalize w.alloc (.cells #[.slice A1 c.toks.length c1, .slice A2 c.names.length c2, .slice A3 c.alts.length c3] 25) = wb at *
  refine wp_region_growLast 12 (by kernel_rfl) (by kernel_rfl) (by kernel_rfl) (by kernel_rfl) (by kernel_rfl) (OpnV w w.heap.size c.alts.length (.slice A1 c.toks.length c1) (.slice A2 c.names.length c2) (.slice A3 c.alts.length c3)) OpnV.below ?_ ?_
  · intro i hi o ho val w2 hB2 hd
    have hbx2 := HB.out.1.below hB2
    have x0 := hbx2.cell 0 (v := .slice A1 c.toks.length c1) rfl
    have x1 := hbx2.cell 1 (v := .slice A2 c.names.length c2) rfl
    have x2 := hbx2.cell 2 (v := .slice A3 c.alts.length c3) rfl
    have hsz := (below2 HB.out.2 hB2).size
    have : i = 0 ∨ i = 1 ∨ i = 2 ∨ i = 3 ∨ i = 4 ∨ i = 5 ∨ i = 6 ∨ i = 7 ∨ i = 8 ∨ i = 9 ∨ i = 10 ∨ i = 11 := by omega
    rcases this with rfl | rfl | rfl | rfl | rfl | rfl | rfl | rfl | rfl | rfl | rfl | rfl <;> cases ho
    · exact does_value (exec_load rfl rfl (by go_simp)) ⟨Below.refl _ _, rfl⟩
    · exact does_value (exec_fieldAddr (vx := .pointer (some ⟨w.heap.size, 0, none⟩)) rfl rfl (by go_simp)) ⟨Below.refl _ _, rfl⟩
    · have e1 : val 1 = _ := hd 1 ⟨⟨1, .data⟩, by simp, rfl, rfl⟩
      exact does_value (exec_load rfl e1 (by go_simp)) ⟨Below.refl _ _, rfl⟩
    · have e2 : val 2 = _ := hd 2 ⟨⟨2, .data⟩, by simp, rfl, rfl⟩
      exact does_value (exec_len rfl e2 (by go_simp)) ⟨Below.refl _ _, rfl⟩
    · have e3 : val 3 = _ := hd 3 ⟨⟨3, .data⟩, by simp, rfl, rfl⟩
      obtain ⟨i0, hi0, hz0, hzs, hzb⟩ := info_parts infoBool
      have hr := run_makeSlice (P := Try.prog) w2 29 4 i0 _ Try.underlying29 hi0 hz0 .i64 .i64 c.alts.length c.alts.length (by omega) (by omega) (by rw [hzs]; omega) (by rw [hzb]; omega) (by omega)
      refine does_value (exec_makeSlice rfl e3 e3 hr) ⟨(Below.refl _ _).alloc (Nat.le_refl _) _, w2.heap.size, by simp, ?_, hsz⟩
      have e : (madeCells (Value.bool false).cells ((c.alts.length : Int).toNat * 1)) = Array.replicate c.alts.length (.bool false) := by rw [Int.toNat_natCast]; exact madeFalse _
      rw [hzs, e]
      exact Box.new _ _ _
    · exact does_value (exec_fieldAddr (vx := .pointer (some ⟨w.heap.size, 0, none⟩)) rfl rfl (by go_simp)) ⟨Below.refl _ _, rfl⟩
    · have e5 : val 5 = _ := hd 5 ⟨⟨5, .data⟩, by simp, rfl, rfl⟩
      exact does_value (exec_load rfl e5 (by go_simp)) ⟨Below.refl _ _, rfl⟩
    · have e6 : val 6 = _ := hd 6 ⟨⟨6, .data⟩, by simp, rfl, rfl⟩
      exact does_value (exec_len rfl e6 (by go_simp)) ⟨Below.refl _ _, rfl⟩
    · have e7 : val 7 = _ := hd 7 ⟨⟨7, .data⟩, by simp, rfl, rfl⟩
      refine does_enter (f := 49) (args := #[.int .i64 c.alts.length]) (w := w2) (exec_call rfl rfl (by simp only [List.map_toArray, List.map_cons, List.map_nil]; exact congrArg (fun x => #[x]) e7) Try.func49 (by decide) rfl) ?_
      refine (sets_calls c.alts.length w2 (by omega)).mono ?_
      rintro e w' ⟨rfl, hb, hS⟩
      exact ⟨_, rfl, hb, w2.heap.size, _, rfl, hS, hsz, fun i _ => by show w.heap.size ≤ w2.heap.size + 1 + i; omega⟩
    · have e0 : val 0 = _ := hd 0 ⟨⟨0, .data⟩, by simp, rfl, rfl⟩
      have h4 : NewN w w2 (val 4) _ := hd 4 ⟨⟨4, .data⟩, by simp, rfl, rfl⟩
      have h8 : NewF w w2 (val 8) _ := hd 8 ⟨⟨8, .data⟩, by simp, rfl, rfl⟩
      obtain ⟨N, e4, _⟩ := id h4
      obtain ⟨R, E, e8, _⟩ := id h8
      have hr : (Instr.build 56 #[(0, Value.agg #[.slice A1 c.toks.length c1, .slice A2 c.names.length c2, .slice A3 c.alts.length c3]), (1, val 4), (2, val 8)]).run Try.prog w2 = .ok (.agg #[.slice A1 c.toks.length c1, .slice A2 c.names.length c2, .slice A3 c.alts.length c3, val 4, val 8, .slice none 0 0]) w2 := by
        rw [e4, e8]; go_simp
      refine does_value (exec_build (A := #[(0, Value.agg #[.slice A1 c.toks.length c1, .slice A2 c.names.length c2, .slice A3 c.alts.length c3]), (1, val 4), (2, val 8)]) rfl (by simp only [List.map_toArray, List.map_cons, List.map_nil]; rw [← e0]; rfl) hr) ⟨Below.refl _ _, val 4, val 8, rfl, h4, h8⟩
    · obtain ⟨nv, fv, e9, h4, h8⟩ := hd 9 ⟨⟨9, .data⟩, by simp, rfl, rfl⟩
      obtain ⟨N, e4, _⟩ := id h4
      obtain ⟨R, E, e8, _⟩ := id h8
      have hr : (Instr.box 56 (.agg #[.slice A1 c.toks.length c1, .slice A2 c.names.length c2, .slice A3 c.alts.length c3, nv, fv, .slice none 0 0])).run Try.prog w2 = .ok (.pointer (some ⟨w2.heap.size, 0, none⟩)) (w2.alloc (.cells #[.slice A1 c.toks.length c1, .slice A2 c.names.length c2, .slice A3 c.alts.length c3, nv, fv, .slice none 0 0] 56)) := by
        go_simp
      have hbn : Below w2.heap.size w2 (w2.alloc (.cells #[.slice A1 c.toks.length c1, .slice A2 c.names.length c2, .slice A3 c.alts.length c3, nv, fv, .slice none 0 0] 56)) := (Below.refl _ _).alloc (Nat.le_refl _) _
      exact does_value (exec_box rfl e9 hr) ⟨hbn, w2.heap.size, nv, fv, rfl, Box.new _ _ _, hsz, h4.below hbn, h8.below hbn⟩
    · have hz : (zeroValue 57).run Try.prog w2 = .ok (.pointer none) w2 := by kernel_rfl
      exact does_value (exec_alloc rfl hz) ⟨(Below.refl _ _).alloc (Nat.le_refl _) _, w2.heap.size, rfl, Box.new _ _ _, hsz⟩
  · intro o ho val w2 hB2 hV
    cases ho
    obtain ⟨T, nv, fv, e10, hT, hTs, ⟨N, rfl, hN, hNs⟩, ⟨R, E, rfl, hR, hRs, hEs⟩⟩ := hV 10 (by decide)
    obtain ⟨P, e11, hP, hPs⟩ := hV 11 (by decide)
    have hcp := hP.cell 0 (v := .pointer none) rfl
    have hfp := hP.frozen 0
    have hPT := box_ne hP hT (by decide)
    have hPN := box_ne hP hN (by decide)
    have hPR := box_ne hP hR.box (by decide)
    have hk : ∀ g, g ≠ P → (w2.setCell ⟨P, 0, none⟩ (.pointer (some ⟨T, 0, none⟩))).heap[g]? = w2.heap[g]? := fun g hg => Below.heap_setCell w2 ⟨P, 0, none⟩ _ g hg
    have hO : OpT w T P N R E (.slice A1 c.toks.length c1) (.slice A2 c.names.length c2) A3 c3 c (.slice none 0 0) (List.replicate c.alts.length false) (List.replicate c.alts.length []) (w2.setCell ⟨P, 0, none⟩ (.pointer (some ⟨T, 0, none⟩))) := by
      refine ⟨⟨hT.keep (hk _ hPT.symm), ?_, hR.keep (hk _ hPR.symm) fun i hi => hk _ ?_, by simp, by simp⟩, hP.set 0 _, hTs, hNs, hRs, hPs, hEs, (below2 HB.out.2 hB2).setCell hPs _⟩
      · have := hN.keep (hk _ hPN.symm)
        rw [List.map_replicate]; simpa using this
      · have hs := hR.set i _ (List.getElem?_eq_getElem hi)
        exact set_ne hs hP
    have HO := Lib.hid hO
    clear hV hP hT hN hR hPT hPN hPR hO
    refine does_skip (w := w2.setCell ⟨P, 0, none⟩ (.pointer (some ⟨T, 0, none⟩))) (exec_store rfl e11 e10 (by go_simp)) ?_
    generalize w2.setCell ⟨P, 0, none⟩ (.pointer (some ⟨T, 0, none⟩)) = w3 at *
    simp [fillAll, List.range, List.range.loop, dstOf, Act.put, upd]
    rw [e10, e11]
    clear e10 e11 hk hcp hfp
    have hp3 := HO.out.pb.cell 0 (v := .pointer (some ⟨T, 0, none⟩)) rfl
    generalize val 0 = v0; generalize val 1 = v1; generalize val 2 = v2; generalize val 3 = v3; generalize val 4 = v4; generalize val 5 = v5; generalize val 6 = v6; generalize val 7 = v7; generalize val 8 = v8; generalize val 9 = v9
    have hA := eachA_calls (fun nl w' => OpT w T P N R E (.slice A1 c.toks.length c1) (.slice A2 c.names.length c2) A3 c3 c (.slice none 0 0) nl (List.replicate c.alts.length []) w' ∧ NulI c nl) (fun nl => c.alts.length - cntT nl) (ClN c) P w T _ _ A3 c3 c (by omega) hr3
      (fun nl w' h => ⟨h.1.bl, _, _, _, h.1.ld.tb⟩) (fun nl w' r al s u h hr hs hu => opn1_calls w T P N R E _ _ A3 c3 c _ _ (by omega) nl w' r al s u h hr hs hu) _ w3 ⟨HO.out, nul_start c⟩
    have HA := Lib.hid hA
    clear hA
    go_wp2_with (go_at_call 50; first | (have hz4 : World := w4; clear hz4; refine (eachB_calls (fun fs w' => OpT w T P N R E (.slice A1 c.toks.length c1) (.slice A2 c.names.length c2) A3 c3 c (.slice none 0 0) nl fs w' ∧ FrsI c fs) (muI c) (fun r s fs => ClF nl r s fs) P w T _ _ A3 c3 c (by omega) hr3 (fun fs w' h => ⟨h.1.bl, _, _, _, h.1.ld.tb⟩) (fun fs w' r al s u h hr hs hu => opn2_calls w T P N R E _ _ A3 c3 c _ HH.out.2.1 HH.out.2.2 nl HN.out.1 fs w' r al s u h hr hs hu) _ w4 ⟨HN.out.2, frs_start c⟩).mono ?_; rintro e w5 ⟨rfl, fs, ⟨hO5, hI5⟩, hC5⟩; have hp5 := hO5.pb.cell 0 (v := .pointer (some ⟨T, 0, none⟩)) rfl) | (refine HA.out.mono ?_; rintro e w4 ⟨rfl, nl, ⟨hO4, hI4⟩, hC4⟩; have hp4 := hO4.pb.cell 0 (v := .pointer (some ⟨T, 0, none⟩)) rfl; have hnl : NulOk c nl := ⟨hI4, fun r al a h1 h2 => hC4 r al a h1 h2⟩; have HN := Lib.hid (And.intro hnl hO4); clear hO4 hI4 hC4 hnl))
    go_ret
    exact ⟨T, P, N, R, E, nl, fs, rfl, hO5, HN.out.1, hI5, fun r al a h1 h2 => hC5 r al a h1 h2⟩
end Go.Proofs.Ytigbfankkmmnbaa
set_option linter.unusedVariables false
set_option linter.unusedSimpArgs false
namespace Go.Proofs.Ytigbfankkmmnbaa
open Go.RowKit Gk

def sortLay_ren : Go.Shelf.Ren := ⟨fun | 189 => 73 | 125 => 85 | 257 => 84 | 128 => 102 | 129 => 103 | 294 => 93 | 295 => 94 | 296 => 95 | 297 => 96 | 298 => 97 | 299 => 98 | 216 => 99 | 300 => 100 | 301 => 101 | 328 => 105 | 329 => 106 | 330 => 107 | 331 => 108 | 332 => 109 | 215 => 110 | 343 => 111 | n => n, fun | 28 => 35 | 3 => 3 | 46 => 91 | 0 => 0 | 51 => 109 | 53 => 112 | 4 => 4 | 183 => 120 | 182 => 119 | 131 => 67 | 5 => 5 | 9 => 9 | 218 => 130 | 222 => 134 | 228 => 136 | 229 => 137 | n => n, fun | n => n⟩
set_option maxRecDepth 100000 in
theorem sortLay : Go.Proofs.Lays.n189 Try.prog sortLay_ren := {
  mixed := by kernel_rfl
  f125 := Try.func85.trans (congrArg some (by kernel_rfl))
  f128 := Try.func102.trans (congrArg some (by kernel_rfl))
  f129 := Try.func103.trans (congrArg some (by kernel_rfl))
  f189 := Try.func73.trans (congrArg some (by kernel_rfl))
  f215 := Try.func110.trans (congrArg some (by kernel_rfl))
  f216 := Try.func99.trans (congrArg some (by kernel_rfl))
  f257 := Try.func84.trans (congrArg some (by kernel_rfl))
  f294 := Try.func93.trans (congrArg some (by kernel_rfl))
  f295 := Try.func94.trans (congrArg some (by kernel_rfl))
  f296 := Try.func95.trans (congrArg some (by kernel_rfl))
  f297 := Try.func96.trans (congrArg some (by kernel_rfl))
  f298 := Try.func97.trans (congrArg some (by kernel_rfl))
  f299 := Try.func98.trans (congrArg some (by kernel_rfl))
  f300 := Try.func100.trans (congrArg some (by kernel_rfl))
  f301 := Try.func101.trans (congrArg some (by kernel_rfl))
  f328 := Try.func105.trans (congrArg some (by kernel_rfl))
  f329 := Try.func106.trans (congrArg some (by kernel_rfl))
  f330 := Try.func107.trans (congrArg some (by kernel_rfl))
  f331 := Try.func108.trans (congrArg some (by kernel_rfl))
  f332 := Try.func109.trans (congrArg some (by kernel_rfl))
  f343 := Try.func111.trans (congrArg some (by kernel_rfl))
  t0 := Try.underlying0
  a0 := Try.isAgg0
  z0 := Try.sizeOf0
  v0 := Try.zeroValue0
  t3 := Try.underlying3
  a3 := Try.isAgg3
  z3 := Try.sizeOf3
  v3 := Try.zeroValue3
  t4 := Try.underlying4
  a4 := Try.isAgg4
  z4 := Try.sizeOf4
  v4 := Try.zeroValue4
  t5 := Try.underlying5
  a5 := Try.isAgg5
  z5 := Try.sizeOf5
  v5 := Try.zeroValue5
  t9 := Try.underlying9
  a9 := Try.isAgg9
  z9 := Try.sizeOf9
  v9 := Try.zeroValue9
  t28 := Try.underlying35
  a28 := Try.isAgg35
  z28 := Try.sizeOf35
  v28 := Try.zeroValue35
  t46 := Try.underlying91
  a46 := Try.isAgg91
  z46 := Try.sizeOf91
  v46 := Try.zeroValue91
  t51 := Try.underlying109
  a51 := Try.isAgg109
  z51 := Try.sizeOf109
  v51 := Try.zeroValue109
  t53 := Try.underlying112
  a53 := Try.isAgg112
  z53 := Try.sizeOf112
  v53 := Try.zeroValue112
  t131 := Try.underlying67
  a131 := Try.isAgg67
  z131 := Try.sizeOf67
  v131 := Try.zeroValue67
  t182 := Try.underlying119
  a182 := Try.isAgg119
  z182 := Try.sizeOf119
  v182 := Try.zeroValue119
  t183 := Try.underlying120
  a183 := Try.isAgg120
  z183 := Try.sizeOf120
  v183 := Try.zeroValue120
  t218 := Try.underlying130
  a218 := Try.isAgg130
  z218 := Try.sizeOf130
  v218 := Try.zeroValue130
  t222 := Try.underlying134
  a222 := Try.isAgg134
  z222 := Try.sizeOf134
  v222 := Try.zeroValue134
  t228 := Try.underlying136
  a228 := Try.isAgg136
  z228 := Try.sizeOf136
  v228 := Try.zeroValue136
  t229 := Try.underlying137
  a229 := Try.isAgg137
  z229 := Try.sizeOf137
  v229 := Try.zeroValue137 }
/-- put in order -/
abbrev sortL (K : List Int) : List Int := K.mergeSort fun x y => decide (x ≤ y)
theorem sortL_mem {K : List Int} {t : Int} : t ∈ sortL K ↔ t ∈ K := List.mem_mergeSort
theorem sortL_len (K : List Int) : (sortL K).length = K.length := List.length_mergeSort K
theorem sortL_rising {K : List Int} (h : K.Nodup) : Rising (sortL K) := by
  have h1 : (sortL K).Pairwise (fun a b => decide (a ≤ b) = true) := List.pairwise_mergeSort (fun a b c h1 h2 => by simp at h1 h2 ⊢; omega) (fun a b => by simp; omega) K
  have h2 : (sortL K).Nodup := (List.mergeSort_perm K _).symm.nodup h
  refine (h1.and h2).imp fun {a b} hab => ?_
  obtain ⟨h3, h4⟩ := hab
  have h5 : a ≤ b := by simpa using h3
  have h6 : a ≠ b := h4
  omega
theorem int_cells {D : Nat → Prop} {w : World} : ∀ {xs : List Int} {css : List (List Value)}, css.length = xs.length → (∀ (i : Nat) x, xs[i]? = some x → ∃ cs, css[i]? = some cs ∧ Far D (fun w => Ty.int.R w x cs) w) → css.flatten = xs.map (Value.int .i64) ∧ ∀ x ∈ xs, Ty.i64 x := by
  intro xs
  induction xs with
  | nil => intro css hl _; have := List.eq_nil_of_length_eq_zero hl; subst this; exact ⟨rfl, by simp⟩
  | cons x xs ih =>
    intro css hl h
    cases css with
    | nil => simp at hl
    | cons cs css =>
      obtain ⟨cs', e, hf⟩ := h 0 x rfl
      simp at e; subst e
      obtain ⟨e2, h64⟩ := hf.now
      obtain ⟨h1, h2⟩ := ih (css := css) (by simpa using hl) (fun i y hy => by have := h (i + 1) y (by simpa using hy); simpa using this)
      refine ⟨by rw [List.flatten_cons, h1, e2]; rfl, fun y hy => ?_⟩
      rcases List.mem_cons.1 hy with rfl | hy
      · exact h64
      · exact h2 y hy
theorem sort_calls (B g cap : Nat) (xs : List Int) (w : World) (h : Own Ty.int 3 B (fun _ => True) w (.slice (some ⟨g, 0, none⟩) xs.length cap) xs) (hl : xs.length ≤ 1000000) :
    Calls Try.prog 73 #[.slice (some ⟨g, 0, none⟩) xs.length cap] w fun e w' => e = .returned (.tuple #[]) ∧ Own Ty.int 3 B (fun _ => True) w' (.slice (some ⟨g, 0, none⟩) xs.length cap) (sortL xs) ∧ w.grownBy w' (some g) := by
  obtain ⟨css, ⟨g1, g2⟩, h2, h3, h5, h4⟩ := h
  rcases g2 with ⟨h0, _⟩ | ⟨g', cap', cur, hv, hg, hb, hn, hcap, hsz, ht⟩
  · cases h0
  cases hv
  obtain ⟨hc, h64⟩ := int_cells h2 h4
  have ht' : cur.toList.take xs.length = xs.map (Value.int .i64) := by
    rw [← hc, ← ht]
    show _ = cur.toList.take (xs.length * 1)
    rw [Nat.mul_one]
  have hlt : g < w.heap.size := (Array.getElem?_eq_some_iff.1 hb).1
  refine (Any.slices_Sort_int sortLay g 0 cap xs w (Go.holds_of_blockI hb ht') hlt (by omega)).mono ?_
  rintro e w' ⟨rfl, n, os, rfl⟩
  refine ⟨rfl, ?_, Go.grownBy_sortedI _⟩
  have hown := Go.ownsRow_sortedI (w := w) (n := n) (os := os) (ts := sortL xs) (ss := xs) (sortL_len xs) hg hb hn hcap hsz
  refine ⟨(sortL xs).map fun x => [.int .i64 x], ?_, by simp, by rw [sortL_len]; exact h3, fun _ _ => trivial, fun i x hx => ⟨[.int .i64 x], by simp [hx], fun _ _ _ => ⟨rfl, h64 x (sortL_mem.1 (List.mem_of_getElem? hx))⟩⟩⟩
  have e1 : ((sortL xs).map fun x => [Value.int .i64 x]).flatten = (sortL xs).map (Value.int .i64) := by
    induction (sortL xs) with
    | nil => rfl
    | cons a l ih => simp [ih]
  rw [e1, sortL_len]
  exact hown
theorem ownIKeep {B : Nat} {w w' : World} {u : Value} {x : List Int} (h : Own Ty.int 3 B (fun _ => True) w u x) (hb : ∀ g, u.ownBlock = some g → w'.heap[g]? = w.heap[g]?) : Own Ty.int 3 B (fun _ => True) w' u x := by
  obtain ⟨css, ⟨g1, g2⟩, h2, h3, h5, h4⟩ := h
  refine ⟨css, ⟨g1, ?_⟩, h2, h3, h5, fun i y hy => ?_⟩
  · rcases g2 with g2 | ⟨g, cap, cur, rfl, r1, r2, r3⟩
    · exact .inl g2
    · exact .inr ⟨g, cap, cur, rfl, r1, (hb g rfl).trans r2, r3⟩
  · obtain ⟨cs, hc, hf⟩ := h4 i y hy
    exact ⟨cs, hc, fun _ _ _ => hf.now⟩
theorem ownI_some {B : Nat} {w : World} {u : Value} {x : List Int} (h : Own Ty.int 3 B (fun _ => True) w u x) (hx : 0 < x.length) : ∃ g cap, u = .slice (some ⟨g, 0, none⟩) x.length cap := by
  obtain ⟨css, ⟨g1, g2⟩, h2, h3, h5, h4⟩ := h
  rcases g2 with ⟨_, h0⟩ | ⟨g, cap, cur, rfl, r1, r2, r3⟩
  · omega
  · exact ⟨g, cap, rfl⟩
def RisS (K : List Int) (M r B : Nat) (w0 : World) (o : Value) (wr : World) : Prop :=
  ∃ (L : List Int) (cnt : Nat) (xs : List Int) (g cap : Nat), o = .slice (some ⟨g, 0, none⟩) xs.length cap ∧ IRange wr M r K L cnt ∧ Own Ty.int 3 B (fun _ => True) wr o xs ∧ Below B w0 wr ∧ Hid (∀ t, t ∈ xs ↔ t ∈ K ∧ t ∉ L) ∧ Hid xs.Nodup ∧ xs.length + cnt ≤ K.length
set_option maxRecDepth 100000 in
set_option maxHeartbeats 2000000 in
theorem rising_calls (M : Nat) (K : List Int) (w : World) (h : ISet w M K) (hl : K.length ≤ 1000) :
    Calls Try.prog 56 #[.map (some M)] w fun e w' => ∃ v ks, e = .returned v ∧ IL w' v ks ∧ Rising ks ∧ (∀ t, t ∈ ks ↔ t ∈ K) ∧ Below w.heap.size w w' := by
  obtain ⟨i0, hi0, hz0, hzs, hzb⟩ := info_parts infoInt
  have hmk := run_makeSlice (P := Try.prog) w 35 3 i0 _ Try.underlying35 hi0 hz0 .i64 .i64 0 K.length (by omega) (by omega) (by rw [hzs]; omega) (by rw [hzb]; omega) (by omega)
  have e0 : (madeCells (Value.int .i64 0).cells ((K.length : Int).toNat * i0.size)) = Array.replicate K.length (.int .i64 0) := by rw [hzs, Int.toNat_natCast]; exact madeZero _
  rw [e0] at hmk
  simp only [Int.toNat_natCast, Int.toNat_zero] at hmk
  clear hi0 hz0 hzs hzb e0
  have hlen := fun ty => h.len (P := Try.prog) (t := 65) Try.underlying65 ty
  have hO1 : Hid (Own Ty.int 3 w.heap.size (fun _ => True) (w.alloc (.cells (Array.replicate K.length (.int .i64 0)) 3)) (.slice (some ⟨w.heap.size, 0, none⟩) 0 K.length) []) :=
    ⟨[], ⟨by simp, .inr ⟨w.heap.size, K.length, _, rfl, Nat.le_refl _, heap_alloc_new w _, Nat.zero_le _, by simp only [maxLen]; omega, by simp [show Ty.int.sz = 1 from rfl], by simp⟩⟩, rfl, by simp [LB], fun _ _ => trivial, by simp⟩
  have hba : Below w.heap.size w (w.alloc (.cells (Array.replicate K.length (.int .i64 0)) 3)) := (Below.refl _ _).alloc (Nat.le_refl _) _
  have hSa := Lib.hid (h.keep (hba.block _ h.lt))
  have hMlt := h.lt
  have HBA := Lib.hid hba
  have hsz1 : (w.alloc (.cells (Array.replicate K.length (.int .i64 0)) 3)).heap.size = w.heap.size + 1 := by simp
  clear h hba
  go_enter Try.func56, Try.ntmps56
  go_wp2_with (at_range; refine wpList_range rfl (.tmp 8) 65 3 4 M K rfl Try.underlying3 Try.underlying65 rfl hSa.out ?_; intro w2 hR2 hg2 hs2)
  go_frame
  clear hmk hlen
  have hO2 : Hid (Own Ty.int 3 w.heap.size (fun _ => True) w2 (.slice (some ⟨w.heap.size, 0, none⟩) 0 K.length) []) := ownIKeep hO1.out (fun g hgg => by simp [Value.ownBlock] at hgg; subst hgg; exact hg2.block _ (by omega) (by simp))
  have hB2 : Below w.heap.size w w2 := HBA.out.grown hg2 (by omega) (by simp)
  rw [hsz1] at hR2 ⊢
  have H2 := Lib.hid (And.intro hR2 (And.intro hO2.out hB2))
  clear hR2 hO2 hB2 hO1
  go_loopw [3] (fun o wr => RisS K M (w.heap.size + 1) w.heap.size w o wr) (fun _ wr => wr.rangeLeft M (w.heap.size + 1))
  case atStart => exact ⟨K, K.length, [], _, _, rfl, H2.out.1, H2.out.2.1, H2.out.2.2, fun t => ⟨fun h => by simp at h, fun h => absurd h.1 h.2⟩, List.nodup_nil, by simp⟩
  case round =>
    obtain ⟨L, cnt, xs, g, cap, rfl, hR, hO, hB, hm, hnd, hcn⟩ := hrel
    have HR := Lib.hid (And.intro hR (And.intro hO (And.intro hB (And.intro hm hnd))))
    have hszr := hB.size
    have hRlt := hR.lt
    have hOg := hO.lt g (by simp [Value.ownBlock])
    have hgM : g ≠ M := fun e => by
      have := IL.neSet (IL.of hO) hR.set
      exact this (by simp [Value.ownBlock, e])
    have hgr : g ≠ w.heap.size + 1 := fun e => by
      obtain ⟨D, left, ⟨es, clock, since, seen, c0, h1, F, h2, h3, h4, h5⟩, _⟩ := hR
      obtain ⟨css, ⟨g1, g2⟩, _⟩ := hO
      rcases g2 with ⟨h0, _⟩ | ⟨g', cap', cur', hv, r1, r2, r3⟩
      · cases h0
      · cases hv
        rw [e, h4] at r2; cases r2
    clear hR hO hB hm hnd
    obtain ⟨w3, rfl⟩ : ∃ w3 : World, w3 = wr := ⟨_, rfl⟩
    go_wp2_with (first | (at_next; refine wpList_next rfl (.tmp 9) 3 4 M (w.heap.size + 1) K L cnt rfl Try.underlying3 Try.underlying4 rfl HR.out.1 ?_ ?_; all_goals first | (intro x cb w5 cnt5 hx64 hxL hxK hR5 hcl5 hg5 hsz5 hen5; have hO5 := Lib.hid (ownIKeep HR.out.2.1 (fun d hd => hg5.block d (by simp [Value.ownBlock] at hd; omega) (by simp [Value.ownBlock] at hd; intro e; injection e with e; omega))); have hB5 := Lib.hid (HR.out.2.2.1.grown hg5 (by omega) (fun k e => by injection e with e; omega)); have hs5g : w.heap.size ≤ w5.heap.size := (by omega); have hR5h := Lib.hid hR5; clear hR5 hsz5) | intro hL0) | (at_builtin; refine wpList_app (T := Ty.int) (v := .slice (some ⟨g, 0, none⟩) xs.length cap) (xs := xs) (w0 := w) (W := w5) (B := w.heap.size) (D := fun _ => True) rfl (.tmp 14) (.tmp 16) 35 3 8 rfl elemInt rfl x #[.int .i64 x] w5.heap.size rfl rfl hO5.out (fun _ _ => trivial) (int_far _ _ _ hx64) hB5.out (by omega) (by omega) ?_; intro v6 w6 hO6 hB6 hg6 hat6))
    · have hsort := sort_calls w.heap.size g cap xs w3 HR.out.2.1 (by omega)
      have HS := Lib.hid hsort
      clear hsort
      go_wp2_with (go_at_call 73; refine HS.out.mono ?_; rintro e w7 ⟨rfl, hO7, hg7⟩)
      go_ret
      refine ⟨_, sortL xs, rfl, IL.of hO7, sortL_rising HR.out.2.2.2.2.out, fun t => ?_, HR.out.2.2.1.grown hg7 (by omega) (fun k e => by injection e with e; omega)⟩
      rw [sortL_mem, HR.out.2.2.2.1.out t]
      exact ⟨fun h => h.1, fun h => ⟨h, hL0 t⟩⟩
    · obtain ⟨g6, c6, rfl⟩ := ownI_some hO6 (by simp)
      have hR6 := hR5h.out.keep (hg6.block _ hR5h.out.lt.1 (by simp [Value.ownBlock]; omega)) (hg6.block _ hR5h.out.lt.2.1 (by simp [Value.ownBlock]; omega))
      refine ⟨⟨L.filter (· ≠ x), cnt5, xs ++ [x], g6, c6, rfl, hR6, hO6, hB6, fun t => ?_, ?_, by simp; omega⟩, by rw [hR6.left_eq, HR.out.1.left_eq]; exact hcl5⟩
      · rw [List.mem_append, HR.out.2.2.2.1.out t, List.mem_singleton, notin_filter1]
        constructor
        · rintro (⟨h1, h2⟩ | rfl)
          · exact ⟨h1, .inl h2⟩
          · exact ⟨hxK, .inr rfl⟩
        · rintro ⟨h1, h2 | rfl⟩
          · exact .inl ⟨h1, h2⟩
          · exact .inr rfl
      · exact nodup_snoc HR.out.2.2.2.2.out fun h => ((HR.out.2.2.2.1.out x).1 h).2 hxL
end Go.Proofs.Ytigbfankkmmnbaa
