/- Follow: what is handed to each: the walk (written by a program that spells FO out). -/
import Derived.Test.YtigbfankkmmnbaaZ14
set_option linter.unusedVariables false
set_option linter.unusedSimpArgs false
namespace Go.Proofs.Ytigbfankkmmnbaa
open Go.RowKit Gk

def ClW (nl : List Bool) (fs : List (List Int)) (r : Nat) (A : List Int) (gs : List (List Int)) : Prop := ∀ (j : Nat) k, A[j]? = some k → FlwAt nl fs gs r k (A.drop (j + 1))
theorem FloI.step {c : Cfg} {nl : List Bool} {fs : List (List Int)} {r : Nat} {A : List Int} {gs0 gs : List (List Int)} {bb : Bool} {i : Nat} (h : FloI c nl fs r A gs0 gs bb i) {k : Int} (hk : A[i]? = some k) {s : Nat} (hs : -1 - k = s) (hk0 : k < 0) {K K2 : List Int} (hK : gs[s]? = some K) (hl : gs.length = c.alts.length)
    (hi : FlwI c (gs.set s K2)) (hb : ∀ l ∈ gs.set s K2, l.length ≤ c.toks.length + 1) (hle : K.length ≤ K2.length) (hsub : ∀ t ∈ K, t ∈ K2) (hsame : K2.length ≤ K.length → K2 = K ∧ FlwAt nl fs gs r k (A.drop (i + 1))) : FloI c nl fs r A gs0 (gs.set s K2) (bb || decide (K.length < K2.length)) (i + 1) := by
  have hmono : ∀ (q : Nat) t, t ∈ gs0.getD q [] → t ∈ (gs.set s K2).getD q [] := fun q t ht => by
    have h1 := h.2.2.2 q t ht
    by_cases e : q = s
    · subst e
      rw [getD_some hK] at h1
      rw [getD_some (List.getElem?_set_self (List.getElem?_eq_some_iff.1 hK).1)]
      exact hsub t h1
    · rw [List.getD_eq_getElem?_getD, List.getElem?_set_ne (fun e' => e e'.symm), ← List.getD_eq_getElem?_getD]; exact h1
  by_cases hlt : K.length < K2.length
  · rw [decide_eq_true hlt, Bool.or_true]
    refine ⟨hi, fun _ => ?_, fun e => (by cases e), hmono⟩
    have h1 := muI_lt hK hlt hl hb
    cases bb with
    | true => have := h.2.1 rfl; omega
    | false => rw [← (h.2.2.1 rfl).1]; exact h1
  · obtain ⟨e1, e2⟩ := hsame (by omega)
    have hgs : gs.set s K2 = gs := by
      obtain ⟨h1, h2⟩ := List.getElem?_eq_some_iff.1 hK
      rw [e1, ← h2]; exact List.set_getElem_self h1
    rw [decide_eq_false hlt, Bool.or_false, hgs]
    refine ⟨h.1, h.2.1, fun e => ⟨(h.2.2.1 e).1, fun j k' hj hk' => ?_⟩, h.2.2.2⟩
    by_cases e3 : j = i
    · subst e3
      rw [hk] at hk'; injection hk' with hk'; subst hk'
      rw [← (h.2.2.1 e).1]; exact e2
    · exact (h.2.2.1 e).2 j k' (by omega) hk'
def floEnd (w0 : World) (T P N R G : Nat) (E Eg : Nat → Nat) (a b : Value) (A3 : Option Addr) (c3 : Nat) (c : Cfg) (nl : List Bool) (fs gs : List (List Int)) (r : Nat) (A : List Int) (e : Ending) (w' : World) : Prop :=
  ∃ t' bb, e = .returned (.bool bb) ∧ (FoT w0 T P N R G E Eg a b A3 c3 c nl fs (t') w' ∧ FlwI c t') ∧ (bb = true → muI c t' < muI c gs) ∧ (bb = false → t' = gs ∧ ClW nl fs r A gs) ∧ ∀ (q : Nat) t, t ∈ gs.getD q [] → t ∈ t'.getD q []
theorem set_insAll_nil {gs : List (List Int)} {s : Nat} {K : List Int} (h : gs[s]? = some K) : gs.set s (insAll K []) = gs := by
  obtain ⟨h1, h2⟩ := List.getElem?_eq_some_iff.1 h
  show gs.set s K = gs
  rw [← h2]; exact List.set_getElem_self h1
theorem slDropI {w : World} {v : Value} {s : List Int} (h : Sl Ty.int w v s) {n : Nat} (hn : n ≤ s.length) : ∃ v', (∀ w2, (Instr.sliceAt 35 v (some (.int .i64 n)) none none).run Try.prog w2 = .ok v' w2) ∧ ∀ w2, Sl Ty.int w2 v s → Sl Ty.int w2 v' (s.drop n) := by
  obtain ⟨A, c, rfl, h1, h2, h3, h4⟩ := h
  have hl : (s.drop n).length = s.length - n := by simp
  unfold LB at h3
  simp only [maxLen] at h2
  cases A with
  | none =>
    have hs : s.length = 0 := by
      refine Nat.eq_zero_of_not_pos fun hp => ?_
      obtain ⟨ad, cs, e, _⟩ := h4 0 s[0] (List.getElem?_eq_getElem hp)
      cases e
    have hn0 : n = 0 := by omega
    subst hn0
    exact ⟨.slice none s.length c, fun w2 => by go_simp, fun w2 h => h⟩
  | some ad =>
    by_cases hc : c = n
    · refine ⟨.slice (some ad) (s.length - n) (c - n), fun w2 => by go_simp, fun w2 _ => ⟨some ad, c - n, by rw [hl], by omega, by simp only [maxLen]; omega, by rw [hl]; unfold LB; omega, ?_⟩⟩
      have : s.drop n = [] := List.drop_eq_nil_of_le (by omega)
      rw [this]; exact Row.nil _ _ _
    · refine ⟨.slice (some (ad.add n)) (s.length - n) (c - n), fun w2 => by go_simp, fun w2 h => ?_⟩
      obtain ⟨A', c', e, _, _, _, h5⟩ := h
      injection e with e1 e2 e3
      subst e1
      refine ⟨some (ad.add n), c - n, by rw [hl], by omega, by simp only [maxLen]; omega, by rw [hl]; unfold LB; omega, ?_⟩
      have := h5.drop n
      rwa [show n * Ty.int.sz = n from Nat.mul_one n] at this
set_option maxRecDepth 100000 in
set_option maxHeartbeats 8000000 in
theorem flo_calls (w0 : World) (T P N R G : Nat) (E Eg : Nat → Nat) (a b : Value) (A3 : Option Addr) (c3 : Nat) (c : Cfg) (hok : CfgOk c) (hsm : Small 200 c) (nl : List Bool) (hn : NulOk c nl) (fs : List (List Int)) (hfi : FrsI c fs) (gs : List (List Int)) (w : World) (r : Nat) (al : List (List Int)) (A : List Int) (u : Value)
    (h : FoT w0 T P N R G E Eg a b A3 c3 c nl fs (gs) w ∧ FlwI c gs) (hr : c.alts[r]? = some al) (hs : A ∈ al) (hu : ∀ w', Below w0.heap.size w0 w' → Sl Ty.int w' u A) :
    Calls Try.prog 51 #[.int .i64 (r : Nat), u, .pointer (some ⟨P, 0, none⟩)] w (floEnd w0 T P N R G E Eg a b A3 c3 c nl fs gs r A) := by
  have hcal : c.alts.length ≤ 200 := by have := hok.1; have := hsm.1; omega
  have hctl : c.toks.length ≤ 200 := by have := hsm.1; omega
  have hrl : r < c.alts.length := (List.getElem?_eq_some_iff.1 hr).1
  have hAl : A.length ≤ 200 := by have := (hsm.2 al (List.mem_of_getElem? hr)).2 A hs; omega
  have hin := hok.2 al (List.mem_of_getElem? hr) A hs
  have hnm := hok.1
  have HIN : Hid (∀ k ∈ A, k ≤ 100000 ∧ (k < 0 → -1 - k < (c.alts.length : Int))) := fun k hk => by
    have := hin k hk
    rcases this with h | h <;> constructor <;> intros <;> omega
  obtain ⟨AU, cU, rfl, ku1, ku2, ku3, _⟩ := id (hu w h.1.op.bl)
  unfold LB at ku3
  have HH := Lib.hid (And.intro h (And.intro hr (And.intro hs (And.intro hu (And.intro hok (And.intro hn hfi))))))
  clear h hr hs hu hok hn hfi hin hnm
  go_enter Try.func51, Try.ntmps51
  go_wp2
  go_loopw [16, 6] (fun i flag wr => ∃ (j : Nat) (gs1 : List (List Int)) (bb : Bool), j ≤ A.length ∧ i = .int .i64 j ∧ flag = .bool bb ∧ FoT w0 T P N R G E Eg a b A3 c3 c nl fs (gs1) wr ∧ Hid (FloI c nl fs r A gs gs1 bb j)) (fun i _ _ => A.length - (intOf i).toNat)
  case atStart => exact ⟨0, gs, false, Nat.zero_le _, rfl, rfl, HH.out.1.1, HH.out.1.2, fun e => (by cases e), fun _ => ⟨rfl, fun j k hj _ => absurd hj (Nat.not_lt_zero _)⟩, fun q t h => h⟩
  case round =>
    obtain ⟨j, gs1, bb, hj, rfl, rfl, hF1, hI1⟩ := hrel
    have H1 := Lib.hid (And.intro hF1 hI1)
    have hpc := hF1.op.pb.cell 0 (v := .pointer (some ⟨T, 0, none⟩)) rfl
    clear hF1 hI1
    by_cases hlt : j < A.length
    · obtain ⟨k, hk⟩ := at_lt A hlt
      obtain ⟨A9, c9, e9, _, _, _, hrow9⟩ := HH.out.2.2.2.1 wr H1.out.1.op.bl
      injection e9 with e91 e92 e93
      subst e91 e93
      obtain ⟨ad, rfl, hk64, hcell⟩ := hrow9.int hk
      have hkin := HIN.out k (List.mem_of_getElem? hk)
      have HK := Lib.hid hk
      clear hrow9 e92 hk
      have hrule := rule_calls T a b (.slice (some ⟨N, 0, none⟩) c.alts.length c.alts.length) (.slice (some ⟨R, 0, none⟩) c.alts.length c.alts.length) (.slice (some ⟨G, 0, none⟩) c.alts.length c.alts.length) A3 c.alts.length c3 k wr H1.out.1.op.ld.tb hk64 (by omega)
      by_cases hk0 : k < 0
      · have hks := hkin.2 hk0
        rw [decide_eq_true (And.intro hk0 hks)] at hrule
        obtain ⟨s, hs'⟩ : ∃ s : Nat, -1 - k = s := ⟨(-1 - k).toNat, by omega⟩
        have hsn : s < c.alts.length := by omega
        obtain ⟨K, hK⟩ := at_lt gs1 (by rw [H1.out.1.glen]; exact hsn : s < gs1.length)
        have hbd := flw_bound HH.out.2.2.2.2.1 H1.out.2.out.1 H1.out.1.row.nodup
        have hKl : K.length ≤ 1000 := by have := (hbd K (List.mem_of_getElem? hK)).1; omega
        have HS := Lib.hid (And.intro hk0 (And.intro hs' hK))
        have HRU := Lib.hid hrule
        clear hrule hks hs' hK hbd hkin
        go_wp2_with (go_at_call 52; refine HRU.out.mono ?_; rintro e w1 ⟨⟨q, rfl, hq⟩, hD⟩; obtain rfl : q = (s : Int) := (hq HS.out.1).trans HS.out.2.1; clear hq; have hF1 := Lib.hid (H1.out.1.below hD.below); have hfr := (Box.new w1 #[.int .i64 0] 3).frozen 0; have hcl := (Box.new w1 #[.int .i64 0] 3).cell 0 (v := .int .i64 0) rfl)
        have hB2 : Below w1.heap.size w1 (w1.alloc (.cells #[.int .i64 (s : Nat)] 3)) := (Below.refl _ _).alloc (Nat.le_refl _) _
        have hF2 := hF1.out.below hB2
        have hsv2 := Box.new w1 #[.int .i64 (s : Nat)] 3
        obtain ⟨sv, hsve⟩ : ∃ sv, sv = w1.heap.size := ⟨_, rfl⟩
        rw [← hsve] at hsv2 ⊢
        have hsvlt : w1.heap.size ≤ sv := by omega
        have hlt1 := hF1.out.lt
        have hsvne : ∀ i, i < c.alts.length → Eg i ≠ sv := fun i hi e => by have := (hlt1.2.2.2.2.2 i hi).2; omega
        have HSV := Lib.hid hsvne
        clear hfr hcl hB2 hsve hsvlt hlt1 hsvne
        generalize w1.alloc (.cells #[.int .i64 (s : Nat)] 3) = w2 at *
        have hgl : s < gs1.length := by rw [hF2.glen]; exact hsn
        have hp2 := hF2.op.pb.cell 0 (v := .pointer (some ⟨T, 0, none⟩)) rfl
        have ht2 := hF2.op.ld.tb.cell 5 (v := .slice (some ⟨G, 0, none⟩) c.alts.length c.alts.length) rfl
        have hs2 := hsv2.cell 0 (v := .int .i64 (s : Nat)) rfl
        have hg2 := hF2.row.cell hgl
        have hlen : ∀ n ty, (Builtin.len_ #[65] ty #[.map (some (Eg s))]).run Try.prog (w2.drewN n) = .ok (.int .i64 K.length) (w2.drewN n) := fun n ty => SetAt.len (w := w2.drewN n) ((hF2.row.set s K HS.out.2.2).keep rfl) Try.underlying65 ty
        have H2 := Lib.hid (And.intro hF2 hsv2)
        clear hF2 hsv2
        go_quiet (fail)
        have hF3 := H2.out.1.below (below_drewN (Below.refl _ _) nq)
        have hsv3 := H2.out.2.keep (w' := w2.drewN nq) rfl
        clear hlen hp2 ht2 hs2 hg2
        generalize w2.drewN nq = w3 at *
        obtain ⟨vS, hvS1, hvS2⟩ := slDropI (HH.out.2.2.2.1 w3 hF3.op.bl) (show j + 1 ≤ A.length by omega)
        have hjj : IntKind.i64.wrap ((j : Int) + 1) = ((j + 1 : Nat) : Int) := by rw [IntKind.wrap_i64]; omega
        have hvSu : ∀ w', Below w0.heap.size w0 w' → Sl Ty.int w' vS (A.drop (j + 1)) := fun w' hb => hvS2 w' (HH.out.2.2.2.1 w' hb)
        have HV := Lib.hid (And.intro hvS1 hvSu)
        clear hvS1 hvS2 hvSu
        have hlt3 := hF3.lt
        have hw3 := hF3.op.bl.size
        have hdl : (A.drop (j + 1)).length ≤ 200 := by simp; omega
        have hlead := leadC_calls (JF w0 T P N R G E Eg a b A3 c3 c nl fs gs1 sv s K) w3.heap.size P sv (fun xs F w4 h d hd => by rw [(h.2.2 d).1 hd]; exact (h.1.lt.2.2.2.2.2 s hsn).2)
          (fun xs F w4 w5 h ho hsz hk => ⟨h.1.keepB ⟨ho.1.trans h.1.op.bl.os, ho.2.1.trans h.1.op.bl.tape, ho.2.2.trans h.1.op.bl.output, Nat.le_trans h.1.op.bl.size hsz, fun d hd => by rw [hk d (by have := h.1.op.bl.size; omega) (.inl (by omega)), h.1.op.bl.block d hd]⟩ (fun d hd hor => hk d hd (.inl (by
              rcases hor with rfl | rfl | rfl | rfl | rfl | ⟨i, hi, rfl | rfl⟩
              · exact hlt3.1
              · exact hlt3.2.1
              · exact hlt3.2.2.1
              · exact hlt3.2.2.2.1
              · exact hlt3.2.2.2.2.1
              · exact (hlt3.2.2.2.2.2 i hi).1
              · exact (hlt3.2.2.2.2.2 i hi).2))), h.2.1.keep (hk sv h.2.1.lt (.inl hsv3.lt)), h.2.2⟩)
          (fun xs F w4 t h ht hx _ => layF11_calls w0 T P N R G E Eg a b A3 c3 c nl fs gs1 sv s K xs F w4 t h hsn ht hx hKl (by omega))
          (w3.drewN 1) (fun d => d = Eg s) [] ⟨by rw [set_insAll_nil HS.out.2.2]; exact hF3.below (below_drewN (Below.refl _ _) 1), hsv3.keep (w' := w3.drewN 1) rfl, fun d => Iff.rfl⟩ (Nat.le_refl _) (fun d hd => by rw [hd]; exact (hlt3.2.2.2.2.2 s hsn).2)
          T N R E a b A3 c.alts.length c3 _ vS nl fs (A.drop (j + 1)) (hF3.below (below_drewN (Below.refl _ _) 1)).op.ld
          ⟨fun e => (hF3.ne s hsn).1 e.symm, fun e => (hF3.ne s hsn).2.2.1 e.symm, fun e => (hF3.ne s hsn).2.2.2.1 e.symm, fun i hi e => hF3.neEE s i hsn hi e.symm⟩ (by omega)
          (fun w' F' k => HV.out.2 w' (k.to (hF3.below (below_drewN (Below.refl _ _) 1)).op.bl (fun d hd => by rw [hd]; exact hF3.geEg s hsn))) (hF3.op.fbound HH.out.2.2.2.2.1 hsm HH.out.2.2.2.2.2.2) (fun k hk => (HIN.out k (List.mem_of_mem_drop hk)).1) hdl (by simp)
        have HL := Lib.hid hlead
        have hp3 := hF3.op.pb.cell 0 (v := .pointer (some ⟨T, 0, none⟩)) rfl
        have H3 := Lib.hid (And.intro hF3 hsv3)
        clear hlead hF3 hsv3 hlt3
        go_wp2
        refine wp_region_lastT 6 (by kernel_rfl) (by kernel_rfl) (by kernel_rfl) (by kernel_rfl) (by kernel_rfl) (fun j' => match j' with | 0 => .pointer (some ⟨T, 0, none⟩) | 1 => .slice (some ad) A.length cU | 2 => .int .i64 (j : Nat) | 3 => .int .i64 ((j + 1 : Nat) : Int) | 4 => vS | 5 => .func (.func 54) #[] #[.pointer (some ⟨P, 0, none⟩), .pointer (some ⟨sv, 0, none⟩)] | _ => undef) ?_ ?_
        · intro i hi oi ho
          have : i = 0 ∨ i = 1 ∨ i = 2 ∨ i = 3 ∨ i = 4 ∨ i = 5 := by omega
          rcases this with rfl | rfl | rfl | rfl | rfl | rfl <;> cases ho
          · exact exec_load rfl rfl (by go_simp)
          · rfl
          · rfl
          · exact exec_bin (u := .int .i64 (j : Nat)) (v := .int .i64 1) rfl rfl rfl (by simp [Go.binOp, go_sem]; rw [hjj]; simp)
          · exact exec_slice rfl rfl (l := some (.int .i64 ((j + 1 : Nat) : Int))) rfl (h := none) rfl (HV.out.1 _)
          · exact exec_makeFunc rfl (by simp only [List.map_toArray, List.map_cons, List.map_nil]; rfl)
        · intro oi ho
          cases ho
          refine does_enter (f := 53) (args := #[.pointer (some ⟨T, 0, none⟩), vS, .func (.func 54) #[] #[.pointer (some ⟨P, 0, none⟩), .pointer (some ⟨sv, 0, none⟩)]]) (w := w3.drewN 1) (exec_call rfl rfl (by simp only [List.map_toArray, List.map_cons, List.map_nil]; rfl) Try.func53 (by decide) rfl) ?_
          refine HL.out.mono ?_
          rintro e w4 ⟨rfl, ys, F4, ⟨hF4, hsv4, hFF4⟩, hX4, hmem, hyl⟩
          rw [List.nil_append] at hF4
          refine ⟨_, rfl, ?_⟩
          simp [fillAll, List.range, List.range.loop, dstOf, Act.put, upd]
          obtain ⟨gs4, hgs4⟩ : ∃ x, x = gs1.set s (insAll K ys) := ⟨_, rfl⟩
          rw [← hgs4] at hF4
          have hp4 := hF4.op.pb.cell 0 (v := .pointer (some ⟨T, 0, none⟩)) rfl
          have hemp := emp_calls (w4.drewN 1) T N a b A3 c.alts.length c3 _ _ vS nl (A.drop (j + 1)) (hF4.below (below_drewN (Below.refl _ _) 1)).op.ld.emp (by omega) (HV.out.2 _ (hF4.below (below_drewN (Below.refl _ _) 1)).op.bl)
          obtain ⟨be, hbe⟩ : ∃ be, be = emptyP nl (A.drop (j + 1)) := ⟨_, rfl⟩
          rw [← hbe] at hemp
          have HE := Lib.hid (And.intro hemp hbe)
          have H4 := Lib.hid (And.intro hF4 (And.intro hsv4 (And.intro hmem (And.intro hgs4 hyl))))
          clear hF4 hsv4 hFF4 hX4 hmem hgs4 hemp hbe hp3
          go_wp2
          refine wp_region_lastT 5 (by kernel_rfl) (by kernel_rfl) (by kernel_rfl) (by kernel_rfl) (by kernel_rfl) (fun j' => match j' with | 0 => .pointer (some ⟨T, 0, none⟩) | 1 => .slice (some ad) A.length cU | 2 => .int .i64 (j : Nat) | 3 => .int .i64 ((j + 1 : Nat) : Int) | 4 => vS | _ => undef) ?_ ?_
          · intro i hi oi ho
            have : i = 0 ∨ i = 1 ∨ i = 2 ∨ i = 3 ∨ i = 4 := by omega
            rcases this with rfl | rfl | rfl | rfl | rfl <;> cases ho
            · exact exec_load rfl rfl (by go_simp)
            · rfl
            · rfl
            · exact exec_bin (u := .int .i64 (j : Nat)) (v := .int .i64 1) rfl rfl rfl (by simp [Go.binOp, go_sem]; rw [hjj]; simp)
            · exact exec_slice rfl rfl (l := some (.int .i64 ((j + 1 : Nat) : Int))) rfl (h := none) rfl (HV.out.1 _)
          · intro oi ho
            cases ho
            refine does_enter (f := 55) (args := #[.pointer (some ⟨T, 0, none⟩), vS]) (w := w4.drewN 1) (exec_call rfl rfl (by simp only [List.map_toArray, List.map_cons, List.map_nil]; rfl) Try.func55 (by decide) rfl) ?_
            refine HE.out.1.mono ?_
            rintro e w5 ⟨rfl, hb5⟩
            refine ⟨_, rfl, ?_⟩
            simp [fillAll, List.range, List.range.loop, dstOf, Act.put, upd]
            have hb45 : Below w4.heap.size w4 w5 := below2 (below_drewN (Below.refl _ _) 1) hb5
            have hF5 := H4.out.1.below hb45
            have hsv5 := H4.out.2.1.below hb45
            clear hb45 hb5 hp4
            have hfl4 : FlwI c gs4 := by
              have hAs : A = A.take j ++ k :: A.drop (j + 1) := by rw [← drop_at HK.out, List.take_append_drop]
              have hsr : (-1 - k).toNat = s := by have := HS.out.2.1; omega
              have hg4 : gs4 = gs1.set s (insAll K ys) := H4.out.2.2.2.1
              rw [hg4]
              refine flw_set H1.out.2.out.1 HS.out.2.2 fun t ht => ?_
              have := Flw.lead HH.out.2.1 (by rw [← hAs]; exact HH.out.2.2.1) HS.out.1 (lead_sound HH.out.2.2.2.2.2.1 HH.out.2.2.2.2.2.2 _ t ((H4.out.2.2.1 t).1 ht))
              rwa [hsr] at this
            have HFL4 := Lib.hid hfl4
            clear hfl4
            -- what stands at the end of a round
            have hdone : ∀ (zs : List Int) (bb' : Bool) (w6 : World), (∀ t ∈ zs, be = true ∧ t ∈ gs4.getD r []) → (be = true → ∀ t ∈ gs4.getD r [], t ∈ zs) → FoT w0 T P N R G E Eg a b A3 c3 c nl fs (gs1.set s (insAll (insAll K ys) zs)) w6 → bb' = (bb || decide (K.length < (insAll (insAll K ys) zs).length)) → FloI c nl fs r A gs (gs1.set s (insAll (insAll K ys) zs)) bb' (j + 1) := by
              intro zs bb' w6 hz1 hz2 hF6 hbb
              rw [hbb]
              have hAs : A = A.take j ++ k :: A.drop (j + 1) := by rw [← drop_at HK.out, List.take_append_drop]
              have hsr : (-1 - k).toNat = s := by have := HS.out.2.1; omega
              have hfl : ∀ t ∈ ys, Flw c s t := fun t ht => by
                have := Flw.lead HH.out.2.1 (by rw [← hAs]; exact HH.out.2.2.1) HS.out.1 (lead_sound HH.out.2.2.2.2.2.1 HH.out.2.2.2.2.2.2 _ t ((H4.out.2.2.1 t).1 ht))
                rwa [hsr] at this
              have hg4 : gs4 = gs1.set s (insAll K ys) := H4.out.2.2.2.1
              have hfl4 : FlwI c gs4 := by rw [hg4]; exact flw_set H1.out.2.out.1 HS.out.2.2 hfl
              have hK4 : gs4[s]? = some (insAll K ys) := by rw [hg4, List.getElem?_set_self (by rw [H1.out.1.glen]; exact hsn)]
              have hfz : ∀ t ∈ zs, Flw c s t := fun t ht => by
                obtain ⟨h1, h2⟩ := hz1 t ht
                have hre : (gs4.getD r []) = gs4[r]'(by rw [hfl4.1]; exact hrl) := by rw [List.getD_eq_getElem?_getD, List.getElem?_eq_getElem (by rw [hfl4.1]; exact hrl)]; rfl
                rw [hre] at h2
                have h3 := hfl4.2 r _ (List.getElem?_eq_getElem (by rw [hfl4.1]; exact hrl)) t h2
                have h4 := (empty_iff HH.out.2.2.2.2.2.1 (A.drop (j + 1))).1 (by rw [← HE.out.2]; exact h1)
                have := Flw.pass HH.out.2.1 (by rw [← hAs]; exact HH.out.2.2.1) HS.out.1 h4 h3
                rwa [hsr] at this
              have hset : gs1.set s (insAll (insAll K ys) zs) = gs4.set s (insAll (insAll K ys) zs) := by rw [hg4, List.set_set]
              have hi2 : FlwI c (gs1.set s (insAll (insAll K ys) zs)) := by rw [hset]; exact flw_set hfl4 hK4 hfz
              have l1 := insAll_len ys K
              have l2 := insAll_len zs (insAll K ys)
              refine FloI.step H1.out.2.out HK.out HS.out.2.1 HS.out.1 HS.out.2.2 H1.out.1.glen hi2 (fun l hl => (flw_bound HH.out.2.2.2.2.1 hi2 hF6.row.nodup l hl).1) (by omega) (fun t ht => (mem_insAll _ _ _).2 (.inl ((mem_insAll _ _ _).2 (.inl ht)))) fun hle => ?_
              obtain ⟨s1, s2⟩ := insAll_same ys K (by omega)
              obtain ⟨s3, s4⟩ := insAll_same zs (insAll K ys) (by omega)
              refine ⟨by rw [s3, s1], fun _ => ?_⟩
              have hgsame : gs4 = gs1 := by
                rw [hg4, s1]
                obtain ⟨h1, h2⟩ := List.getElem?_eq_some_iff.1 HS.out.2.2
                rw [← h2]; exact List.set_getElem_self h1
              rw [hsr, getD_some HS.out.2.2]
              refine ⟨fun t ht => s2 t ((H4.out.2.2.1 t).2 ht), fun he t ht => ?_⟩
              have h1 := hz2 (by rw [HE.out.2]; exact he) t (by rw [hgsame]; exact ht)
              have h2 := s4 t h1
              rw [s1] at h2; exact h2
            have HDN := Lib.hid hdone
            clear hdone
            cases be with
            | false =>
              have hF6 : FoT w0 T P N R G E Eg a b A3 c3 c nl fs (gs1.set s (insAll (insAll K ys) [])) w5 := by
                have h : gs4 = _ := H4.out.2.2.2.1
                have h2 := hF5
                rw [h] at h2; exact h2
              have HF6 := Lib.hid (And.intro hF6 hsv5)
              clear hF5 hsv5 hF6
              have hF6x := HF6.out.1
              have hgl6 : s < (gs1.set s (insAll (insAll K ys) [])).length := by rw [hF6x.glen]; exact hsn
              have hp6 := hF6x.op.pb.cell 0 (v := .pointer (some ⟨T, 0, none⟩)) rfl
              have ht6 := hF6x.op.ld.tb.cell 5 (v := .slice (some ⟨G, 0, none⟩) c.alts.length c.alts.length) rfl
              have hs6 := HF6.out.2.cell 0 (v := .int .i64 (s : Nat)) rfl
              have hg6 := hF6x.row.cell hgl6
              have hl1 : s < gs1.length := by rw [H1.out.1.glen]; exact hsn
              obtain ⟨K2, hK2⟩ : ∃ x, x = (insAll (insAll K ys) []) := ⟨_, rfl⟩
              have hlen6 : ∀ n ty, (Builtin.len_ #[65] ty #[.map (some (Eg s))]).run Try.prog (w5.drewN n) = .ok (.int .i64 K2.length) (w5.drewN n) := fun n ty => by
                rw [hK2]
                exact SetAt.len (w := w5.drewN n) ((hF6x.row.set s _ (List.getElem?_set_self hl1)).keep rfl) Try.underlying65 ty
              have hdn := fun bb' hbb => HDN.out [] bb' w5 (fun t ht => by simp at ht) (fun h => by cases h) HF6.out.1 hbb
              have hF6w := Lib.hid (fun nq => HF6.out.1.below (below_drewN (Below.refl w5.heap.size w5) nq))
              rw [← hK2] at hdn hF6w
              have HDN2 := Lib.hid hdn
              clear hF6x hK2 hdn hl1 hgl6
              cases bb with
              | true =>
                go_wp2
                go_quiet (fail)
                go_wp2
                refine ⟨⟨j + 1, _, true, by omega, by simp, rfl, hF6w.out _, HDN2.out true (by simp)⟩, by simp [intOf]; omega⟩
              | false =>
                by_cases hgt : (K2.length : Int) > (K.length : Int)
                · go_wp2
                  go_quiet (fail)
                  go_wp2
                  refine ⟨⟨j + 1, _, true, by omega, by simp, rfl, hF6w.out _, HDN2.out true (by rw [decide_eq_true (show K.length < K2.length by omega)]; rfl)⟩, by simp [intOf]; omega⟩
                · have hgf : decide ((K2.length : Int) > (K.length : Int)) = false := decide_eq_false hgt
                  go_wp2
                  go_quiet (fail)
                  go_wp2
                  refine ⟨⟨j + 1, _, false, by omega, by simp, by rw [decide_eq_false (show ¬ K.length < K2.length by omega)], hF6w.out _, HDN2.out false (by rw [decide_eq_false (show ¬ K.length < K2.length by omega)]; rfl)⟩, by simp [intOf]; omega⟩
            | true =>
              have hgl4 : r < gs4.length := by rw [H4.out.1.glen]; exact hrl
              obtain ⟨KR, hKR⟩ := at_lt gs4 hgl4
              have hp5 := hF5.op.pb.cell 0 (v := .pointer (some ⟨T, 0, none⟩)) rfl
              have ht5 := hF5.op.ld.tb.cell 5 (v := .slice (some ⟨G, 0, none⟩) c.alts.length c.alts.length) rfl
              have hg5 := hF5.row.cell hgl4
              have hKRl : KR.length ≤ 1000 := by have := (flw_bound HH.out.2.2.2.2.1 HFL4.out hF5.row.nodup KR (List.mem_of_getElem? hKR)).1; omega
              have hris := rising_calls (Eg r) KR w5 (hF5.row.set r KR hKR) hKRl
              have HRI := Lib.hid hris
              have HKR := Lib.hid hKR
              have H5 := Lib.hid (And.intro hF5 hsv5)
              clear hris hKR hF5 hsv5
              go_wp2_with (go_at_call 56; refine HRI.out.mono ?_; rintro e w6 ⟨v6, ks, rfl, hI6, hR6, hm6, hb6⟩; obtain ⟨AV, cV, rfl, v1, v2, v3, _⟩ := id hI6.sl; have hksl : ks.length ≤ 1000 := (by have := nodup_le ks KR (hR6.imp (fun h => by omega)) (fun t ht => (hm6 t).1 ht); omega); have HR6 := Lib.hid (And.intro hI6 (And.intro hR6 (And.intro hm6 hb6))); clear hI6 hR6 hm6 hb6)
              unfold LB at v3
              have hF6a := H5.out.1.below HR6.out.2.2.2
              have hsv6a := H5.out.2.below HR6.out.2.2.2
              have hF6b : FoT w0 T P N R G E Eg a b A3 c3 c nl fs (gs1.set s (insAll (insAll K ys) (ks.take 0))) w6 := by
                have h : gs4 = _ := H4.out.2.2.2.1
                rw [h] at hF6a; exact hF6a
              have HF6a := Lib.hid (And.intro hF6b hsv6a)
              clear hF6a hsv6a hF6b hp5 ht5 hg5
              have hl1 : s < gs1.length := by rw [H1.out.1.glen]; exact hsn
              go_loopw [59] (fun i wr => ∃ (q : Nat), q ≤ ks.length ∧ i = .int .i64 q ∧ FoT w0 T P N R G E Eg a b A3 c3 c nl fs (gs1.set s (insAll (insAll K ys) (ks.take q))) wr ∧ Box wr sv #[.int .i64 (s : Nat)] 3 ∧ Fx w6 wr (fun d => d = Eg s) (fun d => d = Eg s)) (fun i _ => ks.length - (intOf i).toNat)
              case atStart => exact ⟨0, Nat.zero_le _, rfl, HF6a.out.1, HF6a.out.2, Fx.refl _ _⟩
              case round =>
                obtain ⟨q, hq, rfl, hFr, hsvr, hXr⟩ := hrel
                obtain ⟨wr2, rfl⟩ : ∃ wr2 : World, wr2 = wr := ⟨_, rfl⟩
                have HRr := Lib.hid (And.intro hFr (And.intro hsvr hXr))
                have hgl7 : s < (gs1.set s (insAll (insAll K ys) (ks.take q))).length := by rw [hFr.glen]; exact hsn
                have hp7 := hFr.op.pb.cell 0 (v := .pointer (some ⟨T, 0, none⟩)) rfl
                have ht7 := hFr.op.ld.tb.cell 5 (v := .slice (some ⟨G, 0, none⟩) c.alts.length c.alts.length) rfl
                have hs7 := hsvr.cell 0 (v := .int .i64 (s : Nat)) rfl
                have hg7 := hFr.row.cell hgl7
                by_cases hltq : q < ks.length
                · obtain ⟨x, hx⟩ := at_lt ks hltq
                  have hIr : IL wr2 (.slice AV ks.length cV) ks := HR6.out.1.keep fun g hg => hXr.block g (HR6.out.1.lt g hg).2 fun e => HR6.out.1.neSet (HF6a.out.1.row.set s _ (List.getElem?_set_self hl1)) (by rw [hg, e])
                  obtain ⟨A8, c8, e8, _, _, _, hrow8⟩ := hIr.sl
                  injection e8 with e81 e82 e83
                  subst e81 e83
                  obtain ⟨adv, rfl, hx64, hcx⟩ := hrow8.int hx
                  have hSd : ISet (wr2.drewN 1) (Eg s) (insAll (insAll K ys) (ks.take q)) := (hFr.row.set s _ (List.getElem?_set_self hl1)).keep rfl
                  have hLL : (insAll (insAll K ys) (ks.take q)).length < maxLen := by
                    have l1 := insAll_len ys K
                    have l2 := insAll_len (ks.take q) (insAll K ys)
                    have l3 : (ks.take q).length ≤ ks.length := by simp; omega
                    have l4 := H4.out.2.2.2.2
                    simp only [maxLen]; omega
                  obtain ⟨w8, hrun8, hS8, hg8⟩ := hSd.update (t := 65) Try.underlying3 Try.underlying4 Try.underlying65 hx64 hLL
                  have hF8 := (hFr.below (below_drewN (Below.refl _ _) 1)).set hsn hS8 hg8
                  rw [List.set_set, ← insAll_snoc, ← take_next hx] at hF8
                  have hsv8 := (hsvr.keep (w' := wr2.drewN 1) rfl).keep (hg8.block sv hsvr.lt (fun e => by injection e with e; exact HSV.out s hsn e.symm))
                  have hX8 := (hXr.below (below_drewN (Below.refl wr2.heap.size wr2) 1)).grown hg8 (fun k e => by injection e with e; exact .inl e.symm)
                  have H8 := Lib.hid (And.intro hF8 (And.intro hsv8 hX8))
                  clear hrow8 e82 hx hIr hSd hLL hS8 hg8 hF8 hsv8 hX8 hFr hsvr hXr
                  go_wp2
                  refine wp_region_lastT 8 (by kernel_rfl) (by kernel_rfl) (by kernel_rfl) (by kernel_rfl) (by kernel_rfl) (fun j' => match j' with | 0 => .pointer (some ⟨T, 0, none⟩) | 1 => .pointer (some ⟨T, 0, none⟩) | 2 => .pointer (some ⟨T, 5, none⟩) | 3 => .slice (some ⟨G, 0, none⟩) c.alts.length c.alts.length | 4 => .int .i64 (s : Nat) | 5 => .pointer (some ⟨G, s, none⟩) | 6 => .map (some (Eg s)) | 7 => .int .i64 x | _ => undef) ?_ ?_
                  · intro i hi oi ho
                    have : i = 0 ∨ i = 1 ∨ i = 2 ∨ i = 3 ∨ i = 4 ∨ i = 5 ∨ i = 6 ∨ i = 7 := by omega
                    rcases this with rfl | rfl | rfl | rfl | rfl | rfl | rfl | rfl <;> cases ho
                    · exact exec_load rfl rfl (by go_simp)
                    · rfl
                    · exact exec_fieldAddr (vx := .pointer (some ⟨T, 0, none⟩)) rfl rfl (by go_simp)
                    · exact exec_load rfl rfl (by go_simp)
                    · exact exec_load rfl rfl (by go_simp)
                    · exact exec_indexAddr (u := .slice (some ⟨G, 0, none⟩) c.alts.length c.alts.length) (v := .int .i64 (s : Nat)) rfl rfl rfl (by go_simp)
                    · exact exec_load rfl rfl (by go_simp)
                    · rfl
                  · intro oi ho
                    cases ho
                    refine does_skip (w := w8) (exec_mapUpdate rfl rfl rfl rfl hrun8) ?_
                    simp [fillAll, List.range, List.range.loop, dstOf, Act.put, upd]
                    go_wp2
                    exact ⟨⟨q + 1, by omega, by simp, H8.out.1, H8.out.2.1, H8.out.2.2⟩, by simp [intOf]; omega⟩
                · have hqe : q = ks.length := by omega
                  subst hqe
                  rw [List.take_length] at hFr
                  have HF6 := Lib.hid (And.intro hFr hsvr)
                  clear hFr hsvr hXr HRr hp7 ht7 hs7 hg7 hgl7 hl1
                  have hF6x := HF6.out.1
                  have hgl6 : s < (gs1.set s (insAll (insAll K ys) ks)).length := by rw [hF6x.glen]; exact hsn
                  have hp6 := hF6x.op.pb.cell 0 (v := .pointer (some ⟨T, 0, none⟩)) rfl
                  have ht6 := hF6x.op.ld.tb.cell 5 (v := .slice (some ⟨G, 0, none⟩) c.alts.length c.alts.length) rfl
                  have hs6 := HF6.out.2.cell 0 (v := .int .i64 (s : Nat)) rfl
                  have hg6 := hF6x.row.cell hgl6
                  have hl1 : s < gs1.length := by rw [H1.out.1.glen]; exact hsn
                  obtain ⟨K2, hK2⟩ : ∃ x, x = (insAll (insAll K ys) ks) := ⟨_, rfl⟩
                  have hlen6 : ∀ n ty, (Builtin.len_ #[65] ty #[.map (some (Eg s))]).run Try.prog (wr2.drewN n) = .ok (.int .i64 K2.length) (wr2.drewN n) := fun n ty => by
                    rw [hK2]
                    exact SetAt.len (w := wr2.drewN n) ((hF6x.row.set s _ (List.getElem?_set_self hl1)).keep rfl) Try.underlying65 ty
                  have hdn := fun bb' hbb => HDN.out ks bb' wr2 (fun t ht => ⟨by first | rfl | trivial, by rw [getD_some HKR.out]; exact (HR6.out.2.2.1 t).1 ht⟩) (fun _ t ht => by rw [getD_some HKR.out] at ht; exact (HR6.out.2.2.1 t).2 ht) HF6.out.1 hbb
                  have hF6w := Lib.hid (fun nq => HF6.out.1.below (below_drewN (Below.refl wr2.heap.size wr2) nq))
                  rw [← hK2] at hdn hF6w
                  have HDN2 := Lib.hid hdn
                  clear hF6x hK2 hdn hl1 hgl6
                  cases bb with
                  | true =>
                    go_wp2
                    go_quiet (fail)
                    go_wp2
                    refine ⟨⟨j + 1, _, true, by omega, by simp, rfl, hF6w.out _, HDN2.out true (by simp)⟩, by simp [intOf]; omega⟩
                  | false =>
                    by_cases hgt : (K2.length : Int) > (K.length : Int)
                    · go_wp2
                      go_quiet (fail)
                      go_wp2
                      refine ⟨⟨j + 1, _, true, by omega, by simp, rfl, hF6w.out _, HDN2.out true (by rw [decide_eq_true (show K.length < K2.length by omega)]; rfl)⟩, by simp [intOf]; omega⟩
                    · have hgf : decide ((K2.length : Int) > (K.length : Int)) = false := decide_eq_false hgt
                      go_wp2
                      go_quiet (fail)
                      go_wp2
                      refine ⟨⟨j + 1, _, false, by omega, by simp, by rw [decide_eq_false (show ¬ K.length < K2.length by omega)], hF6w.out _, HDN2.out false (by rw [decide_eq_false (show ¬ K.length < K2.length by omega)]; rfl)⟩, by simp [intOf]; omega⟩
      · have hd : decide (k < 0 ∧ -1 - k < (c.alts.length : Int)) = false := decide_eq_false (fun h => hk0 h.1)
        rw [hd] at hrule
        have HRU := Lib.hid hrule
        clear hrule hd
        go_wp2_with (go_at_call 52; refine HRU.out.mono ?_; rintro e w1 ⟨⟨q, rfl, hq⟩, hD⟩; clear hq; have hfr := (Box.new w1 #[.int .i64 0] 3).frozen 0; have hcl := (Box.new w1 #[.int .i64 0] 3).cell 0 (v := .int .i64 0) rfl)
        exact ⟨⟨j + 1, gs1, bb, by omega, by simp, rfl, (H1.out.1.below hD.below).below ((Below.refl _ _).alloc (Nat.le_refl _) _), H1.out.2.out.skip HK.out (by omega)⟩, by simp [intOf]; omega⟩
    · have hje : j = A.length := by omega
      subst hje
      go_wp2
      go_ret
      exact ⟨gs1, bb, rfl, ⟨H1.out.1, H1.out.2.out.1⟩, H1.out.2.out.2.1, fun e => ⟨(H1.out.2.out.2.2.1 e).1, fun j k hk => (H1.out.2.out.2.2.1 e).2 j k (List.getElem?_eq_some_iff.1 hk).1 hk⟩, H1.out.2.out.2.2.2⟩
end Go.Proofs.Ytigbfankkmmnbaa
