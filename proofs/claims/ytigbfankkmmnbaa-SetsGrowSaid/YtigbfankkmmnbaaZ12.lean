/- open: what tokens rules begin with: the walk; The reference's Nullable: the walks; The reference's Nullable: the walk. -/
import Derived.Test.YtigbfankkmmnbaaZ11
import Derived.Test.YtigbfankkmmnbaaZ06
set_option linter.unusedVariables false
set_option linter.unusedSimpArgs false
namespace Go.Proofs.Ytigbfankkmmnbaa
open Go.RowKit Gk

def insAll (K ys : List Int) : List Int := ys.foldl (fun K x => insK x K) K
theorem insAll_snoc (K ys : List Int) (x : Int) : insAll K (ys ++ [x]) = insK x (insAll K ys) := by simp [insAll, List.foldl_append]
theorem mem_insAll : ∀ (ys K : List Int) (t : Int), t ∈ insAll K ys ↔ t ∈ K ∨ t ∈ ys := by
  intro ys
  induction ys with
  | nil => intro K t; simp [insAll]
  | cons y ys ih => intro K t; unfold insAll at ih ⊢; rw [List.foldl_cons, ih, mem_insK, List.mem_cons, or_assoc]
theorem insK_len (x : Int) (K : List Int) : K.length ≤ (insK x K).length ∧ (insK x K).length ≤ K.length + 1 := by
  unfold insK; split
  · omega
  · simp
theorem insAll_len : ∀ (ys K : List Int), K.length ≤ (insAll K ys).length ∧ (insAll K ys).length ≤ K.length + ys.length := by
  intro ys
  induction ys with
  | nil => intro K; simp [insAll]
  | cons y ys ih =>
    intro K
    have h1 := ih (insK y K)
    have h2 := insK_len y K
    unfold insAll at h1 ⊢
    rw [List.foldl_cons]; simp only [List.length_cons]; omega
theorem insAll_same : ∀ (ys K : List Int), (insAll K ys).length ≤ K.length → insAll K ys = K ∧ ∀ y ∈ ys, y ∈ K := by
  intro ys
  induction ys with
  | nil => intro K _; simp [insAll]
  | cons y ys ih =>
    intro K h
    have h1 := (insAll_len ys (insK y K)).1
    have e : insAll K (y :: ys) = insAll (insK y K) ys := rfl
    rw [e] at h ⊢
    have hy : y ∈ K := by
      refine Classical.byContradiction fun hn => ?_
      have : (insK y K).length = K.length + 1 := by unfold insK; rw [if_neg hn]; simp
      omega
    have hk : insK y K = K := by unfold insK; rw [if_pos hy]
    rw [hk] at h ⊢
    obtain ⟨h2, h3⟩ := ih K h
    exact ⟨h2, fun z hz => by rcases List.mem_cons.1 hz with rfl | hz; exact hy; exact h3 z hz⟩
def totI (fs : List (List Int)) : Nat := (fs.map List.length).sum
theorem totI_set : ∀ (fs : List (List Int)) (r : Nat) (K K' : List Int), fs[r]? = some K → totI (fs.set r K') + K.length = totI fs + K'.length := by
  intro fs
  induction fs with
  | nil => intro r K K' h; simp at h
  | cons a fs ih =>
    intro r K K' h
    cases r with
    | zero => simp at h; subst h; simp [totI]; omega
    | succ r =>
      have := ih r K K' (by simpa using h)
      simp only [totI, List.set_cons_succ, List.map_cons, List.sum_cons] at this ⊢
      omega
theorem totI_le : ∀ (fs : List (List Int)) (m : Nat), (∀ l ∈ fs, l.length ≤ m) → totI fs ≤ fs.length * m := by
  intro fs
  induction fs with
  | nil => intro m _; simp [totI]
  | cons a fs ih =>
    intro m h
    have h1 := h a (by simp)
    have h2 := ih m fun l hl => h l (by simp [hl])
    simp only [totI, List.map_cons, List.sum_cons, List.length_cons, Nat.add_mul] at h2 ⊢
    omega
def muI (c : Cfg) (fs : List (List Int)) : Nat := c.alts.length * (c.toks.length + 1) - totI fs
theorem muI_lt {c : Cfg} {fs : List (List Int)} {r : Nat} {K K' : List Int} (hK : fs[r]? = some K) (h : K.length < K'.length) (hl : fs.length = c.alts.length) (hb : ∀ l ∈ fs.set r K', l.length ≤ c.toks.length + 1) : muI c (fs.set r K') < muI c fs := by
  have h1 := totI_set fs r K K' hK
  have h2 := totI_le _ _ hb
  rw [List.length_set, hl] at h2
  unfold muI; omega
def ClF (nl : List Bool) (r : Nat) (s : List Int) (fs : List (List Int)) : Prop := ∀ t ∈ leadL nl fs s, t ∈ fs.getD r []
theorem SetRow.nodup {w : World} {R : Nat} {E : Nat → Nat} {ks : List (List Int)} (h : SetRow w R E ks) : ∀ l ∈ ks, l.Nodup := fun l hl => by
  obtain ⟨i, hi⟩ := List.mem_iff_getElem?.1 hl
  obtain ⟨D, _, hD⟩ := h.set i l hi
  exact hD.nodup
theorem frs_bound {c : Cfg} (hok : CfgOk c) {fs : List (List Int)} (hf : FrsI c fs) (hn : ∀ l ∈ fs, l.Nodup) : ∀ l ∈ fs, l.length ≤ c.toks.length + 1 ∧ ∀ t ∈ l, 0 ≤ t ∧ t < (c.toks.length : Int) := fun l hl => by
  obtain ⟨i, hi⟩ := List.mem_iff_getElem?.1 hl
  have ht : ∀ t ∈ l, 0 ≤ t ∧ t < (c.toks.length : Int) := fun t ht => frs_tok hok (hf.2 i l hi t ht)
  exact ⟨nodup_small (hn l hl) fun t h => by have := ht t h; omega, ht⟩
theorem frs_set {c : Cfg} {nl : List Bool} {fs : List (List Int)} (hn : NulOk c nl) (hf : FrsI c fs) {r : Nat} {al : List (List Int)} {s K ys : List Int} (hr : c.alts[r]? = some al) (hs : s ∈ al) (hK : fs[r]? = some K) (hy : ∀ t ∈ ys, t ∈ leadL nl fs s) : FrsI c (fs.set r (insAll K ys)) := by
  refine ⟨by simpa using hf.1, fun r' l hl t ht => ?_⟩
  by_cases e : r' = r
  · subst e
    rw [List.getElem?_set_self (List.getElem?_eq_some_iff.1 hK).1] at hl
    injection hl with hl; subst hl
    rcases (mem_insAll _ _ _).1 ht with h | h
    · exact hf.2 r' K hK t h
    · exact ⟨al, s, hr, hs, lead_sound hn hf s t (hy t h)⟩
  · rw [List.getElem?_set_ne (fun e' => e e'.symm)] at hl
    exact hf.2 r' l hl t ht
set_option maxRecDepth 100000 in
set_option maxHeartbeats 4000000 in
theorem opn2_calls (w0 : World) (T P N R : Nat) (E : Nat → Nat) (a b : Value) (A3 : Option Addr) (c3 : Nat) (c : Cfg) (z : Value) (hok : CfgOk c) (hsm : Small 200 c) (nl : List Bool) (hn : NulOk c nl) (fs : List (List Int)) (w : World) (r : Nat) (al : List (List Int)) (s : List Int) (u : Value)
    (h : OpT w0 T P N R E a b A3 c3 c z nl fs w ∧ FrsI c fs) (hr : c.alts[r]? = some al) (hs : s ∈ al) (hu : ∀ w', Below w0.heap.size w0 w' → Sl Ty.int w' u s) :
    Calls Try.prog 69 #[.int .i64 (r : Nat), u, .pointer (some ⟨P, 0, none⟩)] w fun e w' => ∃ t' bb, e = .returned (.bool bb) ∧ (OpT w0 T P N R E a b A3 c3 c z nl t' w' ∧ FrsI c t') ∧ (bb = true → muI c t' < muI c fs) ∧ (bb = false → t' = fs ∧ ClF nl r s fs) := by
  have hcal : c.alts.length ≤ 200 := by have := hok.1; have := hsm.1; omega
  have hctl : c.toks.length ≤ 200 := by have := hsm.1; omega
  have hrl : r < c.alts.length := (List.getElem?_eq_some_iff.1 hr).1
  have hrf : r < fs.length := by rw [h.1.ld.flen]; exact hrl
  obtain ⟨K, hK⟩ := at_lt fs hrf
  have hsl : s.length ≤ 200 := by have := (hsm.2 al (List.mem_of_getElem? hr)).2 s hs; omega
  have hbd := frs_bound hok h.2 h.1.ld.row.nodup
  have hKl := (hbd K (List.mem_of_getElem? hK)).1
  have hs100 : Hid (∀ k ∈ s, k ≤ 100000) := fun k hk => by
    have := hok.2 al (List.mem_of_getElem? hr) s hs k hk
    rcases this with h | h <;> omega
  have hpc := h.1.pb.cell 0 (v := .pointer (some ⟨T, 0, none⟩)) rfl
  have htc := h.1.ld.tb.cell 4 (v := .slice (some ⟨R, 0, none⟩) c.alts.length c.alts.length) rfl
  have hrc := h.1.ld.row.cell hrf
  have hlen := fun ty => (h.1.ld.row.set r K hK).len (P := Try.prog) (t := 65) Try.underlying65 ty
  obtain ⟨AU, cU, rfl, _, _, _, _⟩ := id (hu w h.1.bl)
  -- behind the variable
  have hba : Below w.heap.size w (w.alloc (.cells #[.slice none 0 0] 35)) := (Below.refl _ _).alloc (Nat.le_refl _) _
  have hO1 := h.1.below hba
  have hJ : JL w.heap.size [] (fun d => d = w.heap.size) (w.alloc (.cells #[.slice none 0 0] 35)) := ⟨_, Box.new _ _ _, IL.nil _, fun d => by simp [Value.ownBlock]⟩
  have hsz1 : (w.alloc (.cells #[.slice none 0 0] 35)).heap.size = w.heap.size + 1 := by simp
  have hltA := h.1.ld.tb.lt
  have hltB := h.1.ld.nb.lt
  have hltC := h.1.ld.row.lt
  have hw0 := h.1.bl.size
  have hlead := leadA_calls (JL w.heap.size) 0 w.heap.size (fun xs F w1 h => h.lt) (fun xs F w1 w' h _ _ hk => h.keep fun d hd hf => hk d hd (.inr hf)) (fun xs F w1 t h ht hx _ => lay21_calls w.heap.size xs F w1 t h ht hx) (w.alloc (.cells #[.slice none 0 0] 35)) (fun d => d = w.heap.size) [] hJ (Nat.zero_le _) (fun d hd => by rw [hsz1]; omega)
    T N R E a b A3 c.alts.length c3 z (.slice AU s.length cU) nl fs s hO1.ld ⟨by omega, by omega, by omega, fun i hi => by have := hltC.2 i (by rw [h.1.ld.flen]; exact hi); omega⟩ (by omega) (fun w' F' k => hu w' (k.to hO1.bl (fun d hd => by omega))) (fun l hl => ⟨by have := (hbd l hl).1; omega, fun t ht => by have := (hbd l hl).2 t ht; omega⟩) hs100.out hsl (by simp)
  have HH := Lib.hid (And.intro h (And.intro hr (And.intro hs (And.intro hu (And.intro hK (And.intro hO1 hba))))))
  have HL := Lib.hid hlead
  have hb1 := hO1.pb.cell 0 (v := .pointer (some ⟨T, 0, none⟩)) rfl
  clear h hr hs hu hK hO1 hba hJ hlead hbd hltA hltB hltC
  go_enter Try.func69, Try.ntmps69
  go_wp2_with (go_at_call 53; refine HL.out.mono ?_; rintro e w5 ⟨rfl, ys, F5, ⟨vL, hLb, hLi, hLF⟩, hX5, hmem, hyl⟩; rw [List.nil_append] at hLi; obtain ⟨AL, cL, rfl, l1, l2, l3, _⟩ := id hLi.sl; have hlc := hLb.cell 0 (v := .slice AL ys.length cL) rfl; have H5 := Lib.hid (And.intro hLb (And.intro hLi (And.intro hX5 hmem))); clear hLb hLi hLF hX5 hmem)
  have hX05 : Fx w w5 (fun _ => False) F5 := (((Fx.refl w (fun _ => False)).below HH.out.2.2.2.2.2.2).mono (J := fun _ => False) (J' := fun d => d = w.heap.size) (fun _ h => h) (fun d hd => .inr (by omega))).trans H5.out.2.2.1
  have hO5 := Lib.hid (HH.out.1.1.fx hX05 (fun d hd => hd.elim))
  have hyl2 : ys.length ≤ 200000 := by omega
  have hlvE : ∀ i, i < c.alts.length → w.heap.size ≠ E i := fun i hi e => by
    have := HH.out.1.1.ld.row.lt.2 i (by rw [HH.out.1.1.ld.flen]; exact hi)
    omega
  have HE := Lib.hid hlvE
  clear hX05 hlvE hlc hpc htc hrc hlen hb1
  go_loopw [24] (fun i wr => (∃ q : Nat, q ≤ ys.length ∧ i = .int .i64 q ∧ OpT w0 T P N R E a b A3 c3 c z nl (fs.set r (insAll K (ys.take q))) wr) ∧ w5.grownBy wr (some (E r))) (fun i _ => ys.length - (intOf i).toNat)
  case atStart =>
    refine ⟨⟨0, Nat.zero_le _, rfl, ?_⟩, World.grownBy.refl _ _⟩
    have e : fs.set r (insAll K (ys.take 0)) = fs := by
      have h := HH.out.2.2.2.2.1
      obtain ⟨h1, h2⟩ := List.getElem?_eq_some_iff.1 h
      simp only [List.take_zero, insAll, List.foldl_nil, ← h2]
      exact List.set_getElem_self h1
    rw [e]; exact hO5.out
  case round =>
    obtain ⟨⟨q, hq, rfl, hOr⟩, hG⟩ := hrel
    have HR := Lib.hid (And.intro hOr hG)
    have hrf2 : r < (fs.set r (insAll K (ys.take q))).length := by simpa using hrf
    have hpr := hOr.pb.cell 0 (v := .pointer (some ⟨T, 0, none⟩)) rfl
    have htr := hOr.ld.tb.cell 4 (v := .slice (some ⟨R, 0, none⟩) c.alts.length c.alts.length) rfl
    have hrr := hOr.ld.row.cell hrf2
    have hSr := Lib.hid (hOr.ld.row.set r (insAll K (ys.take q)) (by rw [List.getElem?_set_self hrf]))
    have hKq := insAll_len (ys.take q) K
    have hqt : (ys.take q).length ≤ q := by simp; omega
    clear hOr hG
    by_cases hlt : q < ys.length
    · obtain ⟨x, hx⟩ := at_lt ys hlt
      have hLr : Sl Ty.int wr (.slice AL ys.length cL) ys := by
        have h1 : IL wr (.slice AL ys.length cL) ys := H5.out.2.1.keep fun g hg => HR.out.2.block g (H5.out.2.1.lt g hg).2 fun e => by
          injection e with e
          exact H5.out.2.1.neSet (hO5.out.ld.row.set r K HH.out.2.2.2.2.1) (by rw [hg, e])
        exact h1.sl
      obtain ⟨A9, c9, e9, _, _, _, hrow9⟩ := hLr
      injection e9 with e91 e92 e93
      subst e91 e93
      obtain ⟨adl, rfl, hx64, hcx⟩ := hrow9.int hx
      have HX := Lib.hid hx
      clear hx e92 hrow9
      go_wp2_with (at_mapUpdate; refine wpList_put rfl rfl (.tmp 34) (.tmp 35) (.const (.bool true)) 65 3 4 (E r) _ x (.inl rfl) Try.underlying3 Try.underlying4 Try.underlying65 rfl rfl rfl hx64 hSr.out (by simp only [maxLen]; omega) ?_; intro w7 hS7 hg7)
      refine ⟨⟨⟨q + 1, by omega, by simp, ?_⟩, HR.out.2.trans hg7⟩, by simp [intOf]; omega⟩
      have h7 := HR.out.1.setF hrl hS7 hg7
      rw [List.set_set, ← insAll_snoc, ← take_next HX.out] at h7
      exact h7
    · have hqe : q = ys.length := by omega
      subst hqe
      have hlen2 := fun ty => hSr.out.len (P := Try.prog) (t := 65) Try.underlying65 ty
      have hSr2 := HR.out.1
      rw [List.take_length] at hSr2 hlen2 hKq
      have HS := Lib.hid hSr2
      have hfin : Hid (FrsI c (fs.set r (insAll K ys))) := frs_set hn HH.out.1.2 HH.out.2.1 HH.out.2.2.1 HH.out.2.2.2.2.1 (fun t ht => (H5.out.2.2.2 t).1 ht)
      clear hSr2 hKq hqt
      by_cases hgt : ((insAll K ys).length : Int) > (K.length : Int)
      · go_wp2
        go_ret
        refine ⟨_, true, by simp [hgt], ⟨HS.out, hfin.out⟩, fun _ => ?_, fun h => by cases h⟩
        exact muI_lt HH.out.2.2.2.2.1 (by omega) HH.out.1.1.ld.flen fun l hl => (frs_bound hok hfin.out HS.out.ld.row.nodup l hl).1
      · obtain ⟨e1, e2⟩ := insAll_same ys K (by omega)
        have HE2 := Lib.hid (And.intro e1 e2)
        clear e1 e2
        go_wp2
        go_ret
        have hsame : fs.set r (insAll K ys) = fs := by
          rw [HE2.out.1]
          obtain ⟨h1, h2⟩ := List.getElem?_eq_some_iff.1 HH.out.2.2.2.2.1
          rw [← h2]; exact List.set_getElem_self h1
        have h1 := HS.out
        rw [hsame] at h1
        refine ⟨fs, .inl ⟨rfl, ⟨h1, HH.out.1.2⟩, rfl, fun t ht => ?_⟩⟩
        rw [getD_some HH.out.2.2.2.2.1]
        exact HE2.out.2 t ((H5.out.2.2.2 t).2 ht)
end Go.Proofs.Ytigbfankkmmnbaa
set_option linter.unusedVariables false
set_option linter.unusedSimpArgs false
namespace Go.Proofs.Ytigbfankkmmnbaa
open Go.RowKit Gk

def rule9 (n : Nat) (k : Int) : Int := if k < 0 ∧ -1 - k < n then -1 - k else -1
set_option maxHeartbeats 1000000 in
theorem rule9_calls (A1 A2 A3 : Option Addr) (n1 n2 n c1 c2 c3 : Nat) (k : Int) (w : World) (hk : Ty.i64 k) (hn : n ≤ 1000000) :
    Calls Try.prog 57 #[.agg #[.slice A1 n1 c1, .slice A2 n2 c2, .slice A3 n c3], .int .i64 k] w fun e w' => e = .returned (.int .i64 (rule9 n k)) ∧ Below w.heap.size w w' := by
  have hb := Box.new w #[.slice A1 n1 c1, .slice A2 n2 c2, .slice A3 n c3] 25
  have hbb : Below w.heap.size w (w.alloc (.cells #[.slice A1 n1 c1, .slice A2 n2 c2, .slice A3 n c3] 25)) := (Below.refl _ _).alloc (Nat.le_refl _) _
  have hc := hb.cell 2 (v := .slice A3 n c3) rfl
  have hk1 := hk.1
  have hk2 := hk.2
  clear hb
  by_cases hk0 : k < 0
  · have hw : IntKind.i64.wrap (-1 - k) = -1 - k := by rw [IntKind.wrap_i64]; omega
    by_cases hr : -1 - k < (n : Int)
    · have e : rule9 n k = -1 - k := if_pos ⟨hk0, hr⟩
      rw [e]
      clear e
      go_enter Try.func57, Try.ntmps57
      go_wp2
      go_ret
      exact ⟨rfl, hbb⟩
    · have e : rule9 n k = -1 := if_neg (fun h => hr h.2)
      rw [e]
      clear e
      have hd : decide (-1 - k < (n : Int)) = false := decide_eq_false hr
      go_enter Try.func57, Try.ntmps57
      go_wp2
      go_ret
      exact ⟨rfl, hbb⟩
  · have e : rule9 n k = -1 := if_neg (fun h => hk0 h.1)
    rw [e]
    clear e
    go_enter Try.func57, Try.ntmps57
    go_wp2
    go_ret
    exact ⟨rfl, hbb⟩
theorem rule9_cases (out : List Bool) (k : Int) : (rule9 out.length k = -1 ∧ isN out k = false) ∨ ∃ (r : Nat) (b : Bool), rule9 out.length k = r ∧ r < out.length ∧ out[r]? = some b ∧ isN out k = b := by
  unfold rule9 isN
  by_cases hk : k < 0
  · by_cases hr : -1 - k < (out.length : Int)
    · obtain ⟨r, hr'⟩ : ∃ r : Nat, -1 - k = r := ⟨(-1 - k).toNat, by omega⟩
      have hl : r < out.length := by omega
      refine .inr ⟨r, out[r], by rw [if_pos ⟨hk, hr⟩]; exact hr', hl, List.getElem?_eq_getElem hl, ?_⟩
      rw [show (-1 - k).toNat = r by omega, List.getElem?_eq_getElem hl]; simp [hk]
    · refine .inl ⟨if_neg fun h => hr h.2, ?_⟩
      rw [List.getElem?_eq_none (by omega)]; simp
  · exact .inl ⟨if_neg fun h => hk h.1, by simp [hk]⟩
set_option maxRecDepth 100000 in
set_option maxHeartbeats 2000000 in
theorem empty_calls (c : Cfg) (s : List Int) (out : List Bool) (v u o : Value) (w : World) (h : CfgV w v c) (hu : Sl Ty.int w u s) (ho : Sl Ty.bool w o out) (hl : out.length = c.alts.length) (hal : c.alts.length ≤ 1000) :
    Calls Try.prog 44 #[v, u, o] w fun e w' => e = .returned (.bool (emptyP out s)) ∧ Below w.heap.size w w' := by
  obtain ⟨a0, b0, d0, rfl, h1, h2, h3⟩ := id h
  obtain ⟨A1, c1, rfl, hc1, hm1, hl1, hr1⟩ := id h1
  obtain ⟨A2, c2, rfl, hc2, hm2, hl2, hr2⟩ := id h2
  obtain ⟨A3, c3, rfl, hc3, hm3, hl3, hr3⟩ := id h3
  obtain ⟨AU, cU, rfl, ku1, ku2, ku3, ku4⟩ := id hu
  obtain ⟨AO, cO, rfl, ko1, ko2, ko3, ko4⟩ := id ho
  unfold LB at ku3 ko3
  have hB1 := Box.new w #[.slice A1 c.toks.length c1, .slice A2 c.names.length c2, .slice A3 c.alts.length c3] 25
  have hb1 : Below w.heap.size w (w.alloc (.cells #[.slice A1 c.toks.length c1, .slice A2 c.names.length c2, .slice A3 c.alts.length c3] 25)) := (Below.refl _ _).alloc (Nat.le_refl _) _
  have hsz1 : (w.alloc (.cells #[.slice A1 c.toks.length c1, .slice A2 c.names.length c2, .slice A3 c.alts.length c3] 25)).heap.size = w.heap.size + 1 := by simp
  have HLEN := Lib.hid hl
  clear h h1 h2 h3 hu ho hr1 hr2 hr3 hl
  go_enter Try.func44, Try.ntmps44
  go_wp2
  generalize w.alloc (.cells #[.slice A1 c.toks.length c1, .slice A2 c.names.length c2, .slice A3 c.alts.length c3] 25) = wb at *
  go_loopw [12] (fun i wr => (∃ n : Nat, n ≤ s.length ∧ i = .int .i64 n ∧ Hid (emptyP out (s.take n) = true)) ∧ Below wb.heap.size wb wr) (fun i _ => s.length - (intOf i).toNat)
  case atStart => exact ⟨⟨0, Nat.zero_le _, rfl, rfl⟩, Below.refl _ _⟩
  case round =>
    obtain ⟨⟨n, hn, rfl, hE⟩, hB⟩ := hrel
    have HB := Lib.hid (And.intro hE hB)
    have hwr := below2 hb1 hB
    have ku4r := ku4.below hwr
    have hbr := hB1.below hB
    have x0 := hbr.cell 0 (v := .slice A1 c.toks.length c1) rfl
    have x1 := hbr.cell 1 (v := .slice A2 c.names.length c2) rfl
    have x2 := hbr.cell 2 (v := .slice A3 c.alts.length c3) rfl
    have HWR := Lib.hid hwr
    clear hE hB hbr hwr
    by_cases hlt : n < s.length
    · obtain ⟨k, hk⟩ := at_lt s hlt
      obtain ⟨ad, rfl, hk64, hcell⟩ := ku4r.int hk
      have hstep : Hid (emptyP out (s.take (n + 1)) = (emptyP out (s.take n) && isN out k)) := by
        show _ = _
        unfold emptyP
        rw [take_next hk, List.all_append]; simp
      have hfull : Hid (isN out k = false → emptyP out s = false) := fun hf => by
        unfold emptyP
        rw [List.all_eq_false]
        exact ⟨k, List.mem_of_getElem? hk, by simp [hf]⟩
      have hrule := rule9_calls A1 A2 A3 c.toks.length c.names.length c.alts.length c1 c2 c3 k wr hk64 (by omega)
      rw [← HLEN.out] at hrule
      clear hk
      rcases rule9_cases out k with ⟨e1, e2⟩ | ⟨r, b, e1, hrl, hrb, e2⟩
      · rw [e1, HLEN.out] at hrule
        have HR := Lib.hid hrule
        have E2 := Lib.hid e2
        clear hrule e1 e2
        go_wp2_with (go_at_call 57; refine HR.out.mono ?_; rintro e w3 ⟨rfl, hb3⟩)
        go_ret
        exact ⟨ret_bool (by rw [hfull E2.out]), below2 HWR.out hb3⟩
      · rw [e1, HLEN.out] at hrule
        have HR := Lib.hid hrule
        have E2 := Lib.hid e2
        have hrl2 : r < c.alts.length := by have := HLEN.out; omega
        clear hrule e1 e2
        have HRB := Lib.hid hrb
        clear hrb
        have hcellb : Hid (∀ w' : World, Below w.heap.size w w' → ∃ ad, AO = some ad ∧ w'.cell? (ad.add r) = some (.bool b)) := fun w' hb => (ko4.below hb).bool HRB.out
        obtain ⟨ado, hao, _⟩ := hcellb.out w (Below.refl _ _)
        subst hao
        have HCB : Hid (∀ w' : World, Below w.heap.size w w' → w'.cell? (ado.add r) = some (.bool b)) := fun w' hb => by
          obtain ⟨ad', e', hc⟩ := hcellb.out w' hb
          injection e' with e'; subst e'; exact hc
        cases b with
        | true =>
          go_wp2_with (go_at_call 57; refine HR.out.mono ?_; rintro e w3 ⟨rfl, hb3⟩; have hcb := HCB.out w3 (below2 HWR.out hb3))
          refine ⟨⟨⟨n + 1, by omega, by simp, ?_⟩, below2 HB.out.2 hb3⟩, by simp [intOf]; omega⟩
          have h : emptyP out _ = _ := hstep
          show _ = _
          rw [h, E2.out, show emptyP out (s.take n) = true from HB.out.1]; rfl
        | false =>
          go_wp2_with (go_at_call 57; refine HR.out.mono ?_; rintro e w3 ⟨rfl, hb3⟩; have hcb := HCB.out w3 (below2 HWR.out hb3))
          go_ret
          exact ⟨ret_bool (by rw [hfull E2.out]), below2 HWR.out hb3⟩
    · go_wp2
      go_ret
      have h : emptyP out _ = true := HB.out.1
      rw [List.take_of_length_le (by omega)] at h
      exact ⟨ret_bool (by rw [h]), HWR.out⟩
end Go.Proofs.Ytigbfankkmmnbaa
set_option linter.unusedVariables false
set_option linter.unusedSimpArgs false
namespace Go.Proofs.Ytigbfankkmmnbaa
open Go.RowKit Gk

theorem nulStep_closed {c : Cfg} {out : List Bool} (h : NulC c out) (hl : out.length = c.alts.length) {r : Nat} {al : List (List Int)} {a : List Int} (hal : c.alts[r]? = some al) (ha : a ∈ al) : nulStep out r a = out := by
  have hr : r < out.length := by rw [hl]; exact (List.getElem?_eq_some_iff.1 hal).1
  rcases nulStep_cases (a := a) hr with ⟨e, _⟩ | e
  · exact e
  · unfold nulStep
    have h1 : ((out[r]?).getD false || emptyP out a) = out[r] := by
      rw [List.getElem?_eq_getElem hr]
      cases hb : out[r] with
      | true => rfl
      | false =>
        cases he : emptyP out a with
        | false => rfl
        | true => have := h r al a hal ha he; rw [List.getElem?_eq_getElem hr, hb] at this; cases this
    rw [h1]
    exact List.set_getElem_self hr
/-- what is known, in memory -/
structure NulS (w0 : World) (X O : Nat) (a b d : Value) (c : Cfg) (out : List Bool) (w : World) : Prop where
  cb : Box w X #[a, b, d] 25
  ob : Box w O (out.map Value.bool).toArray 4
  ne : O ≠ X
  lb : w0.heap.size ≤ O
  bl : Below w0.heap.size w0 w
  inv : NulI c out
theorem NulS.below {w0 : World} {X O : Nat} {a b d : Value} {c : Cfg} {out : List Bool} {w w' : World} (h : NulS w0 X O a b d c out w) (k : Below w.heap.size w w') : NulS w0 X O a b d c out w' :=
  ⟨h.cb.below k, h.ob.below k, h.ne, h.lb, below2 h.bl k, h.inv⟩
theorem NulS.cell {w0 : World} {X O : Nat} {a b d : Value} {c : Cfg} {out : List Bool} {w : World} (h : NulS w0 X O a b d c out w) {r : Nat} {m : Bool} (hm : out[r]? = some m) : w.cell? ⟨O, r, none⟩ = some (.bool m) :=
  h.ob.cell r (by simp [hm])
theorem NulS.sl {w0 : World} {X O : Nat} {a b d : Value} {c : Cfg} {out : List Bool} {w : World} (h : NulS w0 X O a b d c out w) (hn : c.alts.length ≤ 1000) : Sl Ty.bool w (.slice (some ⟨O, 0, none⟩) c.alts.length c.alts.length) out := by
  have hl := h.inv.1
  rw [← hl] at hn ⊢
  refine ⟨_, _, rfl, Nat.le_refl _, by simp only [maxLen]; omega, by unfold LB; omega, fun i x hx => ⟨_, [.bool x], rfl, ⟨rfl, trivial⟩, fun j u hj => ?_⟩⟩
  match j, hj with
  | 0, hj =>
    simp at hj; subst hj
    show w.cell? (Addr.add _ (i * 1 + 0)) = _
    rw [Addr.add_lit]
    simpa using h.cell hx
theorem NulS.set {w0 : World} {X O : Nat} {a b d : Value} {c : Cfg} {out : List Bool} {w : World} (h : NulS w0 X O a b d c out w) {r : Nat} {m : Bool} (hi : NulI c (out.set r m)) : NulS w0 X O a b d c (out.set r m) (w.setCell ⟨O, r, none⟩ (.bool m)) := by
  have hk : ∀ g, g ≠ O → (w.setCell ⟨O, r, none⟩ (.bool m)).heap[g]? = w.heap[g]? := fun g hg => Below.heap_setCell w ⟨O, r, none⟩ _ g hg
  refine ⟨h.cb.keep (hk _ h.ne.symm), ?_, h.ne, h.lb, h.bl.setCell h.lb _, hi⟩
  have := h.ob.set r (.bool m)
  rwa [List.setIfInBounds_toArray, ← List.map_set] at this
def NullTo (c : Cfg) (out : List Bool) (s : Nat) : Prop := ∀ r, r < s → ∀ al a, c.alts[r]? = some al → a ∈ al → emptyP out a = true → out[r]? = some true
/-- the round's part: nothing was found yet, or more is known -/
def NulR (c : Cfg) (out0 out : List Bool) (P : Prop) : Prop := (NulC c out0 → out = out0) ∧ ((out = out0 ∧ P) ∨ cntT out0 < cntT out)
theorem NulR.step {c : Cfg} {out0 out : List Bool} {P P' : Prop} (h : NulR c out0 out P) (hl : out.length = c.alts.length) {r : Nat} {al : List (List Int)} {a : List Int} (hal : c.alts[r]? = some al) (ha : a ∈ al) (hp : P → (emptyP out0 a = true → out0[r]? = some true) → P') : NulR c out0 (nulStep out r a) P' := by
  have hr : r < out.length := by rw [hl]; exact (List.getElem?_eq_some_iff.1 hal).1
  refine ⟨fun hc => ?_, ?_⟩
  · have e := h.1 hc
    rw [e] at hl
    rw [e]; exact nulStep_closed hc hl hal ha
  · rcases nulStep_cases (a := a) hr with ⟨e, h1⟩ | e
    · rw [e]
      rcases h.2 with ⟨e2, h2⟩ | h2
      · subst e2; exact .inl ⟨rfl, hp h2 h1⟩
      · exact .inr h2
    · right
      rcases h.2 with ⟨e2, _⟩ | h2
      · rw [e2] at e; rw [e2]; omega
      · omega
def nulEnd (c : Cfg) (w : World) (e : Ending) (w' : World) : Prop := ∃ O out, e = .returned (.slice (some ⟨O, 0, none⟩) c.alts.length c.alts.length) ∧ Box w' O (out.map Value.bool).toArray 4 ∧ NulI c out ∧ NulC c out ∧ Below w.heap.size w w'
theorem infoBool : (Try.prog.info? 4).map (fun i => (i.zero, i.size, i.bytes)) = some (some (.bool false), 1, 1) := by kernel_rfl
theorem madeFalse (n : Nat) : madeCells #[Value.bool false] (n * 1) = Array.replicate n (.bool false) := by
  apply Array.ext_getElem?
  intro j
  by_cases hj : j < n
  · simp [madeCells, hj, Nat.mod_one]
  · simp [madeCells, hj]
set_option maxRecDepth 100000 in
set_option maxHeartbeats 4000000 in
theorem nullable_calls (c : Cfg) (v : Value) (w : World) (h : CfgV w v c) (hok : CfgOk c) (hsm : Small 200 c) (h0 : 0 < c.alts.length) : Calls Try.prog 16 #[v] w (nulEnd c w) := by
  have hal : c.alts.length ≤ 200 := by have := hok.1; have := hsm.1; omega
  obtain ⟨a0, b0, d0, rfl, h1, h2, h3⟩ := id h
  obtain ⟨A1, c1, rfl, hc1, hm1, _, hr1⟩ := id h1
  obtain ⟨A2, c2, rfl, hc2, hm2, _, hr2⟩ := id h2
  obtain ⟨A3, c3, rfl, hc3, hm3, hl3, hr3⟩ := id h3
  have HH := Lib.hid (And.intro h (And.intro hok hsm))
  unfold LB at hl3
  clear h hok hsm h1 h2 h3 hr1 hr2
  have hB1 := Box.new w #[.slice A1 c.toks.length c1, .slice A2 c.names.length c2, .slice A3 c.alts.length c3] 25
  have hb1 : Below w.heap.size w (w.alloc (.cells #[.slice A1 c.toks.length c1, .slice A2 c.names.length c2, .slice A3 c.alts.length c3] 25)) := (Below.refl _ _).alloc (Nat.le_refl _) _
  obtain ⟨i0, hi0, hz0, hzs, hzb⟩ := info_parts infoBool
  have hmk := run_makeSlice (P := Try.prog) (w.alloc (.cells #[.slice A1 c.toks.length c1, .slice A2 c.names.length c2, .slice A3 c.alts.length c3] 25)) 29 4 i0 _ Try.underlying29 hi0 hz0 .i64 .i64 c.alts.length c.alts.length (by omega) (by omega) (by rw [hzs]; omega) (by rw [hzb]; omega) (by omega)
  have e0 : (madeCells (Value.bool false).cells ((c.alts.length : Int).toNat * i0.size)) = Array.replicate c.alts.length (.bool false) := by rw [hzs, Int.toNat_natCast]; exact madeFalse _
  rw [e0, Int.toNat_natCast] at hmk
  clear hi0 hz0 hzs hzb e0
  have hsz1 : (w.alloc (.cells #[.slice A1 c.toks.length c1, .slice A2 c.names.length c2, .slice A3 c.alts.length c3] 25)).heap.size = w.heap.size + 1 := by simp
  have hS0 : Hid (NulS w w.heap.size (w.heap.size + 1) (.slice A1 c.toks.length c1) (.slice A2 c.names.length c2) (.slice A3 c.alts.length c3) c (List.replicate c.alts.length false) ((w.alloc (.cells #[.slice A1 c.toks.length c1, .slice A2 c.names.length c2, .slice A3 c.alts.length c3] 25)).alloc (.cells (Array.replicate c.alts.length (.bool false)) 4))) := by
    have hO := Box.new (w.alloc (.cells #[.slice A1 c.toks.length c1, .slice A2 c.names.length c2, .slice A3 c.alts.length c3] 25)) (Array.replicate c.alts.length (Value.bool false)) 4
    rw [hsz1] at hO
    refine ⟨hB1.alloc _, by rw [List.map_replicate]; simpa using hO, by omega, by omega, hb1.alloc (by omega) _, by simp, fun r hr => ?_⟩
    rw [List.getElem?_replicate] at hr
    split at hr
    · injection hr with hr; cases hr
    · cases hr
  have hbc := hB1.cell 2 (v := .slice A3 c.alts.length c3) rfl
  clear hB1 hb1
  go_enter Try.func16, Try.ntmps16
  go_wp2
  clear hmk hbc hsz1
  go_loopw [14] (fun i wr => ∃ (j : Nat) (out : List Bool), j ≤ c.alts.length ∧ i = .int .i64 j ∧ NulS w w.heap.size (w.heap.size + 1) (.slice A1 c.toks.length c1) (.slice A2 c.names.length c2) (.slice A3 c.alts.length c3) c out wr ∧ Hid (j ≤ cntT out ∨ NulC c out)) (fun i _ => c.alts.length - (intOf i).toNat)
  case atStart => exact ⟨0, _, Nat.zero_le _, rfl, hS0, .inl (Nat.zero_le _)⟩
  case round =>
    obtain ⟨j0, out0, hj0, rfl, hS1, hc0⟩ := hrel
    have H0 := Lib.hid (And.intro hS1 hc0)
    have x2 := hS1.cb.cell 2 (v := .slice A3 c.alts.length c3) rfl
    clear hS1 hc0
    by_cases hlt0 : j0 < c.alts.length
    · obtain ⟨wa, rfl⟩ : ∃ wa : World, wa = wr := ⟨_, rfl⟩
      go_wp2
      go_loopw [19] (fun i wr => ∃ (s : Nat) (out : List Bool), s ≤ c.alts.length ∧ i = .int .i64 s ∧ NulS w w.heap.size (w.heap.size + 1) (.slice A1 c.toks.length c1) (.slice A2 c.names.length c2) (.slice A3 c.alts.length c3) c out wr ∧ Hid (NulR c out0 out (NullTo c out0 s))) (fun i _ => c.alts.length - (intOf i).toNat)
      case atStart => exact ⟨0, out0, Nat.zero_le _, rfl, H0.out.1, ⟨fun _ => rfl, .inl ⟨rfl, fun r hr => absurd hr (Nat.not_lt_zero _)⟩⟩⟩
      case round =>
        obtain ⟨s, out1, hs, rfl, hS2, hR2⟩ := hrel
        have H2 := Lib.hid (And.intro hS2 hR2)
        have y2 := hS2.cb.cell 2 (v := .slice A3 c.alts.length c3) rfl
        clear hS2 hR2
        by_cases hlt : s < c.alts.length
        · obtain ⟨al, hal1⟩ := at_lt c.alts hlt
          obtain ⟨ad3, B3, c4, rfl, hcellB, g1, g2, g3, g4⟩ := (hr3.below H2.out.1.bl).slice hal1
          have hrowB : Hid (∀ w' : World, Below w.heap.size w w' → Row (Ty.slice Ty.int) w' B3 al) := by
            intro w' hb
            obtain ⟨ad0, B0, c0, e0, hcell0, _, _, _, g40⟩ := hr3.slice hal1
            injection e0 with e0
            subst e0
            have q1 := cell_far hcell0 H2.out.1.bl.block
            rw [hcellB] at q1; injection q1 with q1; injection q1 with q1 _ _
            rw [q1]; exact g40.below hb
          have HAL := Lib.hid hal1; clear hal1 g4
          obtain ⟨w3, rfl⟩ : ∃ w3 : World, w3 = wr := ⟨_, rfl⟩
          go_wp2
          go_loopw [26] (fun i wr => ∃ (j : Nat) (out : List Bool), j ≤ al.length ∧ i = .int .i64 j ∧ NulS w w.heap.size (w.heap.size + 1) (.slice A1 c.toks.length c1) (.slice A2 c.names.length c2) (.slice (some ad3) c.alts.length c3) c out wr ∧ Hid (NulR c out0 out (NullTo c out0 s ∧ ∀ x ∈ al.take j, emptyP out0 x = true → out0[s]? = some true))) (fun i _ => al.length - (intOf i).toNat)
          case atStart =>
            refine ⟨0, out1, Nat.zero_le _, rfl, H2.out.1, ⟨H2.out.2.1, ?_⟩⟩
            rcases H2.out.2.2 with ⟨e, h⟩ | h
            · exact .inl ⟨e, h, fun x hx => by simp at hx⟩
            · exact .inr h
          case round =>
            obtain ⟨j, out2, hj, rfl, hS3, hR3⟩ := hrel
            have H3 := Lib.hid (And.intro hS3 hR3)
            have hlen2 := hS3.inv.1
            have q0 := hS3.cb.cell 0 (v := .slice A1 c.toks.length c1) rfl
            have q1 := hS3.cb.cell 1 (v := .slice A2 c.names.length c2) rfl
            have q2 := hS3.cb.cell 2 (v := .slice (some ad3) c.alts.length c3) rfl
            have HLEN := Lib.hid hlen2
            have hsl2 : s < out2.length := by omega
            clear hS3 hR3 hlen2
            by_cases hlt4 : j < al.length
            · obtain ⟨x, hx⟩ := at_lt al hlt4
              have hro : Row (Ty.slice Ty.int) wr B3 al := hrowB.out wr H3.out.1.bl
              obtain ⟨adA, BA, cA, rfl, hcellA, a1, a2, a3, a4⟩ := hro.slice hx
              have hua : Hid (Sl Ty.int wr (.slice BA x.length cA) x) := ⟨BA, cA, rfl, a1, a2, a3, a4⟩
              have hxm := List.mem_of_getElem? hx
              have hinv := nulStep_inv H3.out.1.inv HAL.out hxm
              have hstep : Hid (NulR c out0 (nulStep out2 s x) (NullTo c out0 s ∧ ∀ y ∈ al.take (j + 1), emptyP out0 y = true → out0[s]? = some true)) := H3.out.2.step H3.out.1.inv.1 HAL.out hxm fun hp hn => ⟨hp.1, fun y hy => by
                rw [take_next hx] at hy
                rcases List.mem_append.1 hy with hy | hy
                · exact hp.2 y hy
                · simp at hy; subst hy; exact hn⟩
              have hemp := empty_calls c x out2 _ _ _ wr (HH.out.1.below H3.out.1.bl) hua.out (H3.out.1.sl (by omega)) H3.out.1.inv.1 (by omega)
              have HEMP := Lib.hid hemp
              have HINV := Lib.hid hinv
              clear hx hro a4 hxm hemp hinv
              obtain ⟨b, hb⟩ := at_lt out2 hsl2
              have hcb := H3.out.1.cell hb
              have hfr := H3.out.1.ob.frozen s
              have hst : nulStep out2 s x = out2.set s (b || emptyP out2 x) := by unfold nulStep; rw [hb]; rfl
              have HST := Lib.hid hst
              clear hst hb
              obtain ⟨wb, rfl⟩ : ∃ wb : World, wb = wr := ⟨_, rfl⟩
              cases b with
              | true =>
                go_wp2
                have hst : nulStep out2 s x = _ := HST.out
                rw [Bool.true_or] at hst
                refine ⟨⟨j + 1, nulStep out2 s x, by omega, by simp, by rw [hst]; exact H3.out.1.set (by rw [← hst]; exact HINV.out), hstep⟩, by simp [intOf]; omega⟩
              | false =>
                obtain ⟨bb, hbb⟩ : ∃ bb, bb = emptyP out2 x := ⟨_, rfl⟩
                have hE := HEMP.out
                rw [← hbb] at hE
                have HE := Lib.hid hE
                have HBB := Lib.hid hbb
                clear hE hbb
                go_wp2_with (go_at_call 44; refine HE.out.mono ?_; rintro e w5 ⟨rfl, hb5⟩; have hS5 := Lib.hid (H3.out.1.below hb5); have hfr5 := hS5.out.ob.frozen s; have hcb5 := cell_far hcb hb5.block)
                have hst : nulStep out2 s x = _ := HST.out
                rw [Bool.false_or, ← HBB.out] at hst
                refine ⟨⟨j + 1, nulStep out2 s x, by omega, by simp, by rw [hst]; exact hS5.out.set (by rw [← hst]; exact HINV.out), hstep⟩, by simp [intOf]; omega⟩
            · have hje : j = al.length := by omega
              have HJE := Lib.hid hje; clear hje
              go_wp2
              refine ⟨⟨s + 1, out2, by omega, by simp, H3.out.1, ⟨H3.out.2.1, ?_⟩⟩, by simp [intOf]; omega⟩
              rcases H3.out.2.2 with ⟨e, h1, h2⟩ | h
              · refine .inl ⟨e, fun r hr al' x hal' hx => ?_⟩
                by_cases hrs : r = s
                · subst hrs
                  rw [HAL.out] at hal'; injection hal' with hal'; subst hal'
                  exact h2 x (by rw [HJE.out, List.take_length]; exact hx)
                · exact h1 r (by omega) al' x hal' hx
              · exact .inr h
        · have hse : s = c.alts.length := by omega
          have HSE := Lib.hid hse; clear hse
          go_wp2
          refine ⟨⟨j0 + 1, out1, by omega, by simp, H2.out.1, ?_⟩, by simp [intOf]; omega⟩
          rcases H2.out.2.2 with ⟨e, h⟩ | h
          · rw [e]
            exact .inr fun r al a hal' ha he => h r (by rw [HSE.out]; exact (List.getElem?_eq_some_iff.1 hal').1) al a hal' ha he
          · rcases H0.out.2 with h0 | h0
            · exact .inl (by omega)
            · have := H2.out.2.1 h0
              rw [this] at h; exact absurd h (Nat.lt_irrefl _)
    · have hje : j0 = c.alts.length := by omega
      have HJE := Lib.hid hje; clear hje
      go_wp2
      go_ret
      have hinv := H0.out.1.inv
      refine ⟨_, out0, rfl, H0.out.1.ob, hinv, ?_, H0.out.1.bl⟩
      rcases H0.out.2 with h0 | h0
      · intro r al a hal' _ _
        exact cnt_all (by rw [hinv.1, ← HJE.out]; exact h0) r (by rw [hinv.1]; exact (List.getElem?_eq_some_iff.1 hal').1)
      · exact h0
end Go.Proofs.Ytigbfankkmmnbaa
