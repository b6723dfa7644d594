/- The reference's Follow: the walk. -/
import Derived.Test.YtigbfankkmmnbaaZ21
import Derived.Test.YtigbfankkmmnbaaZ16
set_option linter.unusedVariables false
set_option linter.unusedSimpArgs false
namespace Go.Proofs.Ytigbfankkmmnbaa
open Go.RowKit Gk

theorem LRow.keepKI {w w' : World} {O : Nat} {ls : List (List Int)} (h : LRow w O ls) (k : KI w w') (hk : w'.heap[O]? = w.heap[O]?) : LRow w' O ls := by
  obtain ⟨cells, h1, h2, h3⟩ := h
  exact ⟨cells, h1.keep hk, h2, fun i l hl => by obtain ⟨v, hv, hi⟩ := h3 i l hl; exact ⟨v, hv, hi.ki k⟩⟩
theorem LRow.ki {w : World} {O : Nat} {ls : List (List Int)} (h : LRow w O ls) (i : Nat) (v : Value) : KI w (w.setCell ⟨O, i, none⟩ v) := by
  obtain ⟨cells, h1, _⟩ := h
  exact KI.set h1 (by decide) i v
structure RFo (w0 : World) (X N O O2 : Nat) (a b d : Value) (n : Nat) (nl : List Bool) (fs gs : List (List Int)) (w : World) : Prop where
  rl : RLs w0 X N O a b d n nl gs w
  fr : LRow w O2 fs
  n2 : O2 ≠ O
  flen : fs.length = n
theorem RFo.below {w0 : World} {X N O O2 : Nat} {a b d : Value} {n : Nat} {nl : List Bool} {fs gs : List (List Int)} {w w' : World} (h : RFo w0 X N O O2 a b d n nl fs gs w) (k : Below w.heap.size w w') : RFo w0 X N O O2 a b d n nl fs gs w' := ⟨h.rl.below k, h.fr.below k, h.n2, h.flen⟩
theorem RFo.set {w0 : World} {X N O O2 : Nat} {a b d : Value} {n : Nat} {nl : List Bool} {fs gs : List (List Int)} {w : World} (h : RFo w0 X N O O2 a b d n nl fs gs w) {r : Nat} (hr : r < n) {v : Value} {l : List Int} (hv : IL w v l) : RFo w0 X N O O2 a b d n nl fs (gs.set r l) (w.setCell ⟨O, r, none⟩ v) :=
  ⟨h.rl.set hr hv, h.fr.keepKI (h.rl.row.ki r v) (Below.heap_setCell w ⟨O, r, none⟩ _ O2 h.n2), h.n2, h.flen⟩
theorem flw_setW {c : Cfg} {gs : List (List Int)} (hf : FlwI c gs) {s : Nat} {K ys : List Int} (hK : gs[s]? = some K) (hy : ∀ t ∈ ys, Flw c s t) : FlwI c (gs.set s (allW K ys)) := by
  refine ⟨by simpa using hf.1, fun r' l hl t ht => ?_⟩
  by_cases e : r' = s
  · subst e
    rw [List.getElem?_set_self (List.getElem?_eq_some_iff.1 hK).1] at hl
    injection hl with hl; subst hl
    rcases (mem_allW _ _ _).1 ht with h | h
    · exact hf.2 r' K hK t h
    · exact hy t h
  · rw [List.getElem?_set_ne (fun e' => e e'.symm)] at hl
    exact hf.2 r' l hl t ht
theorem flo_two {c : Cfg} {nl : List Bool} {fs : List (List Int)} (hok : CfgOk c) (hn : NulOk c nl) (hfi : FrsI c fs) {r : Nat} {al : List (List Int)} {x : List Int} {gs0 gs : List (List Int)} {bb : Bool} {i : Nat} (h : FloI c nl fs r x gs0 gs bb i) (hris : ∀ l ∈ gs, Rising l)
    (hal : c.alts[r]? = some al) (hx : x ∈ al) {k : Int} (hk : x[i]? = some k) {ρ : Nat} (hs : -1 - k = ρ) (hk0 : k < 0) {K ys : List Int} (hK : gs[ρ]? = some K) (hy : ∀ t, t ∈ ys ↔ t ∈ leadL nl fs (x.drop (i + 1))) :
    (emptyP nl (x.drop (i + 1)) = false → ∃ b, FloI c nl fs r x gs0 (gs.set ρ (allW K ys)) b (i + 1)) ∧ (emptyP nl (x.drop (i + 1)) = true → ∀ Rr, (gs.set ρ (allW K ys))[r]? = some Rr → ∃ b, FloI c nl fs r x gs0 ((gs.set ρ (allW K ys)).set ρ (allW (allW K ys) Rr)) b (i + 1)) := by
  have hKr := hris K (List.mem_of_getElem? hK)
  have hρ := (List.getElem?_eq_some_iff.1 hK).1
  have hxs : x.take i ++ k :: x.drop (i + 1) ∈ al := by
    rw [← drop_at hk, List.take_append_drop]; exact hx
  have hρk : (-1 - k).toNat = ρ := by omega
  have hsd : ∀ t ∈ ys, Flw c ρ t := fun t ht => by
    rw [← hρk]
    exact .lead hal hxs hk0 (lead_sound hn hfi _ t ((hy t).1 ht))
  have hF1 := flw_setW h.1 hK hsd
  have hR1 := ris_set (r := ρ) hris (allW_rising ys K hKr)
  have hb1 := flw_bound hok hF1 fun l hl => rising_nodup (hR1 l hl)
  have hle1 := allW_sub (ks := ys) hKr
  refine ⟨fun he => ⟨_, h.step hk hs hk0 hK h.1.1 hF1 (fun l hl => (hb1 l hl).1) hle1 (fun t ht => (mem_allW _ _ _).2 (.inl ht)) fun hle => ?_⟩, fun he Rr hRr => ?_⟩
  · obtain ⟨e, h2⟩ := allW_same hKr hle
    refine ⟨e, fun _ => ⟨fun t ht => ?_, fun h' => by rw [he] at h'; cases h'⟩⟩
    rw [hρk, getD_some hK]
    exact h2 t ((hy t).2 ht)
  · have hRm : ∀ t ∈ Rr, Flw c ρ t := fun t ht => by
      rw [← hρk]
      exact .pass hal hxs hk0 ((empty_iff hn _).1 he) (hF1.2 r Rr hRr t ht)
    have hK1 : (gs.set ρ (allW K ys))[ρ]? = some (allW K ys) := List.getElem?_set_self hρ
    have hK1r := hR1 _ (List.mem_of_getElem? hK1)
    have hF2 := flw_setW hF1 hK1 hRm
    have hR2 := ris_set (r := ρ) hR1 (allW_rising Rr _ hK1r)
    have hb2 := flw_bound hok hF2 fun l hl => rising_nodup (hR2 l hl)
    have hle2 := allW_sub (ks := Rr) hK1r
    rw [List.set_set] at hF2 hb2 ⊢
    refine ⟨_, h.step hk hs hk0 hK h.1.1 hF2 (fun l hl => (hb2 l hl).1) (Nat.le_trans hle1 hle2) (fun t ht => (mem_allW _ _ _).2 (.inl ((mem_allW _ _ _).2 (.inl ht)))) fun hle => ?_⟩
    obtain ⟨e1, h1⟩ := allW_same (ks := ys) hKr (by omega)
    have e2 := allW_same (ks := Rr) hK1r (by omega)
    refine ⟨e2.1.trans e1, fun _ => ⟨fun t ht => ?_, fun _ t ht => ?_⟩⟩
    · rw [hρk, getD_some hK]; exact h1 t ((hy t).2 ht)
    · have hgs : gs.set ρ (allW K ys) = gs := by rw [e1]; exact set_same hK
      rw [hgs] at hRr
      rw [getD_some hRr] at ht
      rw [hρk, getD_some hK]
      have := e2.2 t ht
      rwa [e1] at this
def FoI (c : Cfg) (gs : List (List Int)) : Prop := FlwI c gs ∧ (∀ l ∈ gs, Rising l) ∧ (c.toks.length : Int) ∈ gs.getD 0 []
theorem FoI.start {c : Cfg} (h0 : 0 < c.alts.length) : FoI c ((List.replicate c.alts.length []).set 0 [(c.toks.length : Int)]) := by
  refine ⟨⟨by simp, fun r l hl t ht => ?_⟩, ris_set (fun l hl => by rw [(List.mem_replicate.1 hl).2]; exact List.Pairwise.nil) (by simp [Rising]), ?_⟩
  · by_cases e : r = 0
    · subst e
      rw [List.getElem?_set_self (by simpa using h0)] at hl
      injection hl with hl; subst hl
      simp at ht; subst ht
      exact .start h0
    · rw [List.getElem?_set_ne (fun e' => e e'.symm), List.getElem?_replicate] at hl
      split at hl
      · injection hl with hl; subst hl; simp at ht
      · cases hl
  · rw [getD_some (List.getElem?_set_self (by simpa using h0))]; simp
def hadF (c : Cfg) (nl : List Bool) (fs : List (List Int)) (q : Int) (ls : List (List Int)) : Prop := q = totI ls → ClTo c (ClW nl fs) ls c.alts.length 0
def FoV (O N O2 n ρ i : Nat) (cv xv : Value) (l : List Int) (nl : List Bool) (fs : List (List Int)) (s : List Int) (j : Nat) (v : Value) (w : World) : Prop := match j with
  | 0 => v = .slice (some ⟨O, 0, none⟩) n n
  | 1 => v = .int .i64 ρ
  | 2 => v = .slice (some ⟨O, 0, none⟩) n n
  | 3 => v = .int .i64 ρ
  | 4 => v = .pointer (some ⟨O, ρ, none⟩)
  | 5 => IL w v l
  | 6 => v = cv
  | 7 => v = xv
  | 8 => v = .int .i64 i
  | 9 => v = .int .i64 ((i + 1 : Nat) : Int)
  | 10 => Sl Ty.int w v s
  | 11 => v = .slice (some ⟨N, 0, none⟩) n n
  | 12 => v = .slice (some ⟨O2, 0, none⟩) n n
  | 13 => ∃ ks, IL w v ks ∧ (∀ t, t ∈ ks ↔ t ∈ leadL nl fs s) ∧ ks.length ≤ s.length * 400
  | 14 => ∃ ks, IL w v (allW l ks) ∧ (∀ t, t ∈ ks ↔ t ∈ leadL nl fs s)
  | _ => v = .pointer (some ⟨O, ρ, none⟩)
theorem FoV.below {O N O2 n ρ i : Nat} {cv xv : Value} {l : List Int} {nl : List Bool} {fs : List (List Int)} {s : List Int} : ∀ (j : Nat) (v : Value) (w w' : World), FoV O N O2 n ρ i cv xv l nl fs s j v w → Below w.heap.size w w' → FoV O N O2 n ρ i cv xv l nl fs s j v w'
  | 0, _, _, _, h, _ => h
  | 1, _, _, _, h, _ => h
  | 2, _, _, _, h, _ => h
  | 3, _, _, _, h, _ => h
  | 4, _, _, _, h, _ => h
  | 5, _, _, _, h, k => IL.ki h (KI.below k)
  | 6, _, _, _, h, _ => h
  | 7, _, _, _, h, _ => h
  | 8, _, _, _, h, _ => h
  | 9, _, _, _, h, _ => h
  | 10, _, _, _, h, k => Sl.below h k
  | 11, _, _, _, h, _ => h
  | 12, _, _, _, h, _ => h
  | 13, _, _, _, ⟨ks, h, h2⟩, k => ⟨ks, h.ki (KI.below k), h2⟩
  | 14, _, _, _, ⟨ks, h, h2⟩, k => ⟨ks, h.ki (KI.below k), h2⟩
  | _ + 15, _, _, _, h, _ => h
def FeV (N n i : Nat) (cv xv : Value) (s : List Int) (j : Nat) (v : Value) (w : World) : Prop := match j with
  | 0 => v = cv
  | 1 => v = xv
  | 2 => v = .int .i64 i
  | 3 => v = .int .i64 ((i + 1 : Nat) : Int)
  | 4 => Sl Ty.int w v s
  | _ => v = .slice (some ⟨N, 0, none⟩) n n
theorem FeV.below {N n i : Nat} {cv xv : Value} {s : List Int} : ∀ (j : Nat) (v : Value) (w w' : World), FeV N n i cv xv s j v w → Below w.heap.size w w' → FeV N n i cv xv s j v w'
  | 0, _, _, _, h, _ => h
  | 1, _, _, _, h, _ => h
  | 2, _, _, _, h, _ => h
  | 3, _, _, _, h, _ => h
  | 4, _, _, _, h, k => Sl.below h k
  | _ + 5, _, _, _, h, _ => h
def FpV (O n ρ r : Nat) (l l2 : List Int) (j : Nat) (v : Value) (w : World) : Prop := match j with
  | 0 => v = .slice (some ⟨O, 0, none⟩) n n
  | 1 => v = .int .i64 ρ
  | 2 => v = .slice (some ⟨O, 0, none⟩) n n
  | 3 => v = .int .i64 ρ
  | 4 => v = .pointer (some ⟨O, ρ, none⟩)
  | 5 => IL w v l
  | 6 => v = .slice (some ⟨O, 0, none⟩) n n
  | 7 => v = .int .i64 r
  | 8 => v = .pointer (some ⟨O, r, none⟩)
  | 9 => IL w v l2
  | 10 => IL w v (allW l l2)
  | _ => v = .pointer (some ⟨O, ρ, none⟩)
theorem FpV.below {O n ρ r : Nat} {l l2 : List Int} : ∀ (j : Nat) (v : Value) (w w' : World), FpV O n ρ r l l2 j v w → Below w.heap.size w w' → FpV O n ρ r l l2 j v w'
  | 0, _, _, _, h, _ => h
  | 1, _, _, _, h, _ => h
  | 2, _, _, _, h, _ => h
  | 3, _, _, _, h, _ => h
  | 4, _, _, _, h, _ => h
  | 5, _, _, _, h, k => IL.ki h (KI.below k)
  | 6, _, _, _, h, _ => h
  | 7, _, _, _, h, _ => h
  | 8, _, _, _, h, _ => h
  | 9, _, _, _, h, k => IL.ki h (KI.below k)
  | 10, _, _, _, h, k => IL.ki h (KI.below k)
  | _ + 11, _, _, _, h, _ => h
set_option maxRecDepth 100000 in
set_option maxHeartbeats 8000000 in
theorem refFollow_calls (c : Cfg) (v : Value) (w : World) (h : CfgV w v c) (hok : CfgOk c) (hsm : Small 200 c) (h0 : 0 < c.alts.length) : Calls Try.prog 21 #[v] w (lstEnd c.alts.length (Flw c) w) := by
  have hal : c.alts.length ≤ 200 := by have := hok.1; have := hsm.1; omega
  have htl : c.toks.length ≤ 200 := by have := hsm.1; omega
  obtain ⟨a0, b0, d0, rfl, h1, h2, h3⟩ := id h
  obtain ⟨A1, c1, rfl, hc1, hm1, _, hr1⟩ := id h1
  obtain ⟨A2, c2, rfl, hc2, hm2, _, hr2⟩ := id h2
  obtain ⟨A3, c3, rfl, hc3, hm3, hl3, hr3⟩ := id h3
  have hB1 := Box.new w #[.slice A1 c.toks.length c1, .slice A2 c.names.length c2, .slice A3 c.alts.length c3] 25
  have hb1 : Below w.heap.size w (w.alloc (.cells #[.slice A1 c.toks.length c1, .slice A2 c.names.length c2, .slice A3 c.alts.length c3] 25)) := (Below.refl _ _).alloc (Nat.le_refl _) _
  have hnul := nullable_calls c _ _ (h.below hb1) hok hsm h0
  have HH := Lib.hid (And.intro h (And.intro hok (And.intro hsm (And.intro hB1 (And.intro hb1 hnul)))))
  unfold LB at hl3
  clear h hok hsm h1 h2 h3 hr1 hr2 hB1 hb1 hnul
  have hmk := fun (w : World) => makeInts_run w c.alts.length (by omega)
  go_enter Try.func21, Try.ntmps21
  go_wp2_with (first
    | (go_at_call 16; refine HH.out.2.2.2.2.2.mono ?_; rintro e w2 ⟨N, nl, rfl, hNb, hni, hnc, hb2⟩; have hX2 := HH.out.2.2.2.1.below hb2; have x0 := hX2.cell 0 (v := .slice A1 c.toks.length c1) rfl; have x1 := hX2.cell 1 (v := .slice A2 c.names.length c2) rfl; have x2 := hX2.cell 2 (v := .slice A3 c.alts.length c3) rfl; have H2 := Lib.hid (And.intro hNb (And.intro (NulOk.mk hni hnc) (And.intro (below2 HH.out.2.2.2.2.1 hb2) hX2))); clear hNb hni hnc hb2 hX2)
    | (go_at_call 19; refine (refFirst_calls c _ _ (HH.out.1.below H2.out.2.2.1) HH.out.2.1 HH.out.2.2.1 h0).mono ?_; rintro e w3 ⟨O2, fs, rfl, hL, hR, hb3, hO2⟩; have hX3 := H2.out.2.2.2.below hb3; have y0 := (hX3.alloc (.cells (Array.replicate c.alts.length (.slice none 0 0)) 35)).cell 0 (v := .slice A1 c.toks.length c1) rfl; have y2 := hX3.cell 2 (v := .slice A3 c.alts.length c3) rfl; have hZ := (Box.new w3 (Array.replicate c.alts.length (.slice none 0 0)) 35).alloc (.cells #[.int .i64 c.toks.length] 3); have hc9 := hZ.cell 0 (v := .slice none 0 0) (by simp [h0]); have hf9 := hZ.frozen 0; have H3 := Lib.hid (And.intro hL (And.intro hR (And.intro (below2 H2.out.2.2.1 hb3) (And.intro hX3 hb3)))); clear hL hR hb3 hX3 hZ))
  clear hmk
  have hS0 : Hid (RFo w w.heap.size N w3.heap.size O2 (.slice A1 c.toks.length c1) (.slice A2 c.names.length c2) (.slice A3 c.alts.length c3) c.alts.length nl fs ((List.replicate c.alts.length []).set 0 [(c.toks.length : Int)]) (((w3.alloc (.cells (Array.replicate c.alts.length (.slice none 0 0)) 35)).alloc (.cells #[.int .i64 c.toks.length] 3)).setCell ⟨w3.heap.size, 0, none⟩ (.slice (some ⟨w3.heap.size + 1, 0, none⟩) 1 1))) := by
    have hba : Below w3.heap.size w3 (w3.alloc (.cells (Array.replicate c.alts.length (.slice none 0 0)) 35)) := (Below.refl _ _).alloc (Nat.le_refl _) _
    have hbc : Below (w3.alloc (.cells (Array.replicate c.alts.length (.slice none 0 0)) 35)).heap.size (w3.alloc (.cells (Array.replicate c.alts.length (.slice none 0 0)) 35)) ((w3.alloc (.cells (Array.replicate c.alts.length (.slice none 0 0)) 35)).alloc (.cells #[.int .i64 c.toks.length] 3)) := (Below.refl _ _).alloc (Nat.le_refl _) _
    have l1 := H3.out.2.2.2.1.lt
    have l2 := (H2.out.1.below H3.out.2.2.2.2).lt
    have l3 := H3.out.1.lt
    have hlit : IL ((w3.alloc (.cells (Array.replicate c.alts.length (.slice none 0 0)) 35)).alloc (.cells #[.int .i64 c.toks.length] 3)) (.slice (some ⟨w3.heap.size + 1, 0, none⟩) 1 1) [(c.toks.length : Int)] := by
      have hb := Box.new (w3.alloc (.cells (Array.replicate c.alts.length (.slice none 0 0)) 35)) #[.int .i64 c.toks.length] 3
      rw [show (w3.alloc (.cells (Array.replicate c.alts.length (.slice none 0 0)) 35)).heap.size = w3.heap.size + 1 by simp] at hb
      exact ilOfBox (out := [(c.toks.length : Int)]) hb rfl (by decide) (fun x hx => by simp at hx; subst hx; unfold Ty.i64; omega)
    have hst : RFo w w.heap.size N w3.heap.size O2 (.slice A1 c.toks.length c1) (.slice A2 c.names.length c2) (.slice A3 c.alts.length c3) c.alts.length nl fs (List.replicate c.alts.length []) (w3.alloc (.cells (Array.replicate c.alts.length (.slice none 0 0)) 35)) :=
      ⟨⟨H3.out.2.2.2.1.below hba, (H2.out.1.below H3.out.2.2.2.2).below hba, LRow.start w3 _, by simp, H2.out.2.1.inv.1, by omega, by omega, H3.out.2.2.1.size, below2 H3.out.2.2.1 hba⟩, H3.out.1.below hba, by omega, H3.out.2.1.1⟩
    exact (hst.below hbc).set h0 hlit
  have hEq : ((w3.alloc (.cells (Array.replicate c.alts.length (.slice none 0 0)) 35)).alloc (.cells #[.int .i64 c.toks.length] 3)).setCell ⟨w3.heap.size, 0, none⟩ (.slice (some ⟨w3.heap.size + 1, 0, none⟩) 1 1) = (w3.alloc (.cells ((Array.replicate c.alts.length (.slice none 0 0)).setIfInBounds 0 (.slice (some ⟨w3.heap.size + 1, 0, none⟩) 1 1)) 35)).alloc (.cells #[.int .i64 c.toks.length] 3) := by go_simp
  rw [hEq] at hS0
  clear hEq
  clear x0 x1 x2 y0 y2 hc9 hf9
  obtain ⟨O, hO⟩ : ∃ O, O = w3.heap.size := ⟨_, rfl⟩
  generalize hW : (w3.alloc (.cells ((Array.replicate c.alts.length (.slice none 0 0)).setIfInBounds 0 (.slice (some ⟨w3.heap.size + 1, 0, none⟩) 1 1)) 35)).alloc (.cells #[.int .i64 c.toks.length] 3) = wz at *
  clear hW
  rw [← hO] at hS0 ⊢
  clear hO
  go_loopg [6] (muI c ((List.replicate c.alts.length []).set 0 [(c.toks.length : Int)]) * 2 + 2) (fun gk had wr => ∃ (q : Int) (ls : List (List Int)), had = .int .i64 q ∧ RFo w w.heap.size N O O2 (.slice A1 c.toks.length c1) (.slice A2 c.names.length c2) (.slice A3 c.alts.length c3) c.alts.length nl fs ls wr ∧ Hid (FoI c ls) ∧ Hid (hadF c nl fs q ls) ∧ Hid (muI c ls * 2 + (if q = totI ls then 0 else 1) < gk) ∧ Ty.i64 q)
  case atStart => exact ⟨-1, _, rfl, hS0.out, FoI.start h0, fun e => by omega, by show _ < _; split <;> omega, by unfold Ty.i64; omega⟩
  case round =>
    obtain ⟨q, ls, rfl, hS, hF, hC, hM, hq64⟩ := hrel
    have H4 := Lib.hid (And.intro hS (And.intro hF (And.intro hC hM)))
    clear hS hF hC hM hS0
    have hbd := flw_bound HH.out.2.1 H4.out.2.1.out.1 fun l hl => rising_nodup (H4.out.2.1.out.2.1 l hl)
    have hszc := fun w' (hd : Drawn wr w') => size_calls (.slice (some ⟨O, 0, none⟩) c.alts.length c.alts.length) ls w' ((H4.out.1.below hd.below).rl.row.sl H4.out.1.rl.len (by omega)) (by have := H4.out.1.rl.len; omega) (fun l hl => by have := (hbd l hl).1; omega)
    have htot : totI ls ≤ 201 * 200 := by
      have h1 := totI_le ls 201 fun l hl => by have := (hbd l hl).1; omega
      have h2 := H4.out.1.rl.len
      rw [h2] at h1
      have : c.alts.length * 201 ≤ 200 * 201 := Nat.mul_le_mul_right _ hal
      omega
    have HZ := Lib.hid hszc
    clear hszc hbd
    obtain ⟨T, hT⟩ : ∃ T : Nat, T = totI ls := ⟨_, rfl⟩
    have HT := Lib.hid hT
    rw [← hT] at htot
    rw [← hT] at HZ
    clear hT
    by_cases hqt : q = T
    · subst hqt
      go_wp2_with (go_at_call 46; refine (HZ.out _ (Drawn.refl _)).mono ?_; rintro e w4 ⟨rfl, hd4⟩)
      go_ret
      have hS4 := H4.out.1.below hd4.below
      have hcl := H4.out.2.2.1.out (by rw [HT.out])
      have hfc := frsC_of H2.out.2.1 H3.out.2.1
      have hFC : FlwC c nl fs ls := ⟨fun _ => H4.out.2.1.out.2.2, clw_at fun r al A h1 h2 => by
        obtain ⟨i, hi⟩ := List.mem_iff_getElem?.1 h2
        exact hcl r al i A h1 hi (.inl (List.getElem?_eq_some_iff.1 h1).1)⟩
      exact ⟨O, ls, rfl, hS4.rl.row, ⟨H4.out.1.rl.len, fun r x hx => ⟨H4.out.2.1.out.2.1 x (List.mem_of_getElem? hx), flw_iff H2.out.2.1 (frsI_of H3.out.2.1) hfc H4.out.2.1.out.1 hFC hx⟩⟩, hS4.rl.bl, hS4.rl.lb⟩
    · have HQT := Lib.hid hqt
      have hdq : decide (q = (T : Int)) = false := decide_eq_false hqt
      go_wp2_with (first | (go_at_call 46; refine (HZ.out wr (Drawn.refl _)).mono ?_; rintro e w4 ⟨rfl, hd4⟩) | (go_at_call 46; have hz : World := w4; clear hz; refine (HZ.out w4 hd4).mono ?_; rintro e w5 ⟨rfl, hd5⟩; have x2 := ((H4.out.1.below hd4.below).below hd5.below).rl.cb.cell 2 (v := .slice A3 c.alts.length c3) rfl))
      have HS5 := Lib.hid ((H4.out.1.below hd4.below).below hd5.below)
      have HQ := Lib.hid (show muI c ls * 2 + 1 < gk from by have h : _ < gk := H4.out.2.2.2; rw [← HT.out, if_neg hqt] at h; exact h)
      clear x2 hd4 hd5 hqt hdq
      go_loopw [40] (fun i wr => ∃ (s : Nat) (t : List (List Int)) (b : Bool), s ≤ c.alts.length ∧ i = .int .i64 s ∧ RFo w w.heap.size N O O2 (.slice A1 c.toks.length c1) (.slice A2 c.names.length c2) (.slice A3 c.alts.length c3) c.alts.length nl fs t wr ∧ Hid (FoI c t) ∧ Hid (EachP (muI c) c (ClW nl fs) ls t b s 0)) (fun i _ => c.alts.length - (intOf i).toNat)
      case atStart => exact ⟨0, ls, false, Nat.zero_le _, rfl, HS5.out, H4.out.2.1, fun h => (by cases h), fun _ => ⟨rfl, fun r al i s _ _ hr => by omega⟩⟩
      case round =>
        obtain ⟨s, t2, b2, hs, rfl, hS2, hF2, hP2⟩ := hrel
        have H5 := Lib.hid (And.intro hS2 (And.intro hF2 hP2))
        clear hS2 hF2 hP2
        by_cases hlt : s < c.alts.length
        · obtain ⟨al, hal1⟩ := at_lt c.alts hlt
          obtain ⟨ad3, B3, c4, rfl, hcellB, g1, g2, g3, g4⟩ := (hr3.below H5.out.1.rl.bl).slice hal1
          have hrowB : Hid (∀ w' : World, Below w.heap.size w w' → Row (Ty.slice Ty.int) w' B3 al) := by
            intro w' hb
            obtain ⟨ad0, B0, c0, e0, hcell0, _, _, _, g40⟩ := hr3.slice hal1
            injection e0 with e0
            subst e0
            have q1 := cell_far hcell0 H5.out.1.rl.bl.block
            rw [hcellB] at q1; injection q1 with q1; injection q1 with q1 _ _
            rw [q1]; exact g40.below hb
          have HAL := Lib.hid hal1; clear hal1 g4
          obtain ⟨w6, rfl⟩ : ∃ w6 : World, w6 = wr := ⟨_, rfl⟩
          go_wp2
          go_loopw [47] (fun i wr => ∃ (j : Nat) (t : List (List Int)) (b : Bool), j ≤ al.length ∧ i = .int .i64 j ∧ RFo w w.heap.size N O O2 (.slice A1 c.toks.length c1) (.slice A2 c.names.length c2) (.slice (some ad3) c.alts.length c3) c.alts.length nl fs t wr ∧ Hid (FoI c t) ∧ Hid (EachP (muI c) c (ClW nl fs) ls t b s j)) (fun i _ => al.length - (intOf i).toNat)
          case atStart => exact ⟨0, t2, b2, Nat.zero_le _, rfl, H5.out.1, H5.out.2.1, H5.out.2.2⟩
          case round =>
            obtain ⟨j, t3, b3, hj, rfl, hS3, hF3, hP3⟩ := hrel
            have H6 := Lib.hid (And.intro hS3 (And.intro hF3 hP3))
            clear hS3 hF3 hP3
            by_cases hlt4 : j < al.length
            · obtain ⟨x, hx⟩ := at_lt al hlt4
              have hro : Row (Ty.slice Ty.int) wr B3 al := hrowB.out wr H6.out.1.rl.bl
              obtain ⟨adA, BA, cA, rfl, hcellA, a1, a2, a3, a4⟩ := hro.slice hx
              have hua : Hid (∀ w' : World, Below w.heap.size w w' → Sl Ty.int w' (.slice BA x.length cA) x) := by
                intro w' hb
                obtain ⟨ad5, B5, c5, e5, hcell5, y1, y2, y3, y4⟩ := (hrowB.out w (Below.refl _ _)).slice hx
                injection e5 with e5
                subst e5
                have q1 := cell_far hcell5 H6.out.1.rl.bl.block
                rw [hcellA] at q1; injection q1 with q1; injection q1 with q1 q2 q3
                subst q1 q3
                exact ⟨_, _, rfl, y1, y2, y3, y4.below hb⟩
              have hxm := List.mem_of_getElem? hx
              have hxl : x.length ≤ 200 := by have := (HH.out.2.2.1.2 al (List.mem_of_getElem? HAL.out)).2 x hxm; omega
              have hinA := HH.out.2.1.2 al (List.mem_of_getElem? HAL.out) x hxm
              have HX := Lib.hid (And.intro hx (And.intro hxm hinA))
              clear hx hro hxm hinA
              obtain ⟨wb, rfl⟩ : ∃ wb : World, wb = wr := ⟨_, rfl⟩
              go_wp2
              go_loopw [53] (fun i wr => ∃ (p : Nat) (t : List (List Int)) (b : Bool), p ≤ x.length ∧ i = .int .i64 p ∧ RFo w w.heap.size N O O2 (.slice A1 c.toks.length c1) (.slice A2 c.names.length c2) (.slice (some ad3) c.alts.length c3) c.alts.length nl fs t wr ∧ Hid (FloI c nl fs s x t3 t b p) ∧ Hid (∀ l ∈ t, Rising l) ∧ Below wb.heap.size wb wb) (fun i _ => x.length - (intOf i).toNat)
              case atStart => exact ⟨0, t3, false, Nat.zero_le _, rfl, H6.out.1, ⟨H6.out.2.1.out.1, fun e => (by cases e), fun _ => ⟨rfl, fun j k hj => by omega⟩, fun q t h => h⟩, H6.out.2.1.out.2.1, Below.refl _ _⟩
              case round =>
                obtain ⟨p, t4, b4, hp, rfl, hS4, hF4, hR4, _⟩ := hrel
                have H7 := Lib.hid (And.intro hS4 (And.intro hF4 hR4))
                have z0 := hS4.rl.cb.cell 0 (v := .slice A1 c.toks.length c1) rfl
                have z1 := hS4.rl.cb.cell 1 (v := .slice A2 c.names.length c2) rfl
                have z2 := hS4.rl.cb.cell 2 (v := .slice (some ad3) c.alts.length c3) rfl
                clear hS4 hF4 hR4
                by_cases hlt5 : p < x.length
                · obtain ⟨k, hk⟩ := at_lt x hlt5
                  obtain ⟨AX, cX, eX, _, _, _, hrx⟩ := id (hua.out wr H7.out.1.rl.bl)
                  injection eX with eX1 eX2 eX3
                  subst eX1
                  obtain ⟨adk, rfl, hk64, hcellk⟩ := hrx.int hk
                  clear hrx eX2 eX3 a4
                  have hrule := rule9_calls A1 A2 (some ad3) c.toks.length c.names.length c.alts.length c1 c2 c3 k wr hk64 (by omega)
                  have hkin := HX.out.2.2 k (List.mem_of_getElem? hk)
                  have hnm := HH.out.2.1.1
                  have hka := hk64.1
                  have hkb := hk64.2
                  have HK := Lib.hid hk
                  clear hk
                  by_cases hk0 : k < 0
                  · obtain ⟨ρ, hρ⟩ : ∃ ρ : Nat, -1 - k = ρ := ⟨(-1 - k).toNat, by omega⟩
                    have hρl : ρ < c.alts.length := by rcases hkin with h | h <;> omega
                    have e9 : rule9 c.alts.length k = ρ := by unfold rule9; rw [if_pos ⟨hk0, by omega⟩]; exact hρ
                    rw [e9] at hrule
                    have hpp : IntKind.i64.wrap ((p : Int) + 1) = (p : Int) + 1 := by rw [IntKind.wrap_i64]; omega
                    obtain ⟨K, hK⟩ := at_lt t4 (show ρ < t4.length by rw [H7.out.1.rl.len]; exact hρl)
                    have hbd4 := flw_bound HH.out.2.1 H7.out.2.1.out.1 fun l hl => rising_nodup (H7.out.2.2.out l hl)
                    have hKl : K.length ≤ 201 := by have := (hbd4 K (List.mem_of_getElem? hK)).1; omega
                    have HR := Lib.hid (And.intro hrule (And.intro hρ (And.intro hk0 hK)))
                    clear hrule hρ hk0 hK e9 hkin hnm hk64 hbd4
                    obtain ⟨VD, hVD, hVS⟩ := slDropI (hua.out wr H7.out.1.rl.bl) (n := p + 1) (by omega)
                    have HVD := Lib.hid (And.intro hVD hVS)
                    clear hVD hVS
                    obtain ⟨rest, hrest⟩ : ∃ rest, rest = x.drop (p + 1) := ⟨_, rfl⟩
                    have hrl : rest.length ≤ 200 := by rw [hrest]; simp; omega
                    have HRe := Lib.hid hrest
                    rw [← hrest] at HVD
                    clear hrest
                    go_wp2_with (go_at_call 57; refine HR.out.1.mono ?_; rintro e w7 ⟨rfl, hb7⟩; have H8 := Lib.hid (H7.out.1.below hb7); clear hb7)
                    clear z0 z1 z2 hcellk
                    refine wp_region_growLastT 16 (by kernel_rfl) (by kernel_rfl) (by kernel_rfl) (by kernel_rfl) (by kernel_rfl) (FoV O N O2 c.alts.length ρ p (.agg #[.slice A1 c.toks.length c1, .slice A2 c.names.length c2, .slice (some ad3) c.alts.length c3]) (.slice (some adk) x.length cA) K nl fs rest) FoV.below ?_ ?_
                    · intro i hi o ho val w8 hB8 hd
                      have hS8 := H8.out.below hB8
                      have x0 := hS8.rl.cb.cell 0 (v := .slice A1 c.toks.length c1) rfl
                      have x1 := hS8.rl.cb.cell 1 (v := .slice A2 c.names.length c2) rfl
                      have x2 := hS8.rl.cb.cell 2 (v := .slice (some ad3) c.alts.length c3) rfl
                      have : i = 0 ∨ i = 1 ∨ i = 2 ∨ i = 3 ∨ i = 4 ∨ i = 5 ∨ i = 6 ∨ i = 7 ∨ i = 8 ∨ i = 9 ∨ i = 10 ∨ i = 11 ∨ i = 12 ∨ i = 13 ∨ i = 14 ∨ i = 15 := by omega
                      rcases this with rfl | rfl | rfl | rfl | rfl | rfl | rfl | rfl | rfl | rfl | rfl | rfl | rfl | rfl | rfl | rfl <;> cases ho
                      · exact does_value (exec_move (.inl rfl) rfl) ⟨Below.refl _ _, rfl⟩
                      · exact does_value (exec_move (.inl rfl) rfl) ⟨Below.refl _ _, rfl⟩
                      · exact does_value (exec_move (.inl rfl) rfl) ⟨Below.refl _ _, rfl⟩
                      · exact does_value (exec_move (.inl rfl) rfl) ⟨Below.refl _ _, rfl⟩
                      · have e2 : val 2 = .slice (some ⟨O, 0, none⟩) c.alts.length c.alts.length := hd 2 ⟨⟨2, .data⟩, by simp, rfl, rfl⟩
                        have e3 : val 3 = .int .i64 ρ := hd 3 ⟨⟨3, .data⟩, by simp, rfl, rfl⟩
                        exact does_value (v := .pointer (some ⟨O, ρ, none⟩)) (w := w8) (exec_indexAddr rfl e2 e3 (by go_simp)) ⟨Below.refl _ _, rfl⟩
                      · have e4 : val 4 = .pointer (some ⟨O, ρ, none⟩) := hd 4 ⟨⟨4, .data⟩, by simp, rfl, rfl⟩
                        obtain ⟨v5, hc5, _, hi5⟩ := hS8.rl.row.at_ HR.out.2.2.2
                        exact does_value (exec_load rfl e4 (by go_simp)) ⟨Below.refl _ _, hi5⟩
                      · exact does_value (exec_load rfl rfl (by go_simp)) ⟨Below.refl _ _, rfl⟩
                      · exact does_value (exec_move (.inl rfl) rfl) ⟨Below.refl _ _, rfl⟩
                      · exact does_value (exec_move (.inl rfl) rfl) ⟨Below.refl _ _, rfl⟩
                      · have e8 : val 8 = .int .i64 p := hd 8 ⟨⟨8, .data⟩, by simp, rfl, rfl⟩
                        exact does_value (v := .int .i64 ((p + 1 : Nat) : Int)) (w := w8) (exec_bin (u := .int .i64 (p : Nat)) (v := .int .i64 1) rfl e8 rfl (by simp [Go.binOp, go_sem]; rw [hpp]; try simp)) ⟨Below.refl _ _, rfl⟩
                      · have e7 : val 7 = .slice (some adk) x.length cA := hd 7 ⟨⟨7, .data⟩, by simp, rfl, rfl⟩
                        have e9 : val 9 = .int .i64 ((p + 1 : Nat) : Int) := hd 9 ⟨⟨9, .data⟩, by simp, rfl, rfl⟩
                        exact does_value (v := VD) (w := w8) (exec_slice rfl e7 (l := some (.int .i64 ((p + 1 : Nat) : Int))) (congrArg some e9) (h := none) rfl (HVD.out.1 _)) ⟨Below.refl _ _, HVD.out.2 w8 (hua.out w8 hS8.rl.bl)⟩
                      · exact does_value (exec_move (.inl rfl) rfl) ⟨Below.refl _ _, rfl⟩
                      · exact does_value (exec_move (.inl rfl) rfl) ⟨Below.refl _ _, rfl⟩
                      · have e6 : val 6 = .agg #[.slice A1 c.toks.length c1, .slice A2 c.names.length c2, .slice (some ad3) c.alts.length c3] := hd 6 ⟨⟨6, .data⟩, by simp, rfl, rfl⟩
                        have e10 : Sl Ty.int w8 (val 10) rest := hd 10 ⟨⟨10, .data⟩, by simp, rfl, rfl⟩
                        have e11 : val 11 = .slice (some ⟨N, 0, none⟩) c.alts.length c.alts.length := hd 11 ⟨⟨11, .data⟩, by simp, rfl, rfl⟩
                        have e12 : val 12 = .slice (some ⟨O2, 0, none⟩) c.alts.length c.alts.length := hd 12 ⟨⟨12, .data⟩, by simp, rfl, rfl⟩
                        refine does_enter (f := 48) (args := #[.agg #[.slice A1 c.toks.length c1, .slice A2 c.names.length c2, .slice (some ad3) c.alts.length c3], val 10, .slice (some ⟨N, 0, none⟩) c.alts.length c.alts.length, .slice (some ⟨O2, 0, none⟩) c.alts.length c.alts.length]) (w := w8) (exec_call rfl rfl (by simp only [List.map_toArray, List.map_cons, List.map_nil]; exact args4 e6 rfl e11 e12) Try.func48 (by decide) rfl) ?_
                        refine (rlead_calls c rest nl fs _ _ _ _ w8 (HH.out.1.below hS8.rl.bl) e10 (hS8.rl.nsl (by omega)) (hS8.fr.sl hS8.flen (by omega)) hS8.rl.nlen hS8.flen (by omega) (fun l hl => by have := ris_bound HH.out.2.1 H3.out.2.1 l hl; omega) hrl).mono ?_
                        rintro e w' ⟨v', ks, rfl, hI', hR', hm', hk', hb⟩
                        exact ⟨_, rfl, hb, ks, hI', hm', hk'⟩
                      · have e5 : IL w8 (val 5) K := hd 5 ⟨⟨5, .data⟩, by simp, rfl, rfl⟩
                        obtain ⟨ks, e13, hm, hkl⟩ : ∃ ks, IL w8 (val 13) ks ∧ (∀ t, t ∈ ks ↔ t ∈ leadL nl fs rest) ∧ ks.length ≤ rest.length * 400 := hd 13 ⟨⟨13, .data⟩, by simp, rfl, rfl⟩
                        refine does_enter (f := 47) (args := #[val 5, val 13]) (w := w8) (exec_call rfl rfl (by simp only [List.map_toArray, List.map_cons, List.map_nil]; rfl) Try.func47 (by decide) rfl) ?_
                        refine (rall9_calls _ _ K ks w8 e5 e13.sl (by omega)).mono ?_
                        rintro e w' ⟨v', rfl, hI', hb⟩
                        exact ⟨_, rfl, hb, ks, hI', hm⟩
                      · have e0 : val 0 = .slice (some ⟨O, 0, none⟩) c.alts.length c.alts.length := hd 0 ⟨⟨0, .data⟩, by simp, rfl, rfl⟩
                        have e1 : val 1 = .int .i64 ρ := hd 1 ⟨⟨1, .data⟩, by simp, rfl, rfl⟩
                        exact does_value (v := .pointer (some ⟨O, ρ, none⟩)) (w := w8) (exec_indexAddr rfl e0 e1 (by go_simp)) ⟨Below.refl _ _, rfl⟩
                    · intro o ho val w8 hB8 hV
                      cases ho
                      obtain ⟨ks, e14, hm⟩ : ∃ ks, IL w8 (val 14) (allW K ks) ∧ (∀ t, t ∈ ks ↔ t ∈ leadL nl fs rest) := hV 14 (by decide)
                      have e15 : val 15 = .pointer (some ⟨O, ρ, none⟩) := hV 15 (by decide)
                      have hS8 := H8.out.below hB8
                      obtain ⟨v5, hc5, hf5, _⟩ := hS8.rl.row.at_ HR.out.2.2.2
                      obtain ⟨v14, hv14⟩ : ∃ v14, v14 = val 14 := ⟨_, rfl⟩
                      rw [← hv14] at e14
                      have e14' : val 14 = v14 := hv14.symm
                      obtain ⟨A14, c14, rfl, _, _, _, _⟩ := id e14.sl
                      have hS9 := hS8.set hρl e14
                      have hft := flo_two HH.out.2.1 H2.out.2.1 (frsI_of H3.out.2.1) H7.out.2.1.out H7.out.2.2.out HAL.out HX.out.2.1 HK.out HR.out.2.1 HR.out.2.2.1 HR.out.2.2.2 (by rw [← HRe.out]; exact hm)
                      rw [← HRe.out] at hft
                      obtain ⟨K1, hK1⟩ : ∃ K1, K1 = allW K ks := ⟨_, rfl⟩
                      rw [← hK1] at hft hS9 e14'
                      have hr9 : ∀ l ∈ t4.set ρ K1, Rising l := ris_set H7.out.2.2.out (by rw [hK1]; exact allW_rising ks K (H7.out.2.2.out K (List.mem_of_getElem? HR.out.2.2.2)))
                      have hk1l : K1.length ≤ 201 := by
                        have h1 := allW_le ks K
                        have h2 := flw_setW (ys := ks) H7.out.2.1.out.1 HR.out.2.2.2 (fun t ht => by
                          have hx2 : x.take p ++ k :: x.drop (p + 1) ∈ al := by rw [← drop_at HK.out, List.take_append_drop]; exact HX.out.2.1
                          have := Flw.lead HAL.out hx2 HR.out.2.2.1 (lead_sound H2.out.2.1 (frsI_of H3.out.2.1) _ t (by rw [← HRe.out]; exact (hm t).1 ht))
                          rwa [show (-1 - k).toNat = ρ by have := HR.out.2.1; omega] at this)
                        rw [← hK1] at h2
                        have h3 := flw_bound HH.out.2.1 h2 (fun l hl => rising_nodup (hr9 l hl)) K1 (by exact List.mem_of_getElem? (List.getElem?_set_self (by have := H7.out.1.rl.len; omega)))
                        omega
                      have H9 := Lib.hid (And.intro hS9 (And.intro hft hr9))
                      clear hV e14 hS8 hv14 hm hS9 hft hr9 hK1 hB8
                      refine does_skip (w := w8.setCell ⟨O, ρ, none⟩ (.slice A14 K1.length c14)) (exec_store rfl e15 e14' (by go_simp)) ?_
                      clear hc5 hf5 e15 e14'
                      generalize w8.setCell ⟨O, ρ, none⟩ (.slice A14 K1.length c14) = w9 at *
                      simp [fillAll, List.range, List.range.loop, dstOf, Act.put]
                      obtain ⟨be, hbe⟩ : ∃ be, be = emptyP nl rest := ⟨_, rfl⟩
                      rw [← hbe] at H9
                      have HBE := Lib.hid hbe
                      clear hbe
                      go_wp2
                      refine wp_region_growLastT 6 (by kernel_rfl) (by kernel_rfl) (by kernel_rfl) (by kernel_rfl) (by kernel_rfl) (FeV N c.alts.length p (.agg #[.slice A1 c.toks.length c1, .slice A2 c.names.length c2, .slice (some ad3) c.alts.length c3]) (.slice (some adk) x.length cA) rest) FeV.below ?_ ?_
                      · intro i hi o ho val w10 hB10 hd
                        have hS10 := H9.out.1.below hB10
                        have x0 := hS10.rl.cb.cell 0 (v := .slice A1 c.toks.length c1) rfl
                        have x1 := hS10.rl.cb.cell 1 (v := .slice A2 c.names.length c2) rfl
                        have x2 := hS10.rl.cb.cell 2 (v := .slice (some ad3) c.alts.length c3) rfl
                        have : i = 0 ∨ i = 1 ∨ i = 2 ∨ i = 3 ∨ i = 4 ∨ i = 5 := by omega
                        rcases this with rfl | rfl | rfl | rfl | rfl | rfl <;> cases ho
                        · exact does_value (exec_load rfl rfl (by go_simp)) ⟨Below.refl _ _, rfl⟩
                        · exact does_value (exec_move (.inl rfl) rfl) ⟨Below.refl _ _, rfl⟩
                        · exact does_value (exec_move (.inl rfl) rfl) ⟨Below.refl _ _, rfl⟩
                        · have e2 : val 2 = .int .i64 p := hd 2 ⟨⟨2, .data⟩, by simp, rfl, rfl⟩
                          exact does_value (v := .int .i64 ((p + 1 : Nat) : Int)) (w := w10) (exec_bin (u := .int .i64 (p : Nat)) (v := .int .i64 1) rfl e2 rfl (by simp [Go.binOp, go_sem]; rw [hpp]; try simp)) ⟨Below.refl _ _, rfl⟩
                        · have e1 : val 1 = .slice (some adk) x.length cA := hd 1 ⟨⟨1, .data⟩, by simp, rfl, rfl⟩
                          have e3 : val 3 = .int .i64 ((p + 1 : Nat) : Int) := hd 3 ⟨⟨3, .data⟩, by simp, rfl, rfl⟩
                          exact does_value (v := VD) (w := w10) (exec_slice rfl e1 (l := some (.int .i64 ((p + 1 : Nat) : Int))) (congrArg some e3) (h := none) rfl (HVD.out.1 _)) ⟨Below.refl _ _, HVD.out.2 w10 (hua.out w10 hS10.rl.bl)⟩
                        · exact does_value (exec_move (.inl rfl) rfl) ⟨Below.refl _ _, rfl⟩
                      · intro o ho val w10 hB10 hV
                        cases ho
                        have e0 : val 0 = .agg #[.slice A1 c.toks.length c1, .slice A2 c.names.length c2, .slice (some ad3) c.alts.length c3] := hV 0 (by decide)
                        have e4 : Sl Ty.int w10 (val 4) rest := hV 4 (by decide)
                        have e5 : val 5 = .slice (some ⟨N, 0, none⟩) c.alts.length c.alts.length := hV 5 (by decide)
                        have hS10 := H9.out.1.below hB10
                        refine does_enter (f := 44) (args := #[.agg #[.slice A1 c.toks.length c1, .slice A2 c.names.length c2, .slice (some ad3) c.alts.length c3], val 4, .slice (some ⟨N, 0, none⟩) c.alts.length c.alts.length]) (w := w10) (exec_call rfl rfl (by simp only [List.map_toArray, List.map_cons, List.map_nil]; exact args3 e0 rfl e5) Try.func44 (by decide) rfl) ?_
                        refine (empty_calls c rest nl _ _ _ w10 (HH.out.1.below hS10.rl.bl) e4 (hS10.rl.nsl (by omega)) hS10.rl.nlen (by omega)).mono ?_
                        rintro e w11 ⟨rfl, hb11⟩
                        rw [← HBE.out]
                        refine ⟨_, rfl, ?_⟩
                        have H11 := Lib.hid (hS10.below hb11)
                        clear hV e0 e4 e5 hS10 hb11 hB10
                        simp [fillAll, List.range, List.range.loop, dstOf, Act.put]
                        cases be with
                        | false =>
                          obtain ⟨b', hb'⟩ := H9.out.2.1.1 rfl
                          go_wp2
                          exact ⟨⟨p + 1, t4.set ρ K1, b', by omega, by simp, H11.out, hb', H9.out.2.2, Below.refl _ _⟩, by simp [intOf]; omega⟩
                        | true =>
                          obtain ⟨Rr, hRr⟩ := at_lt (t4.set ρ K1) (show s < (t4.set ρ K1).length by rw [H11.out.rl.len]; exact hlt)
                          have hK1a : (t4.set ρ K1)[ρ]? = some K1 := List.getElem?_set_self (by have := H7.out.1.rl.len; omega)
                          obtain ⟨b', hb'⟩ := H9.out.2.1.2 rfl Rr hRr
                          have hRl : Rr.length ≤ 201 := by
                            by_cases e : s = ρ
                            · rw [e, hK1a] at hRr; injection hRr with hRr; rw [← hRr]; exact hk1l
                            · rw [List.getElem?_set_ne (fun e' => e e'.symm)] at hRr
                              have := (flw_bound HH.out.2.1 H7.out.2.1.out.1 (fun l hl => rising_nodup (H7.out.2.2.out l hl)) Rr (List.mem_of_getElem? hRr)).1
                              omega
                          have H12 := Lib.hid (And.intro hRr (And.intro hK1a hb'))
                          clear hRr hK1a hb'
                          go_wp2
                          refine wp_region_growLastT 12 (by kernel_rfl) (by kernel_rfl) (by kernel_rfl) (by kernel_rfl) (by kernel_rfl) (FpV O c.alts.length ρ s K1 Rr) FpV.below ?_ ?_
                          · intro i hi o ho val w12 hB12 hd
                            have hS12 := H11.out.below hB12
                            have : i = 0 ∨ i = 1 ∨ i = 2 ∨ i = 3 ∨ i = 4 ∨ i = 5 ∨ i = 6 ∨ i = 7 ∨ i = 8 ∨ i = 9 ∨ i = 10 ∨ i = 11 := by omega
                            rcases this with rfl | rfl | rfl | rfl | rfl | rfl | rfl | rfl | rfl | rfl | rfl | rfl <;> cases ho
                            · exact does_value (exec_move (.inl rfl) rfl) ⟨Below.refl _ _, rfl⟩
                            · exact does_value (exec_move (.inl rfl) rfl) ⟨Below.refl _ _, rfl⟩
                            · exact does_value (exec_move (.inl rfl) rfl) ⟨Below.refl _ _, rfl⟩
                            · exact does_value (exec_move (.inl rfl) rfl) ⟨Below.refl _ _, rfl⟩
                            · have e2 : val 2 = .slice (some ⟨O, 0, none⟩) c.alts.length c.alts.length := hd 2 ⟨⟨2, .data⟩, by simp, rfl, rfl⟩
                              have e3 : val 3 = .int .i64 ρ := hd 3 ⟨⟨3, .data⟩, by simp, rfl, rfl⟩
                              exact does_value (v := .pointer (some ⟨O, ρ, none⟩)) (w := w12) (exec_indexAddr rfl e2 e3 (by go_simp)) ⟨Below.refl _ _, rfl⟩
                            · have e4 : val 4 = .pointer (some ⟨O, ρ, none⟩) := hd 4 ⟨⟨4, .data⟩, by simp, rfl, rfl⟩
                              obtain ⟨v5, hc5, _, hi5⟩ := hS12.rl.row.at_ H12.out.2.1
                              exact does_value (exec_load rfl e4 (by go_simp)) ⟨Below.refl _ _, hi5⟩
                            · exact does_value (exec_move (.inl rfl) rfl) ⟨Below.refl _ _, rfl⟩
                            · exact does_value (exec_move (.inl rfl) rfl) ⟨Below.refl _ _, rfl⟩
                            · have e6 : val 6 = .slice (some ⟨O, 0, none⟩) c.alts.length c.alts.length := hd 6 ⟨⟨6, .data⟩, by simp, rfl, rfl⟩
                              have e7 : val 7 = .int .i64 s := hd 7 ⟨⟨7, .data⟩, by simp, rfl, rfl⟩
                              exact does_value (v := .pointer (some ⟨O, s, none⟩)) (w := w12) (exec_indexAddr rfl e6 e7 (by go_simp)) ⟨Below.refl _ _, rfl⟩
                            · have e8 : val 8 = .pointer (some ⟨O, s, none⟩) := hd 8 ⟨⟨8, .data⟩, by simp, rfl, rfl⟩
                              obtain ⟨v5, hc5, _, hi5⟩ := hS12.rl.row.at_ H12.out.1
                              exact does_value (exec_load rfl e8 (by go_simp)) ⟨Below.refl _ _, hi5⟩
                            · have e5 : IL w12 (val 5) K1 := hd 5 ⟨⟨5, .data⟩, by simp, rfl, rfl⟩
                              have e9 : IL w12 (val 9) Rr := hd 9 ⟨⟨9, .data⟩, by simp, rfl, rfl⟩
                              refine does_enter (f := 47) (args := #[val 5, val 9]) (w := w12) (exec_call rfl rfl (by simp only [List.map_toArray, List.map_cons, List.map_nil]; rfl) Try.func47 (by decide) rfl) ?_
                              refine (rall9_calls _ _ K1 Rr w12 e5 e9.sl (by omega)).mono ?_
                              rintro e w' ⟨v', rfl, hI', hb⟩
                              exact ⟨_, rfl, hb, hI'⟩
                            · have e0 : val 0 = .slice (some ⟨O, 0, none⟩) c.alts.length c.alts.length := hd 0 ⟨⟨0, .data⟩, by simp, rfl, rfl⟩
                              have e1 : val 1 = .int .i64 ρ := hd 1 ⟨⟨1, .data⟩, by simp, rfl, rfl⟩
                              exact does_value (v := .pointer (some ⟨O, ρ, none⟩)) (w := w12) (exec_indexAddr rfl e0 e1 (by go_simp)) ⟨Below.refl _ _, rfl⟩
                          · intro o ho val w12 hB12 hV
                            cases ho
                            have e10 : IL w12 (val 10) (allW K1 Rr) := hV 10 (by decide)
                            have e11 : val 11 = .pointer (some ⟨O, ρ, none⟩) := hV 11 (by decide)
                            have hS12 := H11.out.below hB12
                            obtain ⟨v5, hc5, hf5, _⟩ := hS12.rl.row.at_ H12.out.2.1
                            obtain ⟨v10, hv10⟩ : ∃ v10, v10 = val 10 := ⟨_, rfl⟩
                            rw [← hv10] at e10
                            have e10' : val 10 = v10 := hv10.symm
                            obtain ⟨A10, c10, rfl, _, _, _, _⟩ := id e10.sl
                            have hS13 := hS12.set hρl e10
                            have hr13 : ∀ l ∈ (t4.set ρ K1).set ρ (allW K1 Rr), Rising l := ris_set H9.out.2.2 (allW_rising Rr K1 (H9.out.2.2 K1 (List.mem_of_getElem? H12.out.2.1)))
                            obtain ⟨t5, ht5⟩ : ∃ t5, t5 = (t4.set ρ K1).set ρ (allW K1 Rr) := ⟨_, rfl⟩
                            have hb5 := H12.out.2.2
                            rw [← ht5] at hS13 hr13 hb5
                            have H13 := Lib.hid (And.intro hS13 (And.intro hr13 hb5))
                            clear hV e10 hS12 hv10 hS13 hr13 hb5 ht5 hB12
                            refine does_skip (w := w12.setCell ⟨O, ρ, none⟩ (.slice A10 (allW K1 Rr).length c10)) (exec_store rfl e11 e10' (by go_simp)) ?_
                            clear hc5 hf5 e11 e10'
                            generalize w12.setCell ⟨O, ρ, none⟩ (.slice A10 (allW K1 Rr).length c10) = w13 at *
                            simp [fillAll, List.range, List.range.loop, dstOf, Act.put]
                            go_wp2
                            exact ⟨⟨p + 1, t5, b', by omega, by simp, H13.out.1, H13.out.2.2, H13.out.2.1, Below.refl _ _⟩, by simp [intOf]; omega⟩
                  · have e9 : rule9 c.alts.length k = -1 := by unfold rule9; rw [if_neg (fun h => hk0 h.1)]
                    rw [e9] at hrule
                    have HR := Lib.hid (And.intro hrule hk0)
                    clear hrule hk0 e9 hkin hnm
                    go_wp2_with (go_at_call 57; refine HR.out.1.mono ?_; rintro e w7 ⟨rfl, hb7⟩; have H8 := Lib.hid (H7.out.1.below hb7); clear hb7)
                    exact ⟨⟨p + 1, t4, b4, by omega, by simp, H8.out, H7.out.2.1.out.skip HK.out (by have := HR.out.2; omega), H7.out.2.2, Below.refl _ _⟩, by simp [intOf]; omega⟩
                · have hpe : p = x.length := by omega
                  subst hpe
                  have hFl := H7.out.2.1.out
                  have hstep := H6.out.2.2.out.step (b' := b4) (t' := t4) HAL.out HX.out.1 hFl.2.1 (fun e => ⟨(hFl.2.2.1 e).1, fun j k hk => by have h := (hFl.2.2.1 e).2 j k (List.getElem?_eq_some_iff.1 hk).1 hk; exact h⟩)
                  have hFo : FoI c t4 := ⟨hFl.1, H7.out.2.2.out, hFl.2.2.2 0 _ H6.out.2.1.out.2.2⟩
                  have H8 := Lib.hid (And.intro hstep hFo)
                  clear hFl hstep hFo
                  go_wp2
                  exact ⟨⟨j + 1, t4, b4 || b3, by omega, by simp, H7.out.1, H8.out.2, H8.out.1⟩, by simp [intOf]; omega⟩
            · have hje : j = al.length := by omega
              subst hje
              go_wp2
              exact ⟨⟨s + 1, t3, b3, by omega, by simp, H6.out.1, H6.out.2.1, H6.out.2.2.out.next HAL.out⟩, by simp [intOf]; omega⟩
        · have hse : s = c.alts.length := by omega
          subst hse
          go_wp2
          go_roundg (muI c t2 * 2 + (if (T : Int) = totI t2 then 0 else 1) + 1)
          case measure =>
            have hq := HQ.out
            have hp := H5.out.2.2.out
            cases b2 with
            | true => have := hp.1 rfl; split <;> omega
            | false =>
              obtain ⟨e, _⟩ := hp.2 rfl
              subst e
              rw [if_pos (by rw [HT.out])]; omega
          case rel =>
            refine ⟨T, t2, rfl, H5.out.1, H5.out.2.1, fun e => ?_, Nat.lt_succ_self _, by unfold Ty.i64; omega⟩
            have hp := H5.out.2.2.out
            cases b2 with
            | true => exact absurd (show totI t2 = totI ls by rw [← HT.out]; omega) (muI_ne (hp.1 rfl))
            | false =>
              obtain ⟨e, h⟩ := hp.2 rfl
              rw [e]; exact h
end Go.Proofs.Ytigbfankkmmnbaa
