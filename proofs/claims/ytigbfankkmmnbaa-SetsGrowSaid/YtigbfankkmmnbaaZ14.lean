/- lists, Nullable, First, Lead: the walks; Follow: what is handed to lead: the walk; A region whose last operation waits for all others, by way of others: the others only read what is old and lay what is new. -/
import Derived.Test.YtigbfankkmmnbaaZ13
import Derived.Test.YtigbfankkmmnbaaZ08
set_option linter.unusedVariables false
set_option linter.unusedSimpArgs false
namespace Go.Proofs.Ytigbfankkmmnbaa
open Go.RowKit Gk

/-- a row of lists that were made -/
def LRow (w : World) (O : Nat) (ls : List (List Int)) : Prop := ∃ cells : Array Value, Box w O cells 35 ∧ cells.size = ls.length ∧ ∀ (i : Nat) l, ls[i]? = some l → ∃ v, cells[i]? = some v ∧ IL w v l
theorem LRow.below {w w' : World} {O : Nat} {ls : List (List Int)} (h : LRow w O ls) (k : Below w.heap.size w w') : LRow w' O ls := by
  obtain ⟨cells, h1, h2, h3⟩ := h
  exact ⟨cells, h1.below k, h2, fun i l hl => by obtain ⟨v, hv, hi⟩ := h3 i l hl; exact ⟨v, hv, hi.ki (KI.below k)⟩⟩
theorem LRow.set {w : World} {O : Nat} {ls : List (List Int)} (h : LRow w O ls) {i : Nat} (hi : i < ls.length) {v : Value} {l : List Int} (hv : IL w v l) : LRow (w.setCell ⟨O, i, none⟩ v) O (ls.set i l) := by
  obtain ⟨cells, h1, h2, h3⟩ := h
  have hk := KI.set h1 (by decide) i v
  refine ⟨cells.setIfInBounds i v, h1.set i v, by simp [h2], fun j l' hl' => ?_⟩
  by_cases e : j = i
  · subst e
    rw [List.getElem?_set_self hi] at hl'
    injection hl' with hl'; subst hl'
    exact ⟨v, by rw [Array.getElem?_setIfInBounds_self_of_lt (by omega)], hv.ki hk⟩
  · rw [List.getElem?_set_ne (fun e' => e e'.symm)] at hl'
    obtain ⟨u, hu, hb⟩ := h3 j l' hl'
    exact ⟨u, by rw [Array.getElem?_setIfInBounds_ne (fun e' => e e'.symm)]; exact hu, hb.ki hk⟩
theorem LRow.at_ {w : World} {O : Nat} {ls : List (List Int)} (h : LRow w O ls) {i : Nat} {l : List Int} (hl : ls[i]? = some l) : ∃ v, w.cell? ⟨O, i, none⟩ = some v ∧ w.frozen? ⟨O, i, none⟩ = false ∧ IL w v l := by
  obtain ⟨cells, h1, h2, h3⟩ := h
  obtain ⟨v, hv, hi⟩ := h3 i l hl
  exact ⟨v, h1.cell i hv, h1.frozen i, hi⟩
theorem LRow.lt {w : World} {O : Nat} {ls : List (List Int)} (h : LRow w O ls) : O < w.heap.size := by obtain ⟨cells, h1, _⟩ := h; exact h1.lt
theorem LRow.sl {w : World} {O : Nat} {ls : List (List Int)} {n : Nat} (h : LRow w O ls) (hn : ls.length = n) (hl : n ≤ 100000) : Sl (Ty.slice Ty.int) w (.slice (some ⟨O, 0, none⟩) n n) ls := by
  subst hn
  refine ⟨_, _, rfl, Nat.le_refl _, by simp only [maxLen]; omega, by unfold LB; omega, fun i x hx => ?_⟩
  obtain ⟨v, hv, _, hi⟩ := h.at_ hx
  refine ⟨_, [v], rfl, ⟨v, rfl, hi.sl⟩, fun j u hj => ?_⟩
  match j, hj with
  | 0, hj =>
    simp at hj; subst hj
    show w.cell? (Addr.add _ (i * 1 + 0)) = _
    rw [Addr.add_lit]; simpa using hv
theorem LRow.start (w : World) (n : Nat) : LRow (w.alloc (.cells (Array.replicate n (.slice none 0 0)) 35)) w.heap.size (List.replicate n []) := by
  refine ⟨_, Box.new _ _ _, by simp, fun i l hl => ⟨.slice none 0 0, ?_, ?_⟩⟩
  · rw [List.getElem?_replicate] at hl
    split at hl
    · rw [Array.getElem?_replicate, if_pos (by assumption)]
    · cases hl
  · rw [List.getElem?_replicate] at hl
    split at hl
    · injection hl with hl; subst hl; exact IL.nil _
    · cases hl
def lstEnd (n : Nat) (P : Nat → Int → Prop) (w : World) (e : Ending) (w' : World) : Prop :=
  ∃ O ls, e = .returned (.slice (some ⟨O, 0, none⟩) n n) ∧ LRow w' O ls ∧ RisAll n P ls ∧ Below w.heap.size w w' ∧ w.heap.size ≤ O
theorem madeNilS (n : Nat) : madeCells #[Value.slice none 0 0] (n * 1) = Array.replicate n (.slice none 0 0) := by
  apply Array.ext_getElem?
  intro j
  by_cases hj : j < n
  · simp [madeCells, hj, Nat.mod_one]
  · simp [madeCells, hj]
set_option maxRecDepth 100000 in
set_option maxHeartbeats 2000000 in
theorem lists_calls (R : Nat) (E : Nat → Nat) (n : Nat) (ks : List (List Int)) (w : World) (h : SetRow w R E ks) (hn : ks.length = n) (hl : n ≤ 1000) (hk : ∀ k ∈ ks, k.length ≤ 1000) :
    Calls Try.prog 45 #[.slice (some ⟨R, 0, none⟩) n n] w (lstEnd n (fun r t => t ∈ ks.getD r []) w) := by
  obtain ⟨i0, hi0, hz0, hzs, hzb⟩ := info_parts infoInts
  have hmk := run_makeSlice (P := Try.prog) w 32 35 i0 _ Try.underlying32 hi0 hz0 .i64 .i64 n n (by omega) (by omega) (by rw [hzs]; omega) (by rw [hzb]; omega) (by omega)
  have e0 : (madeCells (Value.slice none 0 0).cells ((n : Int).toNat * i0.size)) = Array.replicate n (.slice none 0 0) := by rw [hzs, Int.toNat_natCast]; exact madeNilS _
  rw [e0, Int.toNat_natCast] at hmk
  clear hi0 hz0 hzs hzb e0
  have hL0 := Lib.hid (LRow.start w n)
  have hb0 : Hid (Below w.heap.size w (w.alloc (.cells (Array.replicate n (.slice none 0 0)) 35))) := (Below.refl _ _).alloc (Nat.le_refl _) _
  have HH := Lib.hid (And.intro h (And.intro hn hk))
  clear h hn hk
  go_enter Try.func45, Try.ntmps45
  go_wp2
  clear hmk
  go_loopw [11] (fun i wr => ∃ (j : Nat) (ls : List (List Int)), j ≤ n ∧ i = .int .i64 j ∧ LRow wr w.heap.size ls ∧ Below w.heap.size w wr ∧ Hid (ls.length = n) ∧ Hid (∀ i x, i < j → ls[i]? = some x → Rising x ∧ ∀ t, t ∈ x ↔ t ∈ ks.getD i [])) (fun i _ => n - (intOf i).toNat)
  case atStart => exact ⟨0, _, Nat.zero_le _, rfl, hL0.out, hb0.out, by show _ = _; simp, fun i x hi _ => absurd hi (Nat.not_lt_zero _)⟩
  case round =>
    obtain ⟨j, ls, hj, rfl, hL, hb, hll, hP⟩ := hrel
    clear hL0 hb0
    have H1 := Lib.hid (And.intro hL (And.intro hb (And.intro hll hP)))
    have hS1 := Lib.hid (HH.out.1.below hb)
    have hszr := hb.size
    clear hL hb hll hP
    by_cases hlt : j < n
    · have hjk : j < ks.length := by rw [HH.out.2.1]; exact hlt
      obtain ⟨K, hK⟩ := at_lt ks hjk
      have hec := hS1.out.cell hjk
      have hris := rising_calls (E j) K wr (hS1.out.set j K hK) (HH.out.2.2 K (List.mem_of_getElem? hK))
      have HR := Lib.hid hris
      have HK := Lib.hid hK
      clear hris hK
      obtain ⟨l0, hl0⟩ := at_lt ls (show j < ls.length by have h : ls.length = n := H1.out.2.2.1; omega)
      have HL0 := Lib.hid hl0
      clear hl0
      go_wp2_with (go_at_call 56; refine HR.out.mono ?_; rintro e w5 ⟨v5, k5, rfl, hI5, hR5, hm5, hb5⟩; obtain ⟨A5, c5, rfl, _, _, _, _⟩ := id hI5.sl; have hL5 := Lib.hid (H1.out.1.below hb5); obtain ⟨v0, hc0, hf0, _⟩ := hL5.out.at_ HL0.out; have H5 := Lib.hid (And.intro hI5 (And.intro hR5 (And.intro hm5 hb5))); clear hI5 hR5 hm5 hb5)
      refine ⟨⟨j + 1, ls.set j k5, by omega, by simp, hL5.out.set (by have h : ls.length = n := H1.out.2.2.1; omega) H5.out.1, (below2 H1.out.2.1 H5.out.2.2.2).setCell (Nat.le_refl _) _, ?_, fun i x hi hx => ?_⟩, by simp [intOf]; omega⟩
      · have h : ls.length = n := H1.out.2.2.1
        show _ = _
        simpa using h
      · by_cases e : i = j
        · subst e
          rw [List.getElem?_set_self (by have h : ls.length = n := H1.out.2.2.1; omega)] at hx
          injection hx with hx; subst hx
          exact ⟨H5.out.2.1, fun t => by rw [H5.out.2.2.1 t, getD_some HK.out]⟩
        · rw [List.getElem?_set_ne (fun e' => e e'.symm)] at hx
          exact H1.out.2.2.2.out i x (by omega) hx
    · have hje : j = n := by omega
      subst hje
      go_wp2
      go_ret
      have h : ls.length = j := H1.out.2.2.1
      exact ⟨_, ls, rfl, H1.out.1, ⟨h, fun r x hx => H1.out.2.2.2.out r x (by rw [← h]; exact (List.getElem?_eq_some_iff.1 hx).1) hx⟩, H1.out.2.1, Nat.le_refl _⟩
/-- what each tells -/
def nulEnd2 (c : Cfg) (w : World) (e : Ending) (w' : World) : Prop := ∃ N nl, e = .returned (.slice (some ⟨N, 0, none⟩) c.alts.length c.alts.length) ∧ Box w' N (nl.map Value.bool).toArray 4 ∧ NulOk c nl ∧ Below w.heap.size w w'
theorem frs_ris {c : Cfg} {nl : List Bool} {fs ls : List (List Int)} (hn : NulOk c nl) (hf : FrsI c fs) (hc : FrsC c nl fs) (h : RisAll c.alts.length (fun r t => t ∈ fs.getD r []) ls) : RisAll c.alts.length (Frs c) ls := by
  refine ⟨h.1, fun r x hx => ?_⟩
  obtain ⟨h1, h2⟩ := h.2 r x hx
  have hr : r < fs.length := by rw [hf.1, ← h.1]; exact (List.getElem?_eq_some_iff.1 hx).1
  refine ⟨h1, fun t => ?_⟩
  rw [h2 t]
  show t ∈ fs.getD r [] ↔ _
  rw [getD_some (List.getElem?_eq_getElem hr)]
  exact frs_iff hn hf hc (List.getElem?_eq_getElem hr) t
theorem OpT.fbound {w0 : World} {T P N R : Nat} {E : Nat → Nat} {a b : Value} {A3 : Option Addr} {c3 : Nat} {c : Cfg} {z : Value} {nl : List Bool} {fs : List (List Int)} {w : World} (h : OpT w0 T P N R E a b A3 c3 c z nl fs w) (hok : CfgOk c) (hsm : Small 200 c) (hf : FrsI c fs) : ∀ l ∈ fs, l.length ≤ 1000 ∧ ∀ t ∈ l, 0 ≤ t ∧ t ≤ 100000 := fun l hl => by
  have := frs_bound hok hf h.ld.row.nodup l hl
  have h2 := hsm.1
  exact ⟨by omega, fun t ht => by have := this.2 t ht; omega⟩
set_option maxRecDepth 100000 in
set_option maxHeartbeats 2000000 in
theorem pnull_calls (c : Cfg) (v : Value) (w : World) (h : CfgV w v c) (hok : CfgOk c) (hsm : Small 200 c) : Calls Try.prog 15 #[v] w (nulEnd2 c w) := by
  obtain ⟨a0, b0, d0, rfl, h1, h2, h3⟩ := id h
  obtain ⟨A1, c1, rfl, _, _, _, _⟩ := id h1
  obtain ⟨A2, c2, rfl, _, _, _, _⟩ := id h2
  obtain ⟨A3, c3, rfl, _, _, _, _⟩ := id h3
  have hb1 : Below w.heap.size w (w.alloc (.cells #[.slice A1 c.toks.length c1, .slice A2 c.names.length c2, .slice A3 c.alts.length c3] 25)) := (Below.refl _ _).alloc (Nat.le_refl _) _
  have ho := open_calls c _ _ A3 c3 _ (h.below hb1) hok hsm
  have HO := Lib.hid (And.intro ho hb1)
  clear h h1 h2 h3 hok hsm ho hb1
  go_enter Try.func15, Try.ntmps15
  go_wp2_with (go_at_call 43; refine HO.out.1.mono ?_; rintro e w2 ⟨T, P, N, R, E, nl, fs, rfl, hT, hn, hf, hc⟩; have htc := hT.ld.tb.cell 3 (v := .slice (some ⟨N, 0, none⟩) c.alts.length c.alts.length) rfl; have H2 := Lib.hid (And.intro hT hn); clear hT hn hf hc)
  go_ret
  exact ⟨N, nl, rfl, H2.out.1.ld.nb, H2.out.2, below2 HO.out.2 H2.out.1.bl⟩
set_option maxRecDepth 100000 in
set_option maxHeartbeats 2000000 in
theorem pfirst_calls (c : Cfg) (v : Value) (w : World) (h : CfgV w v c) (hok : CfgOk c) (hsm : Small 200 c) : Calls Try.prog 18 #[v] w (lstEnd c.alts.length (Frs c) w) := by
  have hal : c.alts.length ≤ 200 := by have := hok.1; have := hsm.1; omega
  obtain ⟨a0, b0, d0, rfl, h1, h2, h3⟩ := id h
  obtain ⟨A1, c1, rfl, _, _, _, _⟩ := id h1
  obtain ⟨A2, c2, rfl, _, _, _, _⟩ := id h2
  obtain ⟨A3, c3, rfl, _, _, _, _⟩ := id h3
  have hb1 : Below w.heap.size w (w.alloc (.cells #[.slice A1 c.toks.length c1, .slice A2 c.names.length c2, .slice A3 c.alts.length c3] 25)) := (Below.refl _ _).alloc (Nat.le_refl _) _
  have ho := open_calls c _ _ A3 c3 _ (h.below hb1) hok hsm
  have HO := Lib.hid (And.intro ho (And.intro hb1 (And.intro hok hsm)))
  clear h h1 h2 h3 hok hsm ho hb1
  go_enter Try.func18, Try.ntmps18
  go_wp2_with (first | (go_at_call 43; refine HO.out.1.mono ?_; rintro e w2 ⟨T, P, N, R, E, nl, fs, rfl, hT, hn, hf, hc⟩; have htc := hT.ld.tb.cell 4 (v := .slice (some ⟨R, 0, none⟩) c.alts.length c.alts.length) rfl; have hlst := lists_calls R E c.alts.length fs w2 hT.ld.row hT.ld.flen (by omega) (fun k hk => (hT.fbound HO.out.2.2.1 HO.out.2.2.2 hf k hk).1); have H2 := Lib.hid (And.intro hT (And.intro hn (And.intro hf (And.intro hc hlst)))); clear hT hn hf hc hlst) | (go_at_call 45; refine H2.out.2.2.2.2.mono ?_; rintro e w3 ⟨O, ls, rfl, hL, hr, hb3, hO3⟩))
  go_ret
  have hb20 := below2 HO.out.2.1 H2.out.1.bl
  exact ⟨O, ls, rfl, hL, frs_ris H2.out.2.1 H2.out.2.2.1 H2.out.2.2.2.1 hr, below2 hb20 hb3, Nat.le_trans hb20.size hO3⟩
/-- a set in a variable -/
def JS (mv M : Nat) (xs : List Int) (F : Nat → Prop) (w : World) : Prop := Box w mv #[.map (some M)] 65 ∧ (∃ K, ISet w M K ∧ (∀ t, t ∈ K ↔ t ∈ xs) ∧ K.length ≤ xs.length) ∧ ∀ d, F d ↔ (d = mv ∨ d = M)
theorem JS.lt {mv M : Nat} {xs : List Int} {F : Nat → Prop} {w : World} (h : JS mv M xs F w) : ∀ d, F d → d < w.heap.size := by
  obtain ⟨hb, ⟨K, hS, _⟩, hF⟩ := h
  intro d hd
  rcases (hF d).1 hd with rfl | rfl
  · exact hb.lt
  · exact hS.lt
theorem JS.keep {mv M : Nat} {xs : List Int} {F : Nat → Prop} {w w' : World} (h : JS mv M xs F w) (hk : ∀ d, d < w.heap.size → F d → w'.heap[d]? = w.heap[d]?) : JS mv M xs F w' := by
  obtain ⟨hb, ⟨K, hS, h1, h2⟩, hF⟩ := h
  exact ⟨hb.keep (hk mv hb.lt ((hF mv).2 (.inl rfl))), ⟨K, hS.keep (hk M hS.lt ((hF M).2 (.inr rfl))), h1, h2⟩, hF⟩
set_option maxRecDepth 100000 in
set_option maxHeartbeats 2000000 in
theorem layL1_calls (mv M : Nat) (xs : List Int) (F : Nat → Prop) (w : World) (t : Int) (h : JS mv M xs F w) (ht : 0 ≤ t ∧ t ≤ 100000) (hx : xs.length ≤ 1000000) :
    Calls Try.prog 61 #[.int .i64 t, .pointer (some ⟨mv, 0, none⟩)] w fun e w' => e = .returned (.tuple #[]) ∧ ∃ F', JS mv M (xs ++ [t]) F' w' ∧ Fx w w' F F' := by
  obtain ⟨hb, ⟨K, hS, h1, h2⟩, hF⟩ := h
  have hne := set_ne hS hb
  have ht64 : Ty.i64 t := by unfold Ty.i64; omega
  have hc := hb.cell 0 (v := .map (some M)) rfl
  have HH := Lib.hid (And.intro hb (And.intro hS (And.intro h1 (And.intro hF hne))))
  clear hb hS h1 hF hne
  go_enter Try.func61, Try.ntmps61
  go_wp2_with (at_mapUpdate; refine wpList_put rfl rfl (.tmp 3) (.tmp 4) (.const (.bool true)) 65 3 4 M K t (.inl rfl) Try.underlying3 Try.underlying4 Try.underlying65 rfl rfl rfl ht64 HH.out.2.1 (by simp only [maxLen]; omega) ?_; intro w7 hS7 hg7)
  refine ⟨rfl, .tuple #[], by simp [results, Try.results61, go_sem], rfl, F, ⟨HH.out.1.keep (hg7.block mv HH.out.1.lt fun e => by injection e with e; exact HH.out.2.2.2.2 e.symm), ⟨_, hS7, fun y => ?_, ?_⟩, HH.out.2.2.2.1⟩, (Fx.refl w F).grown hg7 fun k e => by injection e with e; exact .inl ((HH.out.2.2.2.1 k).2 (.inr e.symm))⟩
  · rw [mem_insK, HH.out.2.2.1 y]; simp
  · have := insK_len t K; simp; omega
def leadEnd9 (c : Cfg) (s : List Int) (w : World) (e : Ending) (w' : World) : Prop := ∃ v ks be, e = .returned (.tuple #[v, .bool be]) ∧ IL w' v ks ∧ Rising ks ∧ (∀ t, t ∈ ks ↔ Ldp c s t) ∧ (be = true ↔ Gen c s []) ∧ Below w.heap.size w w'
set_option maxRecDepth 100000 in
set_option maxHeartbeats 4000000 in
theorem plead_calls (c : Cfg) (v u : Value) (s : List Int) (w : World) (h : CfgV w v c) (hok : CfgOk c) (hsm : Small 200 c) (hu : Sl Ty.int w u s) (hs0 : ∀ k ∈ s, k < c.toks.length) (hsl : s.length ≤ 200) : Calls Try.prog 26 #[v, u] w (leadEnd9 c s w) := by
  have hal : c.alts.length ≤ 200 := by have := hok.1; have := hsm.1; omega
  have htl : c.toks.length ≤ 200 := by have := hsm.1; omega
  have hs : ∀ k ∈ s, k ≤ 100000 := fun k hk => by have := hs0 k hk; omega
  have HS0 := Lib.hid (fun t h => (ldp_tok (s := s) (t := t) hok h).1) 
  have HS1 := Lib.hid (fun t h => (ldp_tok (s := s) (t := t) hok h).2 hs0)
  obtain ⟨a0, b0, d0, rfl, h1, h2, h3⟩ := id h
  obtain ⟨A1, c1, rfl, _, _, _, _⟩ := id h1
  obtain ⟨A2, c2, rfl, _, _, _, _⟩ := id h2
  obtain ⟨A3, c3, rfl, _, _, _, _⟩ := id h3
  obtain ⟨AU, cU, rfl, _, _, _, _⟩ := id hu
  have hb1 : Below w.heap.size w (w.alloc (.cells #[.slice A1 c.toks.length c1, .slice A2 c.names.length c2, .slice A3 c.alts.length c3] 25)) := (Below.refl _ _).alloc (Nat.le_refl _) _
  have ho := open_calls c _ _ A3 c3 _ (h.below hb1) hok hsm
  have HO := Lib.hid (And.intro ho (And.intro hb1 (And.intro hok (And.intro hsm (And.intro hu hs)))))
  have hmm := fun (w : World) => run_makeMap (P := Try.prog) 65 w
  clear h h1 h2 h3 hok hsm ho hb1 hu hs hs0
  go_enter Try.func26, Try.ntmps26
  go_wp2_with (go_at_call 43; refine HO.out.1.mono ?_; rintro e w2 ⟨T, P, N, R, E, nl, fs, rfl, hT, hn, hf, hc⟩; have H2 := Lib.hid (And.intro hT (And.intro hn (And.intro hf hc))); clear hT hn hf hc; have hfr := (Box.new (w2.alloc (.map #[] 0)) #[.map none] 65).frozen 0; have hcl := (Box.new (w2.alloc (.map #[] 0)) #[.map none] 65).cell 0 (v := .map none) rfl)
  have hbw3 : Below w2.heap.size w2 ((w2.alloc (.map #[] 0)).alloc (.cells #[.map (some w2.heap.size)] 65)) := ((Below.refl _ _).alloc (Nat.le_refl _) _).alloc (by simp) _
  have hsz3 : ((w2.alloc (.map #[] 0)).alloc (.cells #[.map (some w2.heap.size)] 65)).heap.size = w2.heap.size + 2 := by simp
  have hJ : JS (w2.heap.size + 1) w2.heap.size [] (fun d => d = w2.heap.size + 1 ∨ d = w2.heap.size) ((w2.alloc (.map #[] 0)).alloc (.cells #[.map (some w2.heap.size)] 65)) := by
    have hb := Box.new (w2.alloc (.map #[] 0)) #[.map (some w2.heap.size)] 65
    rw [show (w2.alloc (.map #[] 0)).heap.size = w2.heap.size + 1 by simp] at hb
    have hS : ISet (w2.alloc (.map #[] 0)) w2.heap.size [] := SetAt.new w2
    exact ⟨hb, ⟨[], hS.keep (heap_alloc_old _ _ hS.lt), by simp, by simp⟩, fun d => Iff.rfl⟩
  clear hfr hcl
  have HJ := Lib.hid (And.intro hbw3 hJ)
  clear hbw3 hJ
  generalize (w2.alloc (.map #[] 0)).alloc (.cells #[.map (some w2.heap.size)] 65) = w3 at *
  have hT3 := H2.out.1.below HJ.out.1
  have hltA := H2.out.1.ld.tb.lt
  have hltB := H2.out.1.ld.nb.lt
  have hltC := H2.out.1.ld.row.lt
  have hb20 := below2 HO.out.2.1 H2.out.1.bl
  have hb30 := below2 hb20 HJ.out.1
  have hs2 := hb20.size
  have hlead := leadB_calls (JS (w2.heap.size + 1) w2.heap.size) 0 (w2.heap.size + 1) (fun xs F w1 h => h.lt) (fun xs F w1 w' h _ _ hk => h.keep fun d hd hf => hk d hd (.inr hf)) (fun xs F w1 t h ht hx _ => layL1_calls (w2.heap.size + 1) w2.heap.size xs F w1 t h ht hx) w3 _ [] HJ.out.2 (Nat.zero_le _) HJ.out.2.lt
    T N R E _ _ A3 c.alts.length c3 _ (.slice AU s.length cU) nl fs s hT3.ld ⟨by omega, by omega, by omega, fun i hi => by have := hltC.2 i (by rw [H2.out.1.ld.flen]; exact hi); omega⟩ (by omega) (fun w' F' k => HO.out.2.2.2.2.1.below (k.to hb30 (fun d hd => by omega))) (H2.out.1.fbound HO.out.2.2.1 HO.out.2.2.2.1 H2.out.2.2.1) HO.out.2.2.2.2.2 hsl (by simp)
  have HL := Lib.hid (And.intro hlead hb30)
  clear hlead hT3 hltA hltB hltC hb20 hb30
  have hend : ∀ (F4 : Nat → Prop) (w4 : World), Fx w3 w4 (fun d => d = w2.heap.size + 1 ∨ d = w2.heap.size) F4 → Below w2.heap.size w2 w4 := fun F4 w4 k => k.to HJ.out.1 (fun d hd => by omega)
  have HE := Lib.hid hend
  clear hend
  go_wp2_with (first | (go_at_call 53; refine HL.out.1.mono ?_; rintro e w4 ⟨rfl, ys, F4, ⟨hb4, ⟨K, hS4, hK1, hK2⟩, hF4⟩, hX4, hmem, hyl⟩; simp only [List.nil_append] at hK1 hK2; have hmc := hb4.cell 0 (v := .map (some w2.heap.size)) rfl; have hT4 := H2.out.1.below (HE.out F4 w4 hX4); have hKn : K.length ≤ 1000 := (by obtain ⟨D, _, hD⟩ := hS4; have := nodup_small (n := c.toks.length) hD.nodup (fun t ht => by have h9 := lead_sound H2.out.2.1 H2.out.2.2.1 s t ((hmem t).1 ((hK1 t).1 ht)); have h8 := HS0.out t h9; have h7 := HS1.out t h9; omega); omega); have hris := rising_calls w2.heap.size K w4 hS4 hKn; have H4 := Lib.hid (And.intro hT4 (And.intro hK1 (And.intro hmem (And.intro hris (HE.out F4 w4 hX4))))); clear hb4 hS4 hK1 hF4 hX4 hmem hT4 hris) | (go_at_call 56; refine H4.out.2.2.2.1.mono ?_; rintro e w5 ⟨v5, k5, rfl, hI5, hR5, hm5, hb5⟩; obtain ⟨A5, c5, rfl, _, _, _, _⟩ := id hI5.sl; have hb25 := below2 H4.out.2.2.2.2 hb5; have hemp := emp_calls w5 T N _ _ A3 c.alts.length c3 _ _ (.slice AU s.length cU) nl s (H2.out.1.below hb25).ld.emp (by omega) (HO.out.2.2.2.2.1.below (below2 (below2 HO.out.2.1 H2.out.1.bl) hb25)); have H5 := Lib.hid (And.intro hI5 (And.intro hR5 (And.intro hm5 (And.intro hb25 hemp)))); clear hI5 hR5 hm5 hb5 hb25 hemp) | (go_at_call 55; refine H5.out.2.2.2.2.mono ?_; rintro e w6 ⟨rfl, hb6⟩))
  go_ret2
  refine ⟨_, k5, _, rfl, H5.out.1.ki (KI.below hb6), H5.out.2.1, fun t => ?_, empty_iff H2.out.2.1 s, below2 (below2 (below2 HO.out.2.1 H2.out.1.bl) H5.out.2.2.2.1) hb6⟩
  rw [H5.out.2.2.1 t, H4.out.2.1 t, H4.out.2.2.1 t]
  exact lead_iff H2.out.2.1 H2.out.2.2.1 H2.out.2.2.2 s t
end Go.Proofs.Ytigbfankkmmnbaa
set_option linter.unusedVariables false
set_option linter.unusedSimpArgs false
namespace Go.Proofs.Ytigbfankkmmnbaa
open Go.RowKit Gk

theorem exec_makeFunc {P : Program} {ρ : Operand → Value} {o : Oper} {f : FuncId} {cs : Array Operand} {A : Array Value} {w : World} (ho : o.op = .makeFunc (.func f) #[] cs) (hc : cs.map ρ = A) : (execOp ρ o).run P w = .ok (.value (.func (.func f) #[] A)) w := by
  unfold execOp
  simp only [ho, hc, Sem.run_bind, Sem.run_pure, Result.andThen_ok, Array.map_empty, List.map_toArray, List.map_nil]
  rfl
/-- the tables of a grammar, with what follows -/
structure FoT (w0 : World) (T P N R G : Nat) (E Eg : Nat → Nat) (a b : Value) (A3 : Option Addr) (c3 : Nat) (c : Cfg) (nl : List Bool) (fs gs : List (List Int)) (w : World) : Prop where
  op : OpT w0 T P N R E a b A3 c3 c (.slice (some ⟨G, 0, none⟩) c.alts.length c.alts.length) nl fs w
  row : SetRow w G Eg gs
  glen : gs.length = c.alts.length
  geG : w0.heap.size ≤ G
  geEg : ∀ i, i < c.alts.length → w0.heap.size ≤ Eg i
  neGR : G ≠ R
  neEE : ∀ i j, i < c.alts.length → j < c.alts.length → Eg i ≠ E j
section
variable {w0 : World} {T P N R G : Nat} {E Eg : Nat → Nat} {a b : Value} {A3 : Option Addr} {c3 : Nat} {c : Cfg} {nl : List Bool} {fs gs : List (List Int)} {w w' : World}
theorem FoT.below (h : FoT w0 T P N R G E Eg a b A3 c3 c nl fs gs w) (k : Below w.heap.size w w') : FoT w0 T P N R G E Eg a b A3 c3 c nl fs gs w' :=
  ⟨h.op.below k, h.row.below k, h.glen, h.geG, h.geEg, h.neGR, h.neEE⟩
theorem FoT.lt (h : FoT w0 T P N R G E Eg a b A3 c3 c nl fs gs w) : T < w.heap.size ∧ P < w.heap.size ∧ N < w.heap.size ∧ R < w.heap.size ∧ G < w.heap.size ∧ (∀ i, i < c.alts.length → E i < w.heap.size ∧ Eg i < w.heap.size) :=
  ⟨h.op.ld.tb.lt, h.op.pb.lt, h.op.ld.nb.lt, h.op.ld.row.lt.1, h.row.lt.1, fun i hi => ⟨h.op.ld.row.lt.2 i (by rw [h.op.ld.flen]; exact hi), h.row.lt.2 i (by rw [h.glen]; exact hi)⟩⟩
theorem FoT.ne (h : FoT w0 T P N R G E Eg a b A3 c3 c nl fs gs w) : ∀ i, i < c.alts.length → Eg i ≠ T ∧ Eg i ≠ P ∧ Eg i ≠ N ∧ Eg i ≠ R ∧ Eg i ≠ G := fun i hi => by
  have hs := h.row.set i _ (List.getElem?_eq_getElem (by rw [h.glen]; exact hi))
  exact ⟨set_ne hs h.op.ld.tb, set_ne hs h.op.pb, set_ne hs h.op.ld.nb, set_ne hs h.op.ld.row.box, set_ne hs h.row.box⟩
/-- one of the sets turns -/
theorem FoT.set (h : FoT w0 T P N R G E Eg a b A3 c3 c nl fs gs w) {r : Nat} (hr : r < c.alts.length) {K : List Int} (hS : ISet w' (Eg r) K) (g : w.grownBy w' (some (Eg r))) : FoT w0 T P N R G E Eg a b A3 c3 c nl fs (gs.set r K) w' := by
  obtain ⟨e1, e2, e3, e4, e5⟩ := h.ne r hr
  have hlt := h.lt
  have hk : ∀ d, d < w.heap.size → d ≠ Eg r → w'.heap[d]? = w.heap[d]? := fun d hd hn => g.block d hd fun e => by injection e with e; exact hn e
  refine ⟨⟨h.op.ld.keep (hk _ hlt.1 (Ne.symm e1)) (hk _ hlt.2.2.1 (Ne.symm e3)) (hk _ hlt.2.2.2.1 (Ne.symm e4)) fun i hi => hk _ (hlt.2.2.2.2.2 i hi).1 (Ne.symm (h.neEE r i hr hi)), h.op.pb.keep (hk _ hlt.2.1 (Ne.symm e2)), h.op.geT, h.op.geN, h.op.geR, h.op.geP, h.op.geE, h.op.bl.grown g h.op.bl.size fun k e => by injection e with e; exact e ▸ h.geEg r hr⟩, h.row.put (by rw [h.glen]; exact hr) hS g, by simpa using h.glen, h.geG, h.geEg, h.neGR, h.neEE⟩
/-- all of its blocks stay -/
theorem FoT.keepB (h : FoT w0 T P N R G E Eg a b A3 c3 c nl fs gs w) (hb : Below w0.heap.size w0 w') (hk : ∀ d, d < w.heap.size → (d = T ∨ d = P ∨ d = N ∨ d = R ∨ d = G ∨ ∃ i, i < c.alts.length ∧ (d = E i ∨ d = Eg i)) → w'.heap[d]? = w.heap[d]?) : FoT w0 T P N R G E Eg a b A3 c3 c nl fs gs w' := by
  have hlt := h.lt
  exact ⟨⟨h.op.ld.keep (hk _ hlt.1 (.inl rfl)) (hk _ hlt.2.2.1 (.inr (.inr (.inl rfl)))) (hk _ hlt.2.2.2.1 (.inr (.inr (.inr (.inl rfl))))) fun i hi => hk _ (hlt.2.2.2.2.2 i hi).1 (.inr (.inr (.inr (.inr (.inr ⟨i, hi, .inl rfl⟩))))), h.op.pb.keep (hk _ hlt.2.1 (.inr (.inl rfl))), h.op.geT, h.op.geN, h.op.geR, h.op.geP, h.op.geE, hb⟩,
    h.row.keep (hk _ hlt.2.2.2.2.1 (.inr (.inr (.inr (.inr (.inl rfl)))))) fun i hi => hk _ (hlt.2.2.2.2.2 i (by rw [← h.glen]; exact hi)).2 (.inr (.inr (.inr (.inr (.inr ⟨i, by rw [← h.glen]; exact hi, .inr rfl⟩))))), h.glen, h.geG, h.geEg, h.neGR, h.neEE⟩
end
/-- one set of those that follow, in a call of lead -/
def JF (w0 : World) (T P N R G : Nat) (E Eg : Nat → Nat) (a b : Value) (A3 : Option Addr) (c3 : Nat) (c : Cfg) (nl : List Bool) (fs gs : List (List Int)) (sv s : Nat) (K : List Int) (xs : List Int) (F : Nat → Prop) (w : World) : Prop :=
  FoT w0 T P N R G E Eg a b A3 c3 c nl fs (gs.set s (insAll K xs)) w ∧ Box w sv #[.int .i64 (s : Nat)] 3 ∧ ∀ d, F d ↔ d = Eg s
set_option maxRecDepth 100000 in
set_option maxHeartbeats 4000000 in
theorem layF11_calls (w0 : World) (T P N R G : Nat) (E Eg : Nat → Nat) (a b : Value) (A3 : Option Addr) (c3 : Nat) (c : Cfg) (nl : List Bool) (fs gs : List (List Int)) (sv s : Nat) (K xs : List Int) (F : Nat → Prop) (w : World) (t : Int)
    (h : JF w0 T P N R G E Eg a b A3 c3 c nl fs gs sv s K xs F w) (hs : s < c.alts.length) (ht : 0 ≤ t ∧ t ≤ 100000) (hx : xs.length ≤ 1000000) (hK : K.length ≤ 1000) (hcl : c.alts.length ≤ 1000) :
    Calls Try.prog 54 #[.int .i64 t, .pointer (some ⟨P, 0, none⟩), .pointer (some ⟨sv, 0, none⟩)] w fun e w' => e = .returned (.tuple #[]) ∧ ∃ F', JF w0 T P N R G E Eg a b A3 c3 c nl fs gs sv s K (xs ++ [t]) F' w' ∧ Fx w w' F F' := by
  obtain ⟨hT, hsv, hF⟩ := h
  have ht64 : Ty.i64 t := by unfold Ty.i64; omega
  have hgl : s < (gs.set s (insAll K xs)).length := by rw [hT.glen]; exact hs
  have hS := hT.row.set s (insAll K xs) (by rw [List.getElem?_set_self (by simpa using hgl)])
  have hKl := insAll_len xs K
  have hSd : ISet (w.drewN 1) (Eg s) (insAll K xs) := hS.keep rfl
  obtain ⟨w7, hrun, hS7, hg7⟩ := hSd.update (t := 65) Try.underlying3 Try.underlying4 Try.underlying65 ht64 (by simp only [maxLen]; omega)
  have hpc := hT.op.pb.cell 0 (v := .pointer (some ⟨T, 0, none⟩)) rfl
  have htc := hT.op.ld.tb.cell 5 (v := .slice (some ⟨G, 0, none⟩) c.alts.length c.alts.length) rfl
  have hsc := hsv.cell 0 (v := .int .i64 (s : Nat)) rfl
  have hgc := hT.row.cell hgl
  have hne := set_ne hS hsv
  have hTd : FoT w0 T P N R G E Eg a b A3 c3 c nl fs (gs.set s (insAll K xs)) (w.drewN 1) := hT.below (below_drewN (Below.refl _ _) 1)
  have hT7 := hTd.set hs hS7 hg7
  rw [List.set_set, ← insAll_snoc] at hT7
  have hsv7 := (hsv.keep (w' := w.drewN 1) rfl).keep (hg7.block sv hsv.lt (fun e => by injection e with e; exact hne e.symm))
  have HH := Lib.hid (And.intro hT7 (And.intro hsv7 hF))
  have hX : Fx w w7 F F := ((Fx.refl w F).below (below_drewN (Below.refl _ _) 1)).grown hg7 fun k e => by injection e with e; exact .inl ((hF k).2 e.symm)
  have HX := Lib.hid hX
  clear hT hsv hF hS hSd hS7 hg7 hne hTd hT7 hsv7 hX hKl
  go_enter Try.func54, Try.ntmps54
  go_wp2
  refine wp_region_last 8 (by kernel_rfl) (by kernel_rfl) (by kernel_rfl) (by kernel_rfl) (by kernel_rfl) (fun j => match j with | 0 => .pointer (some ⟨T, 0, none⟩) | 1 => .pointer (some ⟨T, 0, none⟩) | 2 => .pointer (some ⟨T, 5, none⟩) | 3 => .slice (some ⟨G, 0, none⟩) c.alts.length c.alts.length | 4 => .int .i64 (s : Nat) | 5 => .pointer (some ⟨G, s, none⟩) | 6 => .map (some (Eg s)) | 7 => .int .i64 t | _ => undef) ?_ ?_
  · intro i hi oi ho
    have : i = 0 ∨ i = 1 ∨ i = 2 ∨ i = 3 ∨ i = 4 ∨ i = 5 ∨ i = 6 ∨ i = 7 := by omega
    rcases this with rfl | rfl | rfl | rfl | rfl | rfl | rfl | rfl <;> cases ho
    · exact exec_load rfl rfl (by go_simp)
    · rfl
    · exact exec_fieldAddr (vx := .pointer (some ⟨T, 0, none⟩)) rfl rfl (by go_simp)
    · exact exec_load rfl rfl (by go_simp)
    · exact exec_load rfl rfl (by go_simp)
    · exact exec_indexAddr (u := .slice (some ⟨G, 0, none⟩) c.alts.length c.alts.length) (v := .int .i64 (s : Nat)) rfl rfl rfl (by go_simp)
    · exact exec_load rfl rfl (by go_simp)
    · rfl
  · intro oi ho
    cases ho
    refine does_skip (w := w7) (exec_mapUpdate rfl rfl rfl rfl hrun) ?_
    simp [fillAll, List.range, List.range.loop, dstOf, Act.put, upd]
    go_wp2
    exact ⟨rfl, .tuple #[], by simp [results, Try.results54, go_sem], rfl, F, HH.out, HX.out⟩
theorem flw_bound {c : Cfg} (hok : CfgOk c) {gs : List (List Int)} (hf : FlwI c gs) (hn : ∀ l ∈ gs, l.Nodup) : ∀ l ∈ gs, l.length ≤ c.toks.length + 1 ∧ ∀ t ∈ l, 0 ≤ t ∧ t ≤ (c.toks.length : Int) := fun l hl => by
  obtain ⟨i, hi⟩ := List.mem_iff_getElem?.1 hl
  have ht : ∀ t ∈ l, 0 ≤ t ∧ t ≤ (c.toks.length : Int) := fun t ht => flw_tok hok (hf.2 i l hi t ht)
  exact ⟨nodup_small (hn l hl) ht, ht⟩
/-- more of one set -/
theorem flw_set {c : Cfg} {gs : List (List Int)} (hf : FlwI c gs) {s : Nat} {K ys : List Int} (hK : gs[s]? = some K) (hy : ∀ t ∈ ys, Flw c s t) : FlwI c (gs.set s (insAll K ys)) := by
  refine ⟨by simpa using hf.1, fun r' l hl t ht => ?_⟩
  by_cases e : r' = s
  · subst e
    rw [List.getElem?_set_self (List.getElem?_eq_some_iff.1 hK).1] at hl
    injection hl with hl; subst hl
    rcases (mem_insAll _ _ _).1 ht with h | h
    · exact hf.2 r' K hK t h
    · exact hy t h
  · rw [List.getElem?_set_ne (fun e' => e e'.symm)] at hl
    exact hf.2 r' l hl t ht
/-- what a round of one alternative has done so far -/
def FloI (c : Cfg) (nl : List Bool) (fs : List (List Int)) (r : Nat) (al : List Int) (gs0 gs : List (List Int)) (bb : Bool) (i : Nat) : Prop :=
  FlwI c gs ∧ (bb = true → muI c gs < muI c gs0) ∧ (bb = false → gs = gs0 ∧ ∀ j k, j < i → al[j]? = some k → FlwAt nl fs gs0 r k (al.drop (j + 1))) ∧ ∀ (q : Nat) t, t ∈ gs0.getD q [] → t ∈ gs.getD q []
theorem FloI.skip {c : Cfg} {nl : List Bool} {fs : List (List Int)} {r : Nat} {al : List Int} {gs0 gs : List (List Int)} {bb : Bool} {i : Nat} (h : FloI c nl fs r al gs0 gs bb i) {k : Int} (hk : al[i]? = some k) (h0 : ¬ k < 0) : FloI c nl fs r al gs0 gs bb (i + 1) := by
  refine ⟨h.1, h.2.1, fun e => ⟨(h.2.2.1 e).1, fun j k' hj hk' => ?_⟩, h.2.2.2⟩
  by_cases e2 : j = i
  · subst e2; rw [hk] at hk'; injection hk' with hk'; subst hk'; exact fun h => absurd h h0
  · exact (h.2.2.1 e).2 j k' (by omega) hk'
end Go.Proofs.Ytigbfankkmmnbaa
set_option linter.unusedVariables false
set_option linter.unusedSimpArgs false
namespace Gk
open Go Go.RowKit
section
variable {P : Program} {Q : Exit → Act → World → Prop}
def depsOn (l : List Oper) (k i : Nat) : Bool := match l[k]? with | some o => o.after.toList.any fun e => e.on == i && Region.binds .any e | none => false
/-- what n waits for, from behind -/
def cover (l : List Oper) : Nat → List Nat → List Nat
  | 0, acc => acc
  | i + 1, acc => cover l i (if acc.any (fun k => depsOn l k i) then i :: acc else acc)
def lastAllT (l : List Oper) (n : Nat) : Bool := (List.range n).all fun i => (cover l n [n]).contains i
theorem cover_ok {l : List Oper} {n : Nat} {L : Nat → Bool} (hn : ∀ i, depsOn l n i = true → L i = true) (hc : ∀ k i, k ≠ n → L k = true → depsOn l k i = true → L i = true) : ∀ (m : Nat) (acc : List Nat), (∀ k ∈ acc, k = n ∨ L k = true) → ∀ k ∈ cover l m acc, k = n ∨ L k = true := by
  intro m
  induction m with
  | zero => intro acc h k hk; exact h k hk
  | succ m ih =>
    intro acc h k hk
    refine ih _ ?_ k hk
    intro j hj
    split at hj
    · rename_i hany
      rcases List.mem_cons.1 hj with rfl | hj
      · obtain ⟨k', hk', hd⟩ := List.any_eq_true.1 hany
        rcases h k' hk' with rfl | hL
        · exact .inr (hn _ hd)
        · by_cases e : k' = n
          · subst e; exact .inr (hn _ hd)
          · exact .inr (hc _ _ e hL hd)
      · exact h j hj
    · exact h j hj
structure GrowT (l : List Oper) (V : Nat → Value → World → Prop) (n : Nat) (w0 : World) (K : (Nat → Value) → World → Prop) (L : Nat → Bool) (val : Nat → Value) (w : World) : Prop where
  pre : L n = false → Below w0.heap.size w0 w ∧ ∀ i, i < n → L i = true → V i (val i) w
  post : L n = true → K val w
  c : L n = true → ∀ i, i < n → L i = true
  cl : ∀ k i, L k = true → depsOn l k i = true → L i = true
theorem wp_region_growLastT {id : Nat} {l : List Oper} (n : Nat) {a0 : Act} {w : World} (hn : l.length = n + 1) (hm : P.follows .mixedOrders = true) (h : regOk l.toArray a0.tmps.size = true) (hng : noGuards l = true) (hlast : lastAllT l n = true) (V : Nat → Value → World → Prop)
    (hV : ∀ i v w w', V i v w → Below w.heap.size w w' → V i v w')
    (hstep : ∀ i, i < n → ∀ o, l[i]? = some o → ∀ (val : Nat → Value) (w2 : World), Below w.heap.size w w2 → (∀ j, (∃ e ∈ o.after.toList, e.on = j ∧ Region.binds .any e = true) → V j (val j) w2) → does P ((execOp (opv l.toArray a0 val) o).run P w2) (fun v w' => Below w2.heap.size w2 w' ∧ V i v w'))
    (hl : ∀ o, l[n]? = some o → ∀ (val : Nat → Value) (w2 : World), Below w.heap.size w w2 → (∀ i, i < n → V i (val i) w2) → does P ((execOp (opv l.toArray a0 val) o).run P w2) (fun v w' => Q .normal (fillAll l.toArray (upd val n v) a0) w')) :
    (Code.region id l.toArray true).wp P Q a0 w := by
  refine wp_region_inv hm h (GrowT l V n w (fun val w' => Q .normal (fillAll l.toArray val a0) w')) (fun _ => undef) ⟨fun _ => ⟨below_drewN (Below.refl _ _) 1, fun i _ hL => by simp at hL⟩, by simp, by simp, by simp⟩ ?_ ?_
  · intro i hi o ho L val w2 hI hL hd
    have hol : l[i]? = some o := by simpa using ho
    have hil : i < l.length := hi
    rw [guard_none hng hol, if_pos (by rfl)]
    have hdeps : ∀ j, depsOn l i j = true → L j = true := fun j hj => by
      unfold depsOn at hj
      rw [hol] at hj
      obtain ⟨e, he, hb⟩ := List.any_eq_true.1 hj
      simp at hb
      have := hd e (Array.mem_toList_iff.1 he) hb.2
      rwa [hb.1] at this
    have hcl : ∀ k j, up L i k = true → depsOn l k j = true → up L i j = true := fun k j hk hj => by
      have : L j = true := by
        by_cases e : k = i
        · subst e; exact hdeps j hj
        · exact hI.cl k j (by simpa [up, e] using hk) hj
      simp [up, this]
    by_cases hin : i < n
    · have hLn : L n = false := by
        rcases hx : L n with _ | _
        · rfl
        · have := hI.c hx i hin; rw [hL] at this; cases this
      have hP := hI.pre hLn
      refine does_mono (hstep i hin o hol val w2 hP.1 fun j hj => ?_) fun v w' hv => ?_
      · obtain ⟨e, he, rfl, hb⟩ := hj
        have hlt := (regOk_at h ho).2.1 e (Array.mem_toList_iff.1 he)
        exact hP.2 _ (by omega) (hd e (Array.mem_toList_iff.1 he) hb)
      · refine ⟨fun hLn' => ⟨below2 hP.1 hv.1, fun j hj hLj => ?_⟩, fun h' => ?_, fun h' => ?_, hcl⟩
        · by_cases e : j = i
          · subst e; simpa [upd] using hv.2
          · simp only [up, e, if_false] at hLj
            have := hP.2 j hj hLj
            simpa [upd, e] using hV _ _ _ _ this hv.1
        · simp only [up, show n ≠ i by omega, if_false] at h'; rw [hLn] at h'; cases h'
        · simp only [up, show n ≠ i by omega, if_false] at h'; rw [hLn] at h'; cases h'
    · have hie : i = n := by omega
      subst hie
      have hall : ∀ j, j < i → L j = true := by
        intro j hj
        have h1 := List.all_eq_true.1 hlast j (List.mem_range.2 hj)
        have h2 := cover_ok (l := l) (n := i) (L := L) hdeps (fun k j hk h1 h2 => hI.cl k j h1 h2) i [i] (by simp) j (by simpa using h1)
        rcases h2 with h2 | h2
        · omega
        · exact h2
      have hP := hI.pre hL
      refine does_mono (hl o hol val w2 hP.1 fun j hj => hP.2 j hj (hall j hj)) fun v w' hv => ?_
      refine ⟨fun h' => ?_, fun _ => hv, fun _ j hj => ?_, hcl⟩
      · simp [up] at h'
      · simp [up, show j ≠ i by omega, hall j hj]
  · intro val w2 hI
    exact hI.post (by simp [hn])
/-- the same, where the others only read -/
theorem wp_region_lastT {id : Nat} {l : List Oper} (n : Nat) {a0 : Act} {w : World} (hn : l.length = n + 1) (hm : P.follows .mixedOrders = true) (h : regOk l.toArray a0.tmps.size = true) (hng : noGuards l = true) (hlast : lastAllT l n = true) (vals : Nat → Value)
    (hp : ∀ i, i < n → ∀ oi, l[i]? = some oi → (execOp (opv l.toArray a0 vals) oi).run P (w.drewN 1) = .ok (.value (vals i)) (w.drewN 1))
    (hl : ∀ oi, l[n]? = some oi → does P ((execOp (opv l.toArray a0 vals) oi).run P (w.drewN 1)) (fun v w' => Q .normal (fillAll l.toArray (upd vals n v) a0) w')) :
    (Code.region id l.toArray true).wp P Q a0 w := by
  refine wp_region_inv hm h (fun L val w' => LastI n vals (w.drewN 1) (fun v w' => Q .normal (fillAll l.toArray (upd vals n v) a0) w') L val w' ∧ ∀ k i, L k = true → depsOn l k i = true → L i = true) (fun _ => undef) ⟨⟨by simp, fun _ => rfl, by simp, by simp⟩, by simp⟩ ?_ ?_
  · intro i hi o ho L val w2 hI2 hL hd
    obtain ⟨hI, hIcl⟩ := hI2
    have hol : l[i]? = some o := by simpa using ho
    rw [guard_none hng hol]
    rw [if_pos (by rfl)]
    have hdeps : ∀ j, depsOn l i j = true → L j = true := fun j hj => by
      unfold depsOn at hj
      rw [hol] at hj
      obtain ⟨e, he, hb⟩ := List.any_eq_true.1 hj
      simp at hb
      have := hd e (Array.mem_toList_iff.1 he) hb.2
      rwa [hb.1] at this
    have hcl : ∀ k j, up L i k = true → depsOn l k j = true → up L i j = true := fun k j hk hj => by
      have : L j = true := by
        by_cases e : k = i
        · subst e; exact hdeps j hj
        · exact hIcl k j (by simpa [up, e] using hk) hj
      simp [up, this]
    by_cases hin : i < n
    · have hLn : L n = false := by
        rcases hx : L n with _ | _
        · rfl
        · have := hI.c hx i hin; rw [hL] at this; cases this
      have hw := hI.pre hLn
      subst hw
      have hcg : execOp (opv l.toArray a0 val) o = execOp (opv l.toArray a0 vals) o := by
        refine opv_congr (L := fun j => L j && decide (j < n)) h ho (fun e he hb => ?_) (fun j hj => ?_)
        · have hlt := (regOk_at h ho).2.1 e he
          simp [hd e he hb, show e.on < n by omega]
        · simp only [Bool.and_eq_true, decide_eq_true_eq] at hj
          exact hI.v j hj.2 hj.1
      rw [hcg]
      refine does_value (hp i hin o hol) ⟨⟨fun j hj hLj => ?_, fun _ => rfl, fun hx => ?_, fun hx => ?_⟩, hcl⟩
      · by_cases e : j = i
        · subst e; simp [upd]
        · simp only [up, e, if_false] at hLj; simp [upd, e, hI.v j hj hLj]
      · simp only [up, show n ≠ i by omega, if_false] at hx; rw [hLn] at hx; cases hx
      · simp only [up, show n ≠ i by omega, if_false] at hx; rw [hLn] at hx; cases hx
    · have hil : i < l.length := hi
      have hin : i = n := by omega
      subst hin
      have hall : ∀ j, j < i → L j = true := by
        intro j hj
        have h1 := List.all_eq_true.1 hlast j (List.mem_range.2 hj)
        have h2 := cover_ok (l := l) (n := i) (L := L) hdeps (fun k j hk h1 h2 => hIcl k j h1 h2) i [i] (by simp) j (by simpa using h1)
        rcases h2 with h2 | h2
        · omega
        · exact h2
      have hw := hI.pre hL
      subst hw
      have hcg : execOp (opv l.toArray a0 val) o = execOp (opv l.toArray a0 vals) o := by
        refine opv_congr (L := fun j => decide (j < i)) h ho (fun e he hb => ?_) (fun j hj => ?_)
        · have hlt := (regOk_at h ho).2.1 e he
          simpa using hlt
        · have hj : j < i := by simpa using hj
          exact hI.v j hj (hall j hj)
      rw [hcg]
      refine does_mono (hl o hol) fun v w' hq => ⟨⟨fun j hj _ => by simp [upd, show j ≠ i by omega, hI.v j hj (hall j hj)], fun hx => by simp [up] at hx, fun _ => by simpa [upd] using hq, fun _ j hj => by simp [up, hall j hj]⟩, hcl⟩
  · intro val w2 hI2
    obtain ⟨hI, _⟩ := hI2
    have hnl : n < l.length := by omega
    have := hI.post (by simp [hnl])
    have e : fillAll l.toArray (upd vals n (val n)) a0 = fillAll l.toArray val a0 := fillAll_congr a0 fun j hj => by
      have hj : j < l.length := by simpa using hj
      by_cases e : j = n
      · subst e; simp [upd]
      · simp [upd, e, hI.v j (by omega) (by simp [hj])]
    rw [e] at this; exact this
end
end Gk
