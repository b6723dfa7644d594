/- Follow: the walk; The program's Short: each, Short: the walks; The reference's lists of numbers: In, With, all, size, SameBools: the walks. -/
import Derived.Test.YtigbfankkmmnbaaZ15
import Derived.Test.YtigbfankkmmnbaaZ09
import Derived.Test.YtigbfankkmmnbaaZ14
import Derived.Test.YtigbfankkmmnbaaZ02
set_option linter.unusedVariables false
set_option linter.unusedSimpArgs false
namespace Go.Proofs.Ytigbfankkmmnbaa
open Go.RowKit Gk

theorem OpT.withP {w0 : World} {T P P' N R : Nat} {E : Nat → Nat} {a b : Value} {A3 : Option Addr} {c3 : Nat} {c : Cfg} {z : Value} {nl : List Bool} {fs : List (List Int)} {w : World} (h : OpT w0 T P N R E a b A3 c3 c z nl fs w) (hP : Box w P' #[.pointer (some ⟨T, 0, none⟩)] 57) (hg : w0.heap.size ≤ P') : OpT w0 T P' N R E a b A3 c3 c z nl fs w :=
  ⟨h.ld, hP, h.geT, h.geN, h.geR, hg, h.geE, h.bl⟩
theorem OpT.setZ {w0 : World} {T P N R : Nat} {E : Nat → Nat} {a b : Value} {A3 : Option Addr} {c3 : Nat} {c : Cfg} {z : Value} {nl : List Bool} {fs : List (List Int)} {w : World} (h : OpT w0 T P N R E a b A3 c3 c z nl fs w) (z' : Value) : OpT w0 T P N R E a b A3 c3 c z' nl fs (w.setCell ⟨T, 5, none⟩ z') := by
  obtain ⟨⟨n1, n2, n3, n4, n5, n6⟩, ne⟩ := h.ne
  have hk : ∀ g, g ≠ T → (w.setCell ⟨T, 5, none⟩ z').heap[g]? = w.heap[g]? := fun g hg => Below.heap_setCell w ⟨T, 5, none⟩ _ g hg
  exact ⟨⟨h.ld.tb.set 5 z', h.ld.nb.keep (hk _ n1), h.ld.row.keep (hk _ n5.symm) fun i hi => hk _ (ne i (by rw [← h.ld.flen]; exact hi)).1, h.ld.nlen, h.ld.flen⟩, h.pb.keep (hk _ n4.symm), h.geT, h.geN, h.geR, h.geP, h.geE, h.bl.setCell h.geT _⟩
/-- the region that lays the sets -/
def FolV (w0 : World) (X T n : Nat) (d : Value) (i : Nat) (v : Value) (w : World) : Prop := match i with
  | 0 => v = .pointer (some ⟨T, 0, none⟩)
  | 1 => v = .pointer (some ⟨X, 2, none⟩)
  | 2 => v = d
  | 3 => v = .int .i64 n
  | 4 => NewF w0 w v n
  | 5 => v = .pointer (some ⟨T, 0, none⟩)
  | _ => v = .pointer (some ⟨T, 5, none⟩)
theorem FolV.below {w0 : World} {X T n : Nat} {d : Value} (i : Nat) (v : Value) (w w' : World) (h : FolV w0 X T n d i v w) (k : Below w.heap.size w w') : FolV w0 X T n d i v w' := by
  unfold FolV at h ⊢
  split at h <;> first | exact h | exact h.below k
theorem flw_ris {c : Cfg} {nl : List Bool} {fs gs ls : List (List Int)} (hn : NulOk c nl) (hf : FrsI c fs) (hc : FrsC c nl fs) (hi : FlwI c gs) (hg : FlwC c nl fs gs) (h : RisAll c.alts.length (fun r t => t ∈ gs.getD r []) ls) : RisAll c.alts.length (Flw c) ls := by
  refine ⟨h.1, fun r x hx => ?_⟩
  obtain ⟨h1, h2⟩ := h.2 r x hx
  have hr : r < gs.length := by rw [hi.1, ← h.1]; exact (List.getElem?_eq_some_iff.1 hx).1
  refine ⟨h1, fun t => ?_⟩
  rw [h2 t]
  show t ∈ gs.getD r [] ↔ _
  rw [getD_some (List.getElem?_eq_getElem hr)]
  exact flw_iff hn hf hc hi hg (List.getElem?_eq_getElem hr) t
theorem clw_at {c : Cfg} {nl : List Bool} {fs gs : List (List Int)} (h : ∀ (r : Nat) al A, c.alts[r]? = some al → A ∈ al → ClW nl fs r A gs) : ∀ (r : Nat) al p k s, c.alts[r]? = some al → (p ++ k :: s) ∈ al → FlwAt nl fs gs r k s := fun r al p k s h1 h2 => by
  have := h r al _ h1 h2 p.length k (by simp)
  have e : (p ++ k :: s).drop (p.length + 1) = s := by
    rw [List.drop_append]
    have h3 : List.drop (p.length + 1) p = [] := List.drop_eq_nil_of_le (by omega)
    rw [h3, show p.length + 1 - p.length = 1 by omega]; rfl
  rw [e] at this; exact this
set_option maxRecDepth 100000 in
set_option maxHeartbeats 8000000 in
theorem pfollow_calls (c : Cfg) (v : Value) (w : World) (h : CfgV w v c) (hok : CfgOk c) (hsm : Small 200 c) (h0 : 0 < c.alts.length) : Calls Try.prog 20 #[v] w (lstEnd c.alts.length (Flw c) w) := by
  have hal : c.alts.length ≤ 200 := by have := hok.1; have := hsm.1; omega
  have htl : c.toks.length ≤ 200 := by have := hsm.1; omega
  obtain ⟨a0, b0, d0, rfl, h1, h2, h3⟩ := id h
  obtain ⟨A1, c1, rfl, _, _, _, _⟩ := id h1
  obtain ⟨A2, c2, rfl, _, _, _, _⟩ := id h2
  obtain ⟨A3, c3, rfl, hc3, hm3, hl3, hr3⟩ := id h3
  unfold LB at hl3
  have hbx := Box.new w #[.slice A1 c.toks.length c1, .slice A2 c.names.length c2, .slice A3 c.alts.length c3] 25
  have hb1 : Below w.heap.size w (w.alloc (.cells #[.slice A1 c.toks.length c1, .slice A2 c.names.length c2, .slice A3 c.alts.length c3] 25)) := (Below.refl _ _).alloc (Nat.le_refl _) _
  have ho := open_calls c _ _ A3 c3 _ (h.below hb1) hok hsm
  have hsz1 : (w.alloc (.cells #[.slice A1 c.toks.length c1, .slice A2 c.names.length c2, .slice A3 c.alts.length c3] 25)).heap.size = w.heap.size + 1 := by simp
  have hr31 := hr3.below hb1
  have HO := Lib.hid (And.intro ho (And.intro hb1 (And.intro hok (And.intro hsm (And.intro hbx hr31)))))
  clear h h1 h2 h3 hok hsm ho hb1 hbx hr31 hr3
  go_enter Try.func20, Try.ntmps20
  go_wp2_with (go_at_call 43; refine HO.out.1.mono ?_; rintro e w2 ⟨T, P0, N, R, E, nl, fs, rfl, hT, hn, hf, hc⟩; have H2 := Lib.hid (And.intro hT (And.intro hn (And.intro hf hc))); clear hT hn hf hc; have hfr := (Box.new w2 #[.pointer none] 57).frozen 0; have hcl := (Box.new w2 #[.pointer none] 57).cell 0 (v := .pointer none) rfl)
  clear hfr hcl
  have hbw : Below w2.heap.size w2 (w2.alloc (.cells #[.pointer (some ⟨T, 0, none⟩)] 57)) := (Below.refl _ _).alloc (Nat.le_refl _) _
  obtain ⟨P, hPe⟩ : ∃ P, P = w2.heap.size := ⟨_, rfl⟩
  have hPb := Box.new w2 #[.pointer (some ⟨T, 0, none⟩)] 57
  rw [← hPe] at hPb ⊢
  have hO3 := (H2.out.1.below hbw).withP hPb (by rw [hPe]; exact H2.out.1.bl.size)
  have hX3 := (HO.out.2.2.2.2.1.below H2.out.1.bl).below hbw
  have H3 := Lib.hid (And.intro hO3 hX3)
  clear hPe hPb hO3 hX3 hbw
  generalize w2.alloc (.cells #[.pointer (some ⟨T, 0, none⟩)] 57) = w3 at *
  generalize hwb : w.alloc (.cells #[.slice A1 c.toks.length c1, .slice A2 c.names.length c2, .slice A3 c.alts.length c3] 25) = wb at *
  clear hwb
  have hlt3 := Lib.hid (And.intro H3.out.1.ld.row.lt (And.intro H3.out.1.ld.tb.lt H3.out.1.bl.size))
  refine wp_region_growLastT 7 (by kernel_rfl) (by kernel_rfl) (by kernel_rfl) (by kernel_rfl) (by kernel_rfl) (FolV w3 w.heap.size T c.alts.length (.slice A3 c.alts.length c3)) FolV.below ?_ ?_
  · intro i hi o ho val w4 hB4 hd
    have hO4 := H3.out.1.below hB4
    have hX4 := H3.out.2.below hB4
    have hp4 := hO4.pb.cell 0 (v := .pointer (some ⟨T, 0, none⟩)) rfl
    have x2 := hX4.cell 2 (v := .slice A3 c.alts.length c3) rfl
    have hsz := hB4.size
    have : i = 0 ∨ i = 1 ∨ i = 2 ∨ i = 3 ∨ i = 4 ∨ i = 5 ∨ i = 6 := by omega
    rcases this with rfl | rfl | rfl | rfl | rfl | rfl | rfl <;> cases ho
    · exact does_value (exec_load rfl rfl (by go_simp)) ⟨Below.refl _ _, rfl⟩
    · exact does_value (exec_fieldAddr (vx := .pointer (some ⟨w.heap.size, 0, none⟩)) rfl rfl (by go_simp)) ⟨Below.refl _ _, rfl⟩
    · have e1 : val 1 = _ := hd 1 ⟨⟨1, .data⟩, by simp, rfl, rfl⟩
      exact does_value (exec_load rfl e1 (by go_simp)) ⟨Below.refl _ _, rfl⟩
    · have e2 : val 2 = _ := hd 2 ⟨⟨2, .data⟩, by simp, rfl, rfl⟩
      exact does_value (exec_len rfl e2 (by go_simp)) ⟨Below.refl _ _, rfl⟩
    · have e3 : val 3 = _ := hd 3 ⟨⟨3, .data⟩, by simp, rfl, rfl⟩
      refine does_enter (f := 49) (args := #[.int .i64 c.alts.length]) (w := w4) (exec_call rfl rfl (by simp only [List.map_toArray, List.map_cons, List.map_nil]; exact congrArg (fun x => #[x]) e3) Try.func49 (by decide) rfl) ?_
      refine (sets_calls c.alts.length w4 (by omega)).mono ?_
      rintro e w' ⟨rfl, hb, hS⟩
      exact ⟨_, rfl, hb, w4.heap.size, _, rfl, hS, hsz, fun i _ => by show w3.heap.size ≤ w4.heap.size + 1 + i; omega⟩
    · have e0 : val 0 = _ := hd 0 ⟨⟨0, .data⟩, by simp, rfl, rfl⟩
      exact does_value (exec_nilCheck rfl e0) ⟨Below.refl _ _, rfl⟩
    · have e5 : val 5 = _ := hd 5 ⟨⟨5, .data⟩, by simp, rfl, rfl⟩
      exact does_value (exec_fieldAddr rfl e5 (by go_simp)) ⟨Below.refl _ _, rfl⟩
  · intro o ho val w4 hB4 hV
    cases ho
    obtain ⟨G, Eg, e4, hG, hGs, hEgs⟩ := hV 4 (by decide)
    have e6 : val 6 = .pointer (some ⟨T, 5, none⟩) := hV 6 (by decide)
    have hO4 := H3.out.1.below hB4
    have hc5 := hO4.ld.tb.cell 5 (v := .slice none 0 0) rfl
    have hf5 := hO4.ld.tb.frozen 5
    have hTn := hO4.setZ (.slice (some ⟨G, 0, none⟩) c.alts.length c.alts.length)
    have hkG : ∀ d, d ≠ T → (w4.setCell ⟨T, 5, none⟩ (.slice (some ⟨G, 0, none⟩) c.alts.length c.alts.length)).heap[d]? = w4.heap[d]? := fun d hd => Below.heap_setCell w4 ⟨T, 5, none⟩ _ d hd
    have hlt := hlt3.out
    have hF : FoT wb T P N R G E Eg (.slice A1 c.toks.length c1) (.slice A2 c.names.length c2) A3 c3 c nl fs (List.replicate c.alts.length []) (w4.setCell ⟨T, 5, none⟩ (.slice (some ⟨G, 0, none⟩) c.alts.length c.alts.length)) := by
      refine ⟨hTn, hG.keep (hkG _ (by omega)) fun i hi => hkG _ (by have := hEgs i (by simpa using hi); omega), by simp, by omega, fun i hi => by have := hEgs i hi; omega, by omega, fun i j hi hj e => ?_⟩
      have h1 := hEgs i hi
      have h2 := hlt.1.2 j (by rw [H3.out.1.ld.flen]; exact hj)
      omega
    have hXn := (H3.out.2.below hB4).keep (hkG w.heap.size (by have := H3.out.1.geT; omega))
    have HF := Lib.hid (And.intro hF hXn)
    clear hV hG hO4 hTn hF hXn
    refine does_skip (w := w4.setCell ⟨T, 5, none⟩ (.slice (some ⟨G, 0, none⟩) c.alts.length c.alts.length)) (exec_store rfl e6 e4 (by go_simp)) ?_
    clear hkG hlt hc5 hf5
    generalize w4.setCell ⟨T, 5, none⟩ (.slice (some ⟨G, 0, none⟩) c.alts.length c.alts.length) = w5 at *
    simp [fillAll, List.range, List.range.loop, dstOf, Act.put, upd]
    rw [e4, e6]
    clear e4 e6
    generalize val 0 = v0; generalize val 1 = v1; generalize val 2 = v2; generalize val 3 = v3; generalize val 5 = v5
    have hp5 := HF.out.1.op.pb.cell 0 (v := .pointer (some ⟨T, 0, none⟩)) rfl
    have ht5 := HF.out.1.op.ld.tb.cell 5 (v := .slice (some ⟨G, 0, none⟩) c.alts.length c.alts.length) rfl
    have hg5 := HF.out.1.row.cell (i := 0) (by simpa using h0)
    have x0 := HF.out.2.cell 0 (v := .slice A1 c.toks.length c1) rfl
    have x2 := HF.out.2.cell 2 (v := .slice A3 c.alts.length c3) rfl
    have hS0 := HF.out.1.row.set 0 [] (by rw [List.getElem?_replicate, if_pos h0])
    have hSd : ISet (w5.drewN 1) (Eg 0) [] := hS0.keep rfl
    have htok64 : Ty.i64 (c.toks.length : Int) := by unfold Ty.i64; omega
    obtain ⟨w6, hrun6, hS6, hg6⟩ := hSd.update (t := 65) Try.underlying3 Try.underlying4 Try.underlying65 htok64 (by simp [maxLen])
    have hF6 := (HF.out.1.below (below_drewN (Below.refl _ _) 1)).set h0 hS6 hg6
    have H6 := Lib.hid hF6
    clear hS0 hSd hS6 hg6 hF6
    go_wp2
    refine wp_region_lastT 9 (by kernel_rfl) (by kernel_rfl) (by kernel_rfl) (by kernel_rfl) (by kernel_rfl) (fun j' => match j' with | 0 => .pointer (some ⟨T, 0, none⟩) | 1 => .pointer (some ⟨T, 0, none⟩) | 2 => .pointer (some ⟨T, 5, none⟩) | 3 => .slice (some ⟨G, 0, none⟩) c.alts.length c.alts.length | 4 => .pointer (some ⟨G, 0, none⟩) | 5 => .map (some (Eg 0)) | 6 => .pointer (some ⟨w.heap.size, 0, none⟩) | 7 => .slice A1 c.toks.length c1 | 8 => .int .i64 c.toks.length | _ => undef) ?_ ?_
    · intro i hi oi ho
      have : i = 0 ∨ i = 1 ∨ i = 2 ∨ i = 3 ∨ i = 4 ∨ i = 5 ∨ i = 6 ∨ i = 7 ∨ i = 8 := by omega
      rcases this with rfl | rfl | rfl | rfl | rfl | rfl | rfl | rfl | rfl <;> cases ho
      · exact exec_load rfl rfl (by go_simp)
      · rfl
      · exact exec_fieldAddr (vx := .pointer (some ⟨T, 0, none⟩)) rfl rfl (by go_simp)
      · exact exec_load rfl rfl (by go_simp)
      · exact exec_indexAddr (u := .slice (some ⟨G, 0, none⟩) c.alts.length c.alts.length) (v := .int .i64 0) rfl rfl rfl (by go_simp)
      · exact exec_load rfl rfl (by go_simp)
      · exact exec_fieldAddr (vx := .pointer (some ⟨w.heap.size, 0, none⟩)) rfl rfl (by go_simp)
      · exact exec_load rfl rfl (by go_simp)
      · exact exec_len (v := .slice A1 c.toks.length c1) rfl rfl (by go_simp)
    · intro oi ho
      cases ho
      refine does_skip (w := w6) (exec_mapUpdate rfl rfl rfl rfl hrun6) ?_
      simp [fillAll, List.range, List.range.loop, dstOf, Act.put, upd]
      have hp6 := H6.out.op.pb.cell 0 (v := .pointer (some ⟨T, 0, none⟩)) rfl
      have hfi0 : FlwI c ((List.replicate c.alts.length []).set 0 (insK (c.toks.length : Int) [])) ∧ (c.toks.length : Int) ∈ ((List.replicate c.alts.length []).set 0 (insK (c.toks.length : Int) [])).getD 0 [] := by
        have e0 : ((List.replicate c.alts.length ([] : List Int)).set 0 (insK (c.toks.length : Int) []))[0]? = some (insK (c.toks.length : Int) []) := List.getElem?_set_self (by simpa using h0)
        refine ⟨⟨by simp, fun r l hl t ht => ?_⟩, by rw [getD_some e0]; simp [insK]⟩
        by_cases e : r = 0
        · subst e
          rw [e0] at hl; injection hl with hl; subst hl
          simp [insK] at ht; subst ht; exact .start h0
        · rw [List.getElem?_set_ne (fun e' => e e'.symm), List.getElem?_replicate] at hl
          split at hl
          · injection hl with hl; subst hl; simp at ht
          · cases hl
      have hE := eachC_calls (fun gs w' => FoT wb T P N R G E Eg (.slice A1 c.toks.length c1) (.slice A2 c.names.length c2) A3 c3 c nl fs gs w' ∧ FlwI c gs ∧ (c.toks.length : Int) ∈ gs.getD 0 []) (muI c) (fun r s gs => ClW nl fs r s gs) P wb T _ _ A3 c3 c (by omega) HO.out.2.2.2.2.2
        (fun gs w' h => ⟨h.1.op.bl, _, _, _, h.1.op.ld.tb⟩) (fun gs w' r al s u h hr hs hu => (flo_calls wb T P N R G E Eg _ _ A3 c3 c HO.out.2.2.1 HO.out.2.2.2.1 nl H2.out.2.1 fs H2.out.2.2.1 gs w' r al s u ⟨h.1, h.2.1⟩ hr hs hu).mono fun e w'' ⟨t', bb, q1, q2, q3, q4, q5⟩ => ⟨t', bb, q1, ⟨q2.1, q2.2, q5 _ _ h.2.2⟩, q3, q4⟩) _ w6 ⟨H6.out, hfi0⟩
      have HE := Lib.hid hE
      clear hE hfi0
      go_wp2_with (first | (go_at_call 50; refine HE.out.mono ?_; rintro e w7 ⟨rfl, gs, ⟨hF7, hI7, hs7⟩, hC7⟩; have hp7 := hF7.op.pb.cell 0 (v := .pointer (some ⟨T, 0, none⟩)) rfl; have ht7 := hF7.op.ld.tb.cell 5 (v := .slice (some ⟨G, 0, none⟩) c.alts.length c.alts.length) rfl; have hlst := lists_calls G Eg c.alts.length gs w7 hF7.row hF7.glen (by omega) (fun k hk => by have := (flw_bound HO.out.2.2.1 hI7 hF7.row.nodup k hk).1; omega); have H7 := Lib.hid (And.intro hF7 (And.intro hI7 (And.intro hs7 (And.intro hC7 hlst)))); clear hF7 hI7 hs7 hC7 hlst) | (go_at_call 45; refine H7.out.2.2.2.2.mono ?_; rintro e w8 ⟨O, ls, rfl, hL, hr, hb8, hO8⟩))
      go_ret
      have hb20 := below2 HO.out.2.1 H7.out.1.op.bl
      exact ⟨O, ls, rfl, hL, flw_ris H2.out.2.1 H2.out.2.2.1 H2.out.2.2.2 H7.out.2.1 ⟨fun _ => H7.out.2.2.1, clw_at H7.out.2.2.2.1⟩ hr, below2 hb20 hb8, Nat.le_trans hb20.size hO8⟩
end Go.Proofs.Ytigbfankkmmnbaa
set_option linter.unusedVariables false
set_option linter.unusedSimpArgs false
namespace Go.Proofs.Ytigbfankkmmnbaa
open Go.RowKit Gk

def FixTo (c : Cfg) (out : List Int) (s : Nat) : Prop := ∀ r, r < s → ∀ m al a, out[r]? = some m → c.alts[r]? = some al → a ∈ al → m ≤ len9 out a
def Each0 (w0 : World) (T P2 P3 O : Nat) (a b d : Value) (c : Cfg) (gk : Nat) (flag : Value) (wr : World) : Prop :=
  ∃ out bb, flag = .bool bb ∧ ShS w0 T P2 P3 O a b d c out wr ∧ (bb = true → left9 out + 2 ≤ gk) ∧ Hid (bb = false → ShC c out)
def Each2 (w0 : World) (T P2 P3 O : Nat) (a b d : Value) (c : Cfg) (out1 : List Int) (i flag : Value) (wr : World) : Prop :=
  ∃ (s : Nat) (out : List Int) (bb : Bool), s ≤ c.alts.length ∧ i = .int .i64 s ∧ flag = .bool bb ∧ ShS w0 T P2 P3 O a b d c out wr ∧ Hid (bb = true → left9 out < left9 out1) ∧ Hid (bb = false → out = out1 ∧ FixTo c out1 s)
def Each4 (w0 : World) (T P2 P3 O : Nat) (a b d : Value) (c : Cfg) (out1 : List Int) (s : Nat) (al : List (List Int)) (i flag : Value) (wr : World) : Prop :=
  ∃ (j : Nat) (out : List Int) (bb : Bool), j ≤ al.length ∧ i = .int .i64 j ∧ flag = .bool bb ∧ ShS w0 T P2 P3 O a b d c out wr ∧ Hid (bb = true → left9 out < left9 out1) ∧ Hid (bb = false → out = out1 ∧ FixTo c out1 s ∧ ∀ m x, out1[s]? = some m → x ∈ al.take j → m ≤ len9 out1 x)
theorem mem_take_next {α : Type} {l : List α} {j : Nat} {a x : α} (ha : l[j]? = some a) (hx : x ∈ l.take (j + 1)) : x ∈ l.take j ∨ x = a := by
  rw [take_next ha] at hx
  simpa using hx
set_option maxRecDepth 100000 in
set_option maxHeartbeats 4000000 in
theorem each_calls (w0 : World) (T P2 P3 O : Nat) (a b : Value) (A3 : Option Addr) (c3 : Nat) (c : Cfg) (out0 : List Int) (w : World) (h : ShS w0 T P2 P3 O a b (.slice A3 c.alts.length c3) c out0 w) (hrow : Row rowsT w0 A3 c.alts) (hok : CfgOk c) (hsm : Small 200 c) :
    Calls Try.prog 50 #[.pointer (some ⟨T, 0, none⟩), .func (.func 59) #[] #[.pointer (some ⟨P2, 0, none⟩), .pointer (some ⟨P3, 0, none⟩)]] w fun e w' => e = .returned (.tuple #[]) ∧ ∃ out, ShS w0 T P2 P3 O a b (.slice A3 c.alts.length c3) c out w' ∧ ShC c out := by
  have hal : c.alts.length ≤ 200 := by have := hok.1; have := hsm.1; omega
  have HH := Lib.hid (And.intro h (And.intro hok hsm))
  clear h hok hsm
  go_enter Try.func50, Try.ntmps50
  go_wp2
  go_loopg [4] (left9 out0 + 2) (fun gk flag wr => Each0 w0 T P2 P3 O a b (.slice A3 c.alts.length c3) c gk flag wr)
  case atStart => exact ⟨out0, true, rfl, HH.out.1, fun _ => Nat.le_refl _, fun h => (by cases h)⟩
  case round =>
    obtain ⟨out1, bb, rfl, hS, hgk, hfx⟩ := hrel
    have H0 := Lib.hid (And.intro hS (And.intro hgk hfx))
    clear hS hgk hfx
    cases bb with
    | false =>
      go_wp2
      exact ⟨rfl, .tuple #[], by simp [results, Try.results50, go_sem], rfl, out1, H0.out.1, H0.out.2.2 (by first | rfl | trivial)⟩
    | true =>
      have htc := H0.out.1.tb.cell 2 (v := .slice A3 c.alts.length c3) rfl
      obtain ⟨wa, rfl⟩ : ∃ wa : World, wa = wr := ⟨_, rfl⟩
      go_wp2
      go_loopw [16, 4] (fun i flag wr => Each2 w0 T P2 P3 O a b (.slice A3 c.alts.length c3) c out1 i flag wr) (fun i _ _ => c.alts.length - (intOf i).toNat)
      case atStart => exact ⟨0, out1, false, Nat.zero_le _, rfl, rfl, H0.out.1, fun h => (by cases h), fun _ => ⟨rfl, fun r hr => absurd hr (Nat.not_lt_zero _)⟩⟩
      case round =>
        obtain ⟨s, out2, b2, hs, rfl, rfl, hS2, ht2, hf2⟩ := hrel
        have H2 := Lib.hid (And.intro hS2 (And.intro ht2 hf2))
        clear hS2 ht2 hf2
        by_cases hlt : s < c.alts.length
        · obtain ⟨al, hal1⟩ := at_lt c.alts hlt
          obtain ⟨ad3, B3, c4, rfl, hcellB, g1, g2, g3, g4⟩ := (hrow.below H2.out.1.bl).slice hal1
          have hrowB : Hid (∀ w' : World, Below w0.heap.size w0 w' → Row (Ty.slice Ty.int) w' B3 al) := by
            intro w' hb
            obtain ⟨ad0, B0, c0, e0, hcell0, _, _, _, g40⟩ := hrow.slice hal1
            injection e0 with e0
            subst e0
            have q1 := cell_far hcell0 H2.out.1.bl.block
            rw [hcellB] at q1; injection q1 with q1; injection q1 with q1 _ _
            rw [q1]; exact g40.below hb
          have HAL := Lib.hid hal1; clear hal1 g4
          obtain ⟨w3, rfl⟩ : ∃ w3 : World, w3 = wr := ⟨_, rfl⟩
          go_wp2
          go_loopw [23, 4] (fun i flag wr => Each4 w0 T P2 P3 O a b (.slice (some ad3) c.alts.length c3) c out1 s al i flag wr) (fun i _ _ => al.length - (intOf i).toNat)
          case atStart => exact ⟨0, out2, b2, Nat.zero_le _, rfl, rfl, H2.out.1, H2.out.2.1, fun h => ⟨(H2.out.2.2 h).1, (H2.out.2.2 h).2, fun m x _ hx => by simp at hx⟩⟩
          case round =>
            obtain ⟨j, out3, b3, hj, rfl, rfl, hS3, ht3, hf3⟩ := hrel
            have H3 := Lib.hid (And.intro hS3 (And.intro ht3 hf3))
            clear hS3 ht3 hf3
            by_cases hlt4 : j < al.length
            · obtain ⟨x, hx⟩ := at_lt al hlt4
              have hro : Row (Ty.slice Ty.int) wr B3 al := hrowB.out wr H3.out.1.bl
              obtain ⟨adA, BA, cA, rfl, hcellA, a1, a2, a3, a4⟩ := hro.slice hx
              have hua : Hid (Sl Ty.int wr (.slice BA x.length cA) x) := ⟨BA, cA, rfl, a1, a2, a3, a4⟩
              have hxm := List.mem_of_getElem? hx
              have hsmA := (HH.out.2.2.2 al (List.mem_of_getElem? HAL.out)).2 x hxm
              have hinA := HH.out.2.1.2 al (List.mem_of_getElem? HAL.out) x hxm
              have hnm := HH.out.2.1.1
              have hcl := clos_calls w0 T P2 P3 O a b _ c3 c out3 s al x _ wr H3.out.1 HAL.out hxm hua.out (by omega) (fun k hk hk0 => by rcases hinA k hk with h | h <;> omega) (by omega)
              have HCL := Lib.hid hcl
              have HX := Lib.hid hx
              clear hcl hx hro a4 hsmA hinA hnm hxm
              go_wp2_with (go_at_call 59; refine HCL.out.mono ?_; rintro e w5 ⟨out4, b4, rfl, hS5, ht5, hf5⟩; have H5 := Lib.hid (And.intro hS5 (And.intro ht5 hf5)); clear hS5 ht5 hf5; cases b4)
              · refine ⟨⟨j + 1, out4, b3, by omega, by simp, rfl, H5.out.1, fun h => ?_, fun h => ?_⟩, by simp [intOf]; omega⟩
                · rw [(H5.out.2.2 (by first | rfl | trivial)).1]; exact H3.out.2.1 h
                · obtain ⟨e, h1, h2⟩ := H3.out.2.2 h
                  obtain ⟨e5, h5⟩ := H5.out.2.2 (by first | rfl | trivial)
                  refine ⟨e5.trans e, h1, fun m y hm hy => ?_⟩
                  rcases mem_take_next HX.out hy with hy | rfl
                  · exact h2 m y hm hy
                  · rw [← e]; exact h5 m (by rw [e]; exact hm)
              · refine ⟨⟨j + 1, out4, true, by omega, by simp, rfl, H5.out.1, fun _ => ?_, fun h => by cases h⟩, by simp [intOf]; omega⟩
                have h1 := H5.out.2.1 (by first | rfl | trivial)
                cases b3 with
                | false => obtain ⟨e, _, _⟩ := H3.out.2.2 rfl; rw [← e]; exact h1
                | true => have := H3.out.2.1 rfl; omega
            · have hje : j = al.length := by omega
              have HJE := Lib.hid hje; clear hje
              go_wp2
              refine ⟨⟨s + 1, out3, b3, by omega, by simp, rfl, H3.out.1, H3.out.2.1, fun h => ?_⟩, by simp [intOf]; omega⟩
              obtain ⟨e, h1, h2⟩ := H3.out.2.2 h
              refine ⟨e, fun r hr m al' x hm hal' hx => ?_⟩
              by_cases hrs : r = s
              · subst hrs
                rw [HAL.out] at hal'; injection hal' with hal'; subst hal'
                exact h2 m x hm (by rw [HJE.out, List.take_length]; exact hx)
              · exact h1 r (by omega) m al' x hm hal' hx
        · have hse : s = c.alts.length := by omega
          have HSE := Lib.hid hse; clear hse
          have hgk := H0.out.2.1 (by first | rfl | trivial)
          go_wp2
          go_roundg (if b2 = true then left9 out2 + 2 else 0)
          case measure =>
            cases b2 with
            | false => simp; omega
            | true => have := H2.out.2.1 rfl; simp; omega
          case rel =>
            refine ⟨out2, b2, rfl, H2.out.1, fun hb => by rw [if_pos hb]; exact Nat.le_refl _, fun hb => ?_⟩
            obtain ⟨e, h1⟩ := H2.out.2.2 hb
            subst e
            exact fun r m al' x hm hal' hx => h1 r (by rw [HSE.out]; exact (List.getElem?_eq_some_iff.1 hal').1) m al' x hm hal' hx
theorem ilOfBox {w : World} {O n : Nat} {out : List Int} (h : Box w O (out.map (Value.int .i64)).toArray 3) (hn : out.length = n) (hl : n ≤ 100000) (hi : ∀ x ∈ out, Ty.i64 x) : IL w (.slice (some ⟨O, 0, none⟩) n n) out := by
  subst hn
  refine ⟨out.map fun x => [.int .i64 x], ⟨?_, .inr ⟨O, out.length, _, rfl, Nat.zero_le _, h, Nat.le_refl _, by simp only [maxLen]; omega, by simp; exact (Nat.mul_one _).symm, ?_⟩⟩, by simp, by unfold LB; omega, fun _ _ => trivial, fun i x hx => ⟨[.int .i64 x], by simp [hx], fun _ _ _ => ⟨rfl, hi x (List.mem_of_getElem? hx)⟩⟩⟩
  · have : ∀ l : List Int, (l.map fun x => [Value.int .i64 x]).flatten.length = l.length := by
      intro l
      induction l with
      | nil => rfl
      | cons a l ih => simp [ih]
    rw [this]; exact (Nat.mul_one _).symm
  · have : ∀ l : List Int, (l.map fun x => [Value.int .i64 x]).flatten = l.map (Value.int .i64) := by
      intro l
      induction l with
      | nil => rfl
      | cons a l ih => simp [ih]
    rw [this]
    show List.take (out.length * 1) _ = _
    rw [Nat.mul_one]
    exact List.take_of_length_le (by simp)
theorem short_prep (w : World) (a b d : Value) :
    Box ((((w.alloc (.cells #[a, b, d] 25)).alloc (.cells #[a, b, d, .slice none 0 0, .slice none 0 0, .slice none 0 0] 56)).alloc (.cells #[.pointer (some ⟨w.heap.size + 1, 0, none⟩)] 57)).alloc (.cells #[.int .i64 2147483647] 3)) (w.heap.size + 1) #[a, b, d, .slice none 0 0, .slice none 0 0, .slice none 0 0] 56 ∧
    Box ((((w.alloc (.cells #[a, b, d] 25)).alloc (.cells #[a, b, d, .slice none 0 0, .slice none 0 0, .slice none 0 0] 56)).alloc (.cells #[.pointer (some ⟨w.heap.size + 1, 0, none⟩)] 57)).alloc (.cells #[.int .i64 2147483647] 3)) (w.heap.size + 2) #[.pointer (some ⟨w.heap.size + 1, 0, none⟩)] 57 ∧
    Box ((((w.alloc (.cells #[a, b, d] 25)).alloc (.cells #[a, b, d, .slice none 0 0, .slice none 0 0, .slice none 0 0] 56)).alloc (.cells #[.pointer (some ⟨w.heap.size + 1, 0, none⟩)] 57)).alloc (.cells #[.int .i64 2147483647] 3)) (w.heap.size + 3) #[.int .i64 2147483647] 3 ∧
    Below w.heap.size w ((((w.alloc (.cells #[a, b, d] 25)).alloc (.cells #[a, b, d, .slice none 0 0, .slice none 0 0, .slice none 0 0] 56)).alloc (.cells #[.pointer (some ⟨w.heap.size + 1, 0, none⟩)] 57)).alloc (.cells #[.int .i64 2147483647] 3)) ∧
    ((((w.alloc (.cells #[a, b, d] 25)).alloc (.cells #[a, b, d, .slice none 0 0, .slice none 0 0, .slice none 0 0] 56)).alloc (.cells #[.pointer (some ⟨w.heap.size + 1, 0, none⟩)] 57)).alloc (.cells #[.int .i64 2147483647] 3)).heap.size = w.heap.size + 4 := by
  have s1 : (w.alloc (.cells #[a, b, d] 25)).heap.size = w.heap.size + 1 := by simp
  have b1 : Below w.heap.size w (w.alloc (.cells #[a, b, d] 25)) := (Below.refl _ _).alloc (Nat.le_refl _) _
  generalize w.alloc (.cells #[a, b, d] 25) = w1 at *
  have t2 := Box.new w1 #[a, b, d, .slice none 0 0, .slice none 0 0, .slice none 0 0] 56
  have s2 : (w1.alloc (.cells #[a, b, d, .slice none 0 0, .slice none 0 0, .slice none 0 0] 56)).heap.size = w.heap.size + 2 := by simp; omega
  have b2 : Below w.heap.size w (w1.alloc (.cells #[a, b, d, .slice none 0 0, .slice none 0 0, .slice none 0 0] 56)) := b1.alloc (by omega) _
  generalize w1.alloc (.cells #[a, b, d, .slice none 0 0, .slice none 0 0, .slice none 0 0] 56) = w2 at *
  have t3 := Box.new w2 #[.pointer (some ⟨w.heap.size + 1, 0, none⟩)] 57
  have t2' := t2.alloc (.cells #[.pointer (some ⟨w.heap.size + 1, 0, none⟩)] 57)
  have s3 : (w2.alloc (.cells #[.pointer (some ⟨w.heap.size + 1, 0, none⟩)] 57)).heap.size = w.heap.size + 3 := by simp; omega
  have b3 : Below w.heap.size w (w2.alloc (.cells #[.pointer (some ⟨w.heap.size + 1, 0, none⟩)] 57)) := b2.alloc (by omega) _
  generalize w2.alloc (.cells #[.pointer (some ⟨w.heap.size + 1, 0, none⟩)] 57) = w3 at *
  have t4 := Box.new w3 #[.int .i64 2147483647] 3
  rw [s1] at t2'
  rw [s2] at t3
  rw [s3] at t4
  exact ⟨t2'.alloc _, t3.alloc _, t4, b3.alloc (by omega) _, by simp; omega⟩
set_option maxRecDepth 100000 in
set_option maxHeartbeats 4000000 in
theorem short_calls (c : Cfg) (v : Value) (w : World) (h : CfgV w v c) (hok : CfgOk c) (hsm : Small 200 c) (h0 : 0 < c.alts.length) : Calls Try.prog 23 #[v] w (shortEnd c w) := by
  have hal : c.alts.length ≤ 200 := by have := hok.1; have := hsm.1; omega
  obtain ⟨a0, b0, d0, rfl, h1, h2, h3⟩ := id h
  obtain ⟨A1, c1, rfl, hc1, hm1, _, hr1⟩ := id h1
  obtain ⟨A2, c2, rfl, hc2, hm2, _, hr2⟩ := id h2
  obtain ⟨A3, c3, rfl, hc3, hm3, hl3, hr3⟩ := id h3
  have HH := Lib.hid (And.intro hok (And.intro hsm hr3))
  unfold LB at hl3
  clear h hok hsm h1 h2 h3 hr1 hr2 hr3
  go_enter Try.func23, Try.ntmps23
  obtain ⟨q1, q2, q3, q4, q5⟩ := short_prep w (.slice A1 c.toks.length c1) (.slice A2 c.names.length c2) (.slice A3 c.alts.length c3)
  have hrep := repeat_calls (w.heap.size + 3) c.alts.length 2147483647 _ q3 h0 (by omega)
  have HP := Lib.hid (And.intro q1 (And.intro q2 q4))
  clear q1 q2 q3 q4
  have HREP := Lib.hid hrep
  clear hrep
  go_wp2_with (first | (go_at_call 58; refine HREP.out.mono ?_; rintro e w5 ⟨O, rfl, hO, hOs, hb5⟩; have hOlt := hO.lt; have hb5s := hb5.size; have hT5 := (HP.out.1.below hb5).alloc (.cells #[.slice (some ⟨O, 0, none⟩) c.alts.length c.alts.length] 35); have hP5 := (HP.out.2.1.below hb5).alloc (.cells #[.slice (some ⟨O, 0, none⟩) c.alts.length c.alts.length] 35); have hp2c := hP5.cell 0 (v := .pointer (some ⟨w.heap.size + 1, 0, none⟩)) rfl; have hO5 := hO.alloc (.cells #[.slice (some ⟨O, 0, none⟩) c.alts.length c.alts.length] 35); have hSS : Hid (ShS w (w.heap.size + 1) (w.heap.size + 2) w5.heap.size O (.slice A1 c.toks.length c1) (.slice A2 c.names.length c2) (.slice A3 c.alts.length c3) c (List.replicate c.alts.length farI) (w5.alloc (.cells #[.slice (some ⟨O, 0, none⟩) c.alts.length c.alts.length] 35))) := ⟨hT5, hP5, Box.new _ _ _, by rw [List.map_replicate]; simpa [farI] using hO5, ⟨by omega, by omega, by omega⟩, (below2 HP.out.2.2 hb5).alloc (by omega) _, by omega, ShI.start c⟩; clear hO hT5 hP5 hO5) | (go_at_call 50; refine (each_calls w (w.heap.size + 1) (w.heap.size + 2) w5.heap.size O _ _ A3 c3 c _ _ hSS.out HH.out.2.2 HH.out.1 HH.out.2.1).mono ?_; rintro e w6 ⟨rfl, out, hS6, hC6⟩; have hp3c := hS6.p3.cell 0 (v := .slice (some ⟨O, 0, none⟩) c.alts.length c.alts.length) rfl))
  go_ret
  have hso := short_ok hS6.inv hC6
  refine ⟨_, out, rfl, hso, ilOfBox hS6.ob hso.1 (by omega) (fun x hx => ?_), hS6.bl⟩
  obtain ⟨i, hi⟩ := List.mem_iff_getElem?.1 hx
  have h1 := (hso.2 i x hi).nn
  have h2 := (hso.2 i x hi).le
  unfold farI at h2
  unfold Ty.i64; omega
end Go.Proofs.Ytigbfankkmmnbaa
set_option linter.unusedVariables false
set_option linter.unusedSimpArgs false
namespace Go.Proofs.Ytigbfankkmmnbaa
open Go.RowKit Gk

set_option maxRecDepth 100000 in
set_option maxHeartbeats 1000000 in
theorem in_calls (u : Value) (s : List Int) (n : Int) (w : World) (hu : Sl Ty.int w u s) (hn : Ty.i64 n) :
    Calls Try.prog 28 #[u, .int .i64 n] w fun e w' => e = .returned (.bool (decide (n ∈ s))) ∧ Drawn w w' := by
  obtain ⟨AU, cU, rfl, ku1, ku2, ku3, ku4⟩ := id hu
  unfold LB at ku3
  clear hu
  go_enter Try.func28, Try.ntmps28
  go_wp2
  go_loopw [9] (fun i wr => (∃ j : Nat, j ≤ s.length ∧ i = .int .i64 j ∧ Hid (n ∉ s.take j)) ∧ Drawn w wr) (fun i _ => s.length - (intOf i).toNat)
  case atStart => exact ⟨⟨0, Nat.zero_le _, rfl, by simp [Hid]⟩, Drawn.refl _⟩
  case round =>
    obtain ⟨⟨j, hj, rfl, hE⟩, hD⟩ := hrel
    have HE := Lib.hid hE.out
    clear hE
    have ku4r := ku4.below hD.below
    by_cases hlt : j < s.length
    · obtain ⟨k, hk⟩ := at_lt s hlt
      obtain ⟨ad, rfl, hk64, hcell⟩ := ku4r.int hk
      have HK := Lib.hid hk
      clear hk
      rcases icmp_any k n with ⟨e1, e2, e3⟩ | ⟨e1, e2, e3⟩
      · go_wp2
        go_ret
        exact ⟨ret_bool (decide_eq_true (by rw [← e3.out]; exact List.mem_of_getElem? HK.out)), hD⟩
      · go_wp2
        refine ⟨⟨⟨j + 1, by omega, by simp, ?_⟩, hD⟩, by simp [intOf]; omega⟩
        show n ∉ _
        rw [take_next HK.out, List.mem_append]
        rintro (h | h)
        · exact HE.out h
        · simp at h; exact e3.out h.symm
    · go_wp2
      go_ret
      have h := HE.out
      rw [List.take_of_length_le (by omega)] at h
      exact ⟨ret_bool (decide_eq_false h), hD⟩
def withI (l : List Int) (n : Int) : List Int := if n ∈ l then l else l.filter (fun k => decide (k < n)) ++ n :: l.filter (fun k => decide (k > n))
theorem mem_withI {l : List Int} {n t : Int} : t ∈ withI l n ↔ t ∈ l ∨ t = n := by
  unfold withI
  split
  · rename_i h
    constructor
    · exact .inl
    · rintro (h1 | rfl)
      · exact h1
      · exact h
  · rename_i h
    simp only [List.mem_append, List.mem_cons, List.mem_filter, decide_eq_true_eq]
    constructor
    · rintro (⟨h1, _⟩ | rfl | ⟨h1, _⟩)
      · exact .inl h1
      · exact .inr rfl
      · exact .inl h1
    · rintro (h1 | rfl)
      · by_cases e : t < n
        · exact .inl ⟨h1, e⟩
        · by_cases e2 : t = n
          · subst e2; exact absurd h1 h
          · exact .inr (.inr ⟨h1, by omega⟩)
      · exact .inr (.inl rfl)
theorem withI_rising {l : List Int} {n : Int} (h : Rising l) : Rising (withI l n) := by
  unfold withI
  split
  · exact h
  · refine List.pairwise_append.2 ⟨h.filter _, List.pairwise_cons.2 ⟨fun a ha => ?_, h.filter _⟩, fun a ha b hb => ?_⟩
    · have := (List.mem_filter.1 ha).2; simp at this; exact this
    · have h1 := (List.mem_filter.1 ha).2
      simp at h1
      rcases List.mem_cons.1 hb with rfl | hb
      · exact h1
      · have h2 := (List.mem_filter.1 hb).2
        simp at h2; omega
theorem withI_len (l : List Int) (n : Int) : l.length ≤ (withI l n).length ∨ ¬ Rising l := by
  by_cases h : Rising l
  · left
    exact nodup_le l (withI l n) (h.imp fun h => by omega) fun t ht => mem_withI.2 (.inl ht)
  · exact .inr h
theorem rising_nodup {l : List Int} (h : Rising l) : l.Nodup := h.imp fun h => by omega
theorem rising_same {l k : List Int} (hl : Rising l) (hk : Rising k) (hs : ∀ t ∈ l, t ∈ k) (hle : k.length ≤ l.length) : k = l := by
  refine rising_ext hk hl fun t => ⟨fun ht => ?_, hs t⟩
  refine Classical.byContradiction fun hn => ?_
  have := nodup_le (t :: l) k (List.nodup_cons.2 ⟨hn, rising_nodup hl⟩) fun x hx => by
    rcases List.mem_cons.1 hx with rfl | hx
    · exact ht
    · exact hs x hx
  simp at this; omega
theorem filter_snoc {p : Int → Bool} {s : List Int} {j : Nat} {k : Int} (hk : s[j]? = some k) : (s.take (j + 1)).filter p = (s.take j).filter p ++ (if p k then [k] else []) := by
  rw [take_next hk, List.filter_append]
  by_cases h : p k
  · simp [h]
  · simp [h]
set_option maxRecDepth 100000 in
set_option maxHeartbeats 4000000 in
theorem rwith_calls (v : Value) (l : List Int) (n : Int) (w : World) (hv : IL w v l) (hn : Ty.i64 n) (hl : l.length ≤ 100000) :
    Calls Try.prog 30 #[v, .int .i64 n] w fun e w' => ∃ v', e = .returned v' ∧ IL w' v' (withI l n) ∧ Below w.heap.size w w' := by
  obtain ⟨AU, cU, rfl, ku1, ku2, ku3, ku4⟩ := id hv.sl
  unfold LB at ku3
  have hin := in_calls _ l n w hv.sl hn
  have HV := Lib.hid hv
  clear hv
  by_cases hm : n ∈ l
  · rw [decide_eq_true hm] at hin
    have HI := Lib.hid (And.intro hin hm)
    clear hin hm
    go_enter Try.func30, Try.ntmps30
    go_wp2_with (go_at_call 28; refine HI.out.1.mono ?_; rintro e w1 ⟨rfl, hD⟩)
    go_ret
    exact ⟨_, rfl, by unfold withI; rw [if_pos HI.out.2]; exact HV.out.ki (KI.below hD.below), hD.below⟩
  · rw [decide_eq_false hm] at hin
    have HI := Lib.hid (And.intro hin hm)
    clear hin hm
    go_enter Try.func30, Try.ntmps30
    go_wp2_with (go_at_call 28; refine HI.out.1.mono ?_; rintro e w1 ⟨rfl, hD⟩; have hB1 := Lib.hid hD.below; clear hD)
    go_loopw [16, 5] (fun i o wr => (∃ j : Nat, j ≤ l.length ∧ i = .int .i64 j ∧ Own Ty.int 3 w.heap.size (fun _ => True) wr o ((l.take j).filter (fun k => decide (k < n)))) ∧ Below w.heap.size w wr) (fun i _ _ => l.length - (intOf i).toNat)
    case atStart => exact ⟨⟨0, Nat.zero_le _, rfl, Own.nil _ _ _ _ _⟩, hB1.out⟩
    case round =>
      obtain ⟨⟨j, hj, rfl, hO⟩, hB⟩ := hrel
      have ku4r := ku4.below hB
      have hsz := hB.size
      have HO := Lib.hid (And.intro hO hB)
      obtain ⟨A5, c5, rfl, o1, o2, o3, _⟩ := id hO.sl
      clear hO hB
      by_cases hlt : j < l.length
      · obtain ⟨k, hk⟩ := at_lt l hlt
        obtain ⟨ad, rfl, hk64, hcell⟩ := ku4r.int hk
        have hf := Lib.hid (filter_snoc (p := fun k => decide (k < n)) hk)
        have hfl : ((l.take j).filter (fun k => decide (k < n))).length ≤ 100000 := Nat.le_trans (List.length_filter_le _ _) (by simp; omega)
        clear hk
        obtain ⟨fl, hfe⟩ : ∃ fl, fl = (l.take j).filter (fun k => decide (k < n)) := ⟨_, rfl⟩
        rw [← hfe] at hfl hf HO o1 o3 ⊢
        have HFE := Lib.hid hfe; clear hfe
        obtain ⟨wo, rfl⟩ : ∃ wo : World, wo = wr := ⟨_, rfl⟩
        by_cases hkn : k < n
        · go_wp2_with (at_builtin; refine wpList_app (T := Ty.int) (v := .slice A5 fl.length c5) (xs := fl) (w0 := w) (W := wo) (B := w.heap.size) (D := fun _ => True) rfl (.tmp 23) (.tmp 25) 35 3 8 rfl elemInt rfl k #[.int .i64 k] wo.heap.size rfl rfl HO.out.1 (fun _ _ => trivial) (int_far _ _ _ hk64) HO.out.2 (by omega) (by omega) ?_; intro v3 w3 hO3 hB3 _ _)
          refine ⟨⟨⟨j + 1, by omega, by simp, ?_⟩, hB3⟩, by simp [intOf]; omega⟩
          rw [hf.out, if_pos (by simpa using hkn)]; exact hO3
        · go_wp2
          refine ⟨⟨⟨j + 1, by omega, by simp, ?_⟩, HO.out.2⟩, by simp [intOf]; omega⟩
          rw [hf.out, if_neg (by simpa using hkn), List.append_nil]; exact HO.out.1
      · have hje : j = l.length := by omega
        subst hje
        rw [List.take_length] at HO o1 o3 ⊢
        have hfl : (l.filter (fun k => decide (k < n))).length ≤ 100000 := Nat.le_trans (List.length_filter_le _ _) hl
        obtain ⟨fl, hfe⟩ : ∃ fl, fl = l.filter (fun k => decide (k < n)) := ⟨_, rfl⟩
        rw [← hfe] at hfl HO o1 o3 ⊢
        have HFE := Lib.hid hfe; clear hfe
        obtain ⟨wo, rfl⟩ : ∃ wo : World, wo = wr := ⟨_, rfl⟩
        go_wp2_with (at_builtin; refine wpList_app (T := Ty.int) (v := .slice A5 fl.length c5) (xs := fl) (w0 := w) (W := wo) (B := w.heap.size) (D := fun _ => True) rfl (.tmp 28) (.tmp 30) 35 3 8 rfl elemInt rfl n #[.int .i64 n] wo.heap.size rfl rfl HO.out.1 (fun _ _ => trivial) (int_far _ _ _ hn) HO.out.2 (by omega) (by omega) ?_; intro v3 w3 hO3 hB3 _ _; have H3 := Lib.hid (And.intro hO3 hB3); clear hO3 hB3)
        clear ku4r o1 o2 o3 hsz
        go_loopw [34, 5] (fun i o wr => (∃ j : Nat, j ≤ l.length ∧ i = .int .i64 j ∧ Own Ty.int 3 w.heap.size (fun _ => True) wr o (fl ++ n :: (l.take j).filter (fun k => decide (k > n)))) ∧ Below w.heap.size w wr) (fun i _ _ => l.length - (intOf i).toNat)
        case atStart => exact ⟨⟨0, Nat.zero_le _, rfl, by simpa using H3.out.1⟩, H3.out.2⟩
        case round =>
          obtain ⟨⟨j, hj, rfl, hO⟩, hB⟩ := hrel
          have ku4r := ku4.below hB
          have hsz := hB.size
          have HO2 := Lib.hid (And.intro hO hB)
          obtain ⟨A6, c6, rfl, o1, o2, o3, _⟩ := id hO.sl
          clear hO hB
          by_cases hlt : j < l.length
          · obtain ⟨k, hk⟩ := at_lt l hlt
            obtain ⟨ad, rfl, hk64, hcell⟩ := ku4r.int hk
            have hf := Lib.hid (filter_snoc (p := fun k => decide (k > n)) hk)
            have hgl : ((l.take j).filter (fun k => decide (k > n))).length ≤ 100000 := Nat.le_trans (List.length_filter_le _ _) (by simp; omega)
            clear hk
            obtain ⟨gl, hge⟩ : ∃ gl, gl = fl ++ n :: (l.take j).filter (fun k => decide (k > n)) := ⟨_, rfl⟩
            have hgl2 : gl.length ≤ 200001 := by rw [hge]; simp only [List.length_append, List.length_cons]; omega
            rw [← hge] at HO2 o1 o3 ⊢
            have HGE := Lib.hid hge; clear hge
            obtain ⟨wp, rfl⟩ : ∃ wp : World, wp = wr := ⟨_, rfl⟩
            by_cases hkn : k > n
            · go_wp2_with (at_builtin; refine wpList_app (T := Ty.int) (v := .slice A6 gl.length c6) (xs := gl) (w0 := w) (W := wp) (B := w.heap.size) (D := fun _ => True) rfl (.tmp 41) (.tmp 43) 35 3 8 rfl elemInt rfl k #[.int .i64 k] wp.heap.size rfl rfl HO2.out.1 (fun _ _ => trivial) (int_far _ _ _ hk64) HO2.out.2 (by omega) (by omega) ?_; intro v3 w3 hO3 hB3 _ _)
              refine ⟨⟨⟨j + 1, by omega, by simp, ?_⟩, hB3⟩, by simp [intOf]; omega⟩
              rw [hf.out, if_pos (by simpa using hkn)]
              rw [HGE.out, List.append_assoc] at hO3; exact hO3
            · go_wp2
              refine ⟨⟨⟨j + 1, by omega, by simp, ?_⟩, HO2.out.2⟩, by simp [intOf]; omega⟩
              rw [hf.out, if_neg (by simpa using hkn), List.append_nil, ← HGE.out]; exact HO2.out.1
          · have hje : j = l.length := by omega
            subst hje
            go_wp2
            go_ret
            refine ⟨_, rfl, ?_, HO2.out.2⟩
            have h := IL.of HO2.out.1
            rw [List.take_length] at h
            unfold withI
            rw [if_neg HI.out.2, ← HFE.out]
            simpa using h
end Go.Proofs.Ytigbfankkmmnbaa
