/- The reference's all, size, SameBools, lead: the walks; The reference's lead: the walk; All short sentences: what is reckoned, without a program. -/
import Derived.Test.YtigbfankkmmnbaaZ16
import Derived.Test.YtigbfankkmmnbaaZ12
import Derived.Test.YtigbfankkmmnbaaZ08
set_option linter.unusedVariables false
set_option linter.unusedSimpArgs false
namespace Go.Proofs.Ytigbfankkmmnbaa
open Go.RowKit Gk

def allW (l more : List Int) : List Int := more.foldl withI l
theorem mem_allW : ∀ (more l : List Int) (t : Int), t ∈ allW l more ↔ t ∈ l ∨ t ∈ more := by
  intro more
  induction more with
  | nil => intro l t; simp [allW]
  | cons y more ih => intro l t; unfold allW at ih ⊢; rw [List.foldl_cons, ih, mem_withI, List.mem_cons, or_assoc]
theorem allW_rising : ∀ (more l : List Int), Rising l → Rising (allW l more) := by
  intro more
  induction more with
  | nil => intro l h; exact h
  | cons y more ih => intro l h; exact ih _ (withI_rising h)
theorem withI_le (l : List Int) (n : Int) : (withI l n).length ≤ l.length + 1 := by
  unfold withI
  split
  · omega
  · rename_i h
    simp only [List.length_append, List.length_cons]
    have : ∀ l : List Int, (l.filter (fun k => decide (k < n))).length + (l.filter (fun k => decide (k > n))).length ≤ l.length := by
      intro l
      induction l with
      | nil => simp
      | cons a l ih =>
        simp only [List.filter_cons, List.length_cons]
        by_cases h1 : a < n
        · have h2 : ¬ a > n := by omega
          simp only [h1, h2, decide_true, decide_false, if_true, List.length_cons]
          simp only [Bool.false_eq_true, if_false] at ih ⊢
          omega
        · by_cases h2 : a > n
          · simp only [h1, h2, decide_true, decide_false, if_true, List.length_cons]
            simp only [Bool.false_eq_true, if_false] at ih ⊢
            omega
          · simp only [h1, h2, decide_false]
            simp only [Bool.false_eq_true, if_false] at ih ⊢
            omega
    have := this l
    omega
theorem allW_le : ∀ (more l : List Int), (allW l more).length ≤ l.length + more.length := by
  intro more
  induction more with
  | nil => intro l; simp [allW]
  | cons y more ih =>
    intro l
    have h1 := ih (withI l y)
    have h2 := withI_le l y
    unfold allW at h1 ⊢
    rw [List.foldl_cons]; simp only [List.length_cons]; omega
set_option maxRecDepth 100000 in
set_option maxHeartbeats 2000000 in
theorem rall9_calls (v u : Value) (l more : List Int) (w : World) (hv : IL w v l) (hu : Sl Ty.int w u more) (hl : l.length + more.length ≤ 100000) :
    Calls Try.prog 47 #[v, u] w fun e w' => ∃ v', e = .returned v' ∧ IL w' v' (allW l more) ∧ Below w.heap.size w w' := by
  obtain ⟨AU, cU, rfl, ku1, ku2, ku3, ku4⟩ := id hu
  unfold LB at ku3
  have HV := Lib.hid hv
  clear hv hu
  go_enter Try.func47, Try.ntmps47
  go_wp2
  go_loopw [9, 0] (fun i o wr => ∃ j : Nat, j ≤ more.length ∧ i = .int .i64 j ∧ IL wr o (allW l (more.take j)) ∧ Below w.heap.size w wr) (fun i _ _ => more.length - (intOf i).toNat)
  case atStart => exact ⟨0, Nat.zero_le _, rfl, HV.out, Below.refl _ _⟩
  case round =>
    obtain ⟨j, hj, rfl, hO, hB⟩ := hrel
    have ku4r := ku4.below hB
    have H1 := Lib.hid (And.intro hO hB)
    clear hO hB
    by_cases hlt : j < more.length
    · obtain ⟨k, hk⟩ := at_lt more hlt
      obtain ⟨ad, rfl, hk64, hcell⟩ := ku4r.int hk
      have h1 := allW_le (more.take j) l
      have h2 : (more.take j).length ≤ more.length := by simp; omega
      have hw := rwith_calls u0 _ k wr H1.out.1 hk64 (by omega)
      have HW := Lib.hid hw
      have HK := Lib.hid hk
      clear hw hk
      go_wp2_with (go_at_call 30; refine HW.out.mono ?_; rintro e w3 ⟨v3, rfl, hI3, hb3⟩)
      refine ⟨⟨j + 1, by omega, by simp, ?_, below2 H1.out.2 hb3⟩, by simp [intOf]; omega⟩
      have e : allW l (more.take (j + 1)) = withI (allW l (more.take j)) k := by
        unfold allW; rw [take_next HK.out, List.foldl_append]; rfl
      rw [e]; exact hI3
    · have hje : j = more.length := by omega
      subst hje
      go_wp2
      go_ret
      have h := H1.out.1
      rw [List.take_length] at h
      exact ⟨_, rfl, h, H1.out.2⟩
theorem totI_take {ls : List (List Int)} {j : Nat} {x : List Int} (h : ls[j]? = some x) : totI (ls.take (j + 1)) = totI (ls.take j) + x.length := by
  unfold totI
  rw [take_next h]; simp
set_option maxRecDepth 100000 in
set_option maxHeartbeats 2000000 in
theorem size_calls (v : Value) (ls : List (List Int)) (w : World) (hv : Sl (Ty.slice Ty.int) w v ls) (hl : ls.length ≤ 1000) (hb : ∀ l ∈ ls, l.length ≤ 100000) :
    Calls Try.prog 46 #[v] w fun e w' => e = .returned (.int .i64 (totI ls)) ∧ Drawn w w' := by
  obtain ⟨AU, cU, rfl, ku1, ku2, ku3, ku4⟩ := id hv
  unfold LB at ku3
  have HB := Lib.hid hb
  clear hv hb
  go_enter Try.func46, Try.ntmps46
  go_wp2
  go_loopw [8, 3] (fun i o wr => (∃ j q : Nat, j ≤ ls.length ∧ i = .int .i64 j ∧ o = .int .i64 q ∧ q ≤ j * 100000 ∧ Hid (q = totI (ls.take j))) ∧ Drawn w wr) (fun i _ _ => ls.length - (intOf i).toNat)
  case atStart => exact ⟨⟨0, 0, Nat.zero_le _, rfl, rfl, Nat.zero_le _, rfl⟩, Drawn.refl _⟩
  case round =>
    obtain ⟨⟨j, q, hj, rfl, rfl, hq, hE⟩, hD⟩ := hrel
    have ku4r := ku4.below hD.below
    have HE := Lib.hid (show q = totI (ls.take j) from hE)
    clear hE
    by_cases hlt : j < ls.length
    · obtain ⟨x, hx⟩ := at_lt ls hlt
      obtain ⟨ad, B, c, rfl, hc, g1, g2, g3, g4⟩ := ku4r.slice hx
      have hxl := HB.out x (List.mem_of_getElem? hx)
      have ht := Lib.hid (totI_take hx)
      clear hx g4
      go_wp2
      refine ⟨⟨⟨j + 1, q + x.length, by omega, by simp, by simp, by omega, ?_⟩, hD⟩, by simp [intOf]; omega⟩
      show _ = _
      rw [ht.out, ← HE.out]
    · have hje : j = ls.length := by omega
      subst hje
      go_wp2
      go_ret
      have h := HE.out
      rw [List.take_length] at h
      exact ⟨ret_int (by rw [h]), hD⟩
theorem bcmp_any (a b : Bool) : ((a == b) = true ∧ (a != b) = false ∧ Hid (a = b)) ∨ ((a == b) = false ∧ (a != b) = true ∧ Hid (a ≠ b)) := by
  cases a <;> cases b
  · exact .inl ⟨rfl, rfl, rfl⟩
  · exact .inr ⟨rfl, rfl, fun h => by cases h⟩
  · exact .inr ⟨rfl, rfl, fun h => by cases h⟩
  · exact .inl ⟨rfl, rfl, rfl⟩
set_option maxRecDepth 100000 in
set_option maxHeartbeats 1000000 in
theorem sameBools_calls (v u : Value) (xs ys : List Bool) (w : World) (h : Sl Ty.bool w v xs) (h' : Sl Ty.bool w u ys) :
    Calls Try.prog 14 #[v, u] w fun e w' => e = .returned (.bool (decide (xs = ys))) ∧ Drawn w w' := by
  obtain ⟨A, c, rfl, hc, hcm, hlb, hr⟩ := h
  obtain ⟨B, d, rfl, hd, hdm, hlb', hs⟩ := h'
  unfold LB at hlb hlb'
  by_cases hl : xs.length = ys.length
  · obtain ⟨q1, q2, q3, q4⟩ := cmp_eq hl
    have HL := Lib.hid hl; clear hl
    go_enter Try.func14, Try.ntmps14
    go_wp2
    go_loopw [13] (fun i w' => (∃ k : Nat, k ≤ xs.length ∧ i = .int .i64 k ∧ Hid (xs.take k = ys.take k)) ∧ Drawn w w') (fun i _ => xs.length - (intOf i).toNat)
    case atStart => exact ⟨⟨0, Nat.zero_le _, rfl, by simp [Hid]⟩, Drawn.refl _⟩
    case round =>
      obtain ⟨⟨k, hk, rfl, hH⟩, hD⟩ := hrel
      replace hr := hr.below hD.below
      replace hs := hs.below hD.below
      have hL := HL.out
      by_cases hlt : k < xs.length
      · have hlt2 : k < ys.length := by omega
        obtain ⟨x, hx⟩ := at_lt xs hlt
        obtain ⟨y, hy⟩ := at_lt ys hlt2
        obtain ⟨ad, rfl, hcell⟩ := hr.bool hx
        obtain ⟨bd, rfl, hcell2⟩ := hs.bool hy
        have HX := Lib.hid hx; clear hx
        have HY := Lib.hid hy; clear hy
        clear hL
        rcases bcmp_any x y with ⟨hb, hb2, HE⟩ | ⟨hb, hb2, HE⟩
        · go_wp2
          go_quiet (fail)
          go_wp2
          go_roundw
          case rel => exact ⟨⟨k + 1, by omega, by go_num, by
            have e := HE.out; subst e
            exact take_same HX.out HY.out hH⟩, hD.more _⟩
          case measure => simp [intOf]; omega
        · go_wp2
          go_quiet (fail)
          go_wp2
          go_ret
          exact ⟨ret_bool (decide_eq_false (ne_at HX.out HY.out HE.out)), hD.more _⟩
      · have hH2 := Lib.hid hH; clear hH hL
        go_wp2
        go_ret
        exact ⟨ret_bool (decide_eq_true (eq_all HL.out hlt hH2.out)), hD⟩
  · obtain ⟨q1, q2, q3, q4⟩ := cmp_ne hl
    have HL := Lib.hid hl; clear hl
    go_enter Try.func14, Try.ntmps14
    go_wp2
    go_ret
    exact ⟨ret_bool (decide_eq_false fun e => HL.out (by rw [e])), Drawn.refl _⟩
end Go.Proofs.Ytigbfankkmmnbaa
set_option linter.unusedVariables false
set_option linter.unusedSimpArgs false
namespace Go.Proofs.Ytigbfankkmmnbaa
open Go.RowKit Gk

def rleadEnd (nl : List Bool) (fs : List (List Int)) (s : List Int) (w : World) (e : Ending) (w' : World) : Prop :=
  ∃ v ks, e = .returned v ∧ IL w' v ks ∧ Rising ks ∧ (∀ t, t ∈ ks ↔ t ∈ leadL nl fs s) ∧ ks.length ≤ s.length * 400 ∧ Below w.heap.size w w'
set_option maxRecDepth 100000 in
set_option maxHeartbeats 4000000 in
theorem rlead_calls (c : Cfg) (s : List Int) (nl : List Bool) (fs : List (List Int)) (v u nv kv : Value) (w : World) (h : CfgV w v c) (hu : Sl Ty.int w u s) (hnv : Sl Ty.bool w nv nl) (hkv : Sl (Ty.slice Ty.int) w kv fs) (hnl : nl.length = c.alts.length) (hfl : fs.length = c.alts.length) (hal : c.alts.length ≤ 1000) (hb : ∀ l ∈ fs, l.length ≤ 300) (hsl : s.length ≤ 200) :
    Calls Try.prog 48 #[v, u, nv, kv] w (rleadEnd nl fs s w) := by
  obtain ⟨a0, b0, d0, rfl, h1, h2, h3⟩ := id h
  obtain ⟨A1, c1, rfl, hc1, hm1, hl1, hr1⟩ := id h1
  obtain ⟨A2, c2, rfl, hc2, hm2, hl2, hr2⟩ := id h2
  obtain ⟨A3, c3, rfl, hc3, hm3, hl3, hr3⟩ := id h3
  obtain ⟨AU, cU, rfl, ku1, ku2, ku3, ku4⟩ := id hu
  obtain ⟨AN, cN, rfl, kn1, kn2, kn3, kn4⟩ := id hnv
  obtain ⟨AK, cK, rfl, kk1, kk2, kk3, kk4⟩ := id hkv
  unfold LB at ku3 kn3 kk3
  have hB1 := Box.new w #[.slice A1 c.toks.length c1, .slice A2 c.names.length c2, .slice A3 c.alts.length c3] 25
  have hb1 : Below w.heap.size w (w.alloc (.cells #[.slice A1 c.toks.length c1, .slice A2 c.names.length c2, .slice A3 c.alts.length c3] 25)) := (Below.refl _ _).alloc (Nat.le_refl _) _
  have HLEN := Lib.hid (And.intro hnl (And.intro hfl hb))
  have HB := Lib.hid (And.intro hB1 hb1)
  clear h h1 h2 h3 hu hnv hkv hr1 hr2 hr3 hnl hfl hb hB1 hb1
  go_enter Try.func48, Try.ntmps48
  go_wp2
  generalize w.alloc (.cells #[.slice A1 c.toks.length c1, .slice A2 c.names.length c2, .slice A3 c.alts.length c3] 25) = wb at *
  go_loopw [15, 9] (fun i o wr => ∃ (n : Nat) (ks pre : List Int), n ≤ s.length ∧ i = .int .i64 n ∧ IL wr o ks ∧ Below wb.heap.size wb wr ∧ Hid (Rising ks) ∧ Hid (leadL nl fs s = pre ++ leadL nl fs (s.drop n)) ∧ Hid (∀ t, t ∈ ks ↔ t ∈ pre) ∧ ks.length ≤ n * 400) (fun i _ _ => s.length - (intOf i).toNat)
  case atStart => exact ⟨0, [], [], Nat.zero_le _, rfl, IL.nil _, Below.refl _ _, List.Pairwise.nil, by simp [Hid], fun t => Iff.rfl, Nat.le_refl _⟩
  case round =>
    obtain ⟨n, ks, pre, hn, rfl, hI, hB, hR, hP, hM, hkl⟩ := hrel
    have hwr := below2 HB.out.2 hB
    have ku4r := ku4.below hwr
    have kn4r := kn4.below hwr
    have kk4r := kk4.below hwr
    have hbr := HB.out.1.below hB
    have x0 := hbr.cell 0 (v := .slice A1 c.toks.length c1) rfl
    have x1 := hbr.cell 1 (v := .slice A2 c.names.length c2) rfl
    have x2 := hbr.cell 2 (v := .slice A3 c.alts.length c3) rfl
    have H1 := Lib.hid (And.intro hI (And.intro hB (And.intro hR (And.intro hP (And.intro hM hwr)))))
    obtain ⟨AI, cI, rfl, _, _, _, _⟩ := id hI.sl
    clear hI hB hR hP hM hwr hbr
    by_cases hlt : n < s.length
    · obtain ⟨k, hk⟩ := at_lt s hlt
      obtain ⟨ad, rfl, hk64, hcell⟩ := ku4r.int hk
      have hdrop := drop_at hk
      have HD := Lib.hid hdrop
      have hrule := rule9_calls A1 A2 A3 c.toks.length c.names.length c.alts.length c1 c2 c3 k wr hk64 (by omega)
      clear hk hdrop
      by_cases hr : k < 0 ∧ -1 - k < (c.alts.length : Int)
      · obtain ⟨r, hr'⟩ : ∃ r : Nat, -1 - k = r := ⟨(-1 - k).toNat, by omega⟩
        have hrn : r < c.alts.length := by omega
        have e9 : rule9 c.alts.length k = r := by unfold rule9; rw [if_pos hr]; exact hr'
        rw [e9] at hrule
        obtain ⟨b, hbb⟩ := at_lt nl (show r < nl.length by rw [HLEN.out.1]; exact hrn)
        obtain ⟨K, hK⟩ := at_lt fs (show r < fs.length by rw [HLEN.out.2.1]; exact hrn)
        have hKl := HLEN.out.2.2 K (List.mem_of_getElem? hK)
        have hll := Lib.hid (fun s => leadL_rule (s := s) hr.1 hr' (by rw [HLEN.out.1]; exact hrn) hK hbb)
        obtain ⟨adn, e1, hcn⟩ := kn4r.bool hbb
        subst e1
        obtain ⟨adk, BK, ck, e2, hck, y1, y2, y3, y4⟩ := kk4r.slice hK
        subst e2
        have hKs : ∀ w', Below wr.heap.size wr w' → Sl Ty.int w' (.slice BK K.length ck) K := fun w' hb => ⟨BK, ck, rfl, y1, y2, y3, y4.below hb⟩
        have HRU := Lib.hid (And.intro hrule hKs)
        have hrlt : r < nl.length := by rw [HLEN.out.1]; exact hrn
        have hrlt2 : r < fs.length := by rw [HLEN.out.2.1]; exact hrn
        have hneg : decide ((r : Int) < 0) = false := decide_eq_false (by omega)
        clear hrule hKs hr hr' hK hbb e9 y4
        cases b with
        | true =>
          go_wp2_with (first | (go_at_call 57; refine HRU.out.1.mono ?_; rintro e w3 ⟨rfl, hb3⟩; have hcn3 := cell_far hcn hb3.block; have hck3 := cell_far hck hb3.block; have hall := rall9_calls _ _ ks K w3 (H1.out.1.ki (KI.below hb3)) (HRU.out.2 w3 hb3) (by omega); have H3 := Lib.hid (And.intro hall hb3); clear hall hb3) | (go_at_call 47; refine H3.out.1.mono ?_; rintro e w4 ⟨v4, rfl, hI4, hb4⟩; have hcn4 := cell_far hcn3 hb4.block))
          refine ⟨⟨n + 1, allW ks K, pre ++ K, by omega, by simp, hI4, below2 (below2 H1.out.2.1 H3.out.2) hb4, allW_rising K ks H1.out.2.2.1.out, ?_, fun t => ?_, ?_⟩, by simp [intOf]; omega⟩
          · have h : leadL _ _ _ = _ := H1.out.2.2.2.1
            show _ = _
            rw [h, HD.out, hll.out, if_pos trivial, List.append_assoc]
          · rw [mem_allW, List.mem_append, H1.out.2.2.2.2.1.out t]
          · have := allW_le K ks; omega
        | false =>
          go_wp2_with (first | (go_at_call 57; refine HRU.out.1.mono ?_; rintro e w3 ⟨rfl, hb3⟩; have hcn3 := cell_far hcn hb3.block; have hck3 := cell_far hck hb3.block; have hall := rall9_calls _ _ ks K w3 (H1.out.1.ki (KI.below hb3)) (HRU.out.2 w3 hb3) (by omega); have H3 := Lib.hid (And.intro hall hb3); clear hall hb3) | (go_at_call 47; refine H3.out.1.mono ?_; rintro e w4 ⟨v4, rfl, hI4, hb4⟩; have hcn4 := cell_far hcn3 hb4.block))
          go_ret
          refine ⟨v4, allW ks K, rfl, hI4, allW_rising K ks H1.out.2.2.1.out, fun t => ?_, ?_, below2 (below2 H1.out.2.2.2.2.2 H3.out.2) hb4⟩
          · have h : leadL _ _ _ = _ := H1.out.2.2.2.1
            rw [h, HD.out, hll.out, if_neg (by simp), List.append_nil, mem_allW, List.mem_append, H1.out.2.2.2.2.1.out t]
          · have := allW_le K ks; omega
      · have e9 : rule9 c.alts.length k = -1 := by unfold rule9; rw [if_neg hr]
        rw [e9] at hrule
        have hll := Lib.hid (fun s => leadL_not (nl := nl) (fs := fs) (k := k) (s := s) (by rw [HLEN.out.1]; exact hr))
        have HRU := Lib.hid hrule
        clear hrule hr e9
        by_cases hk0 : k ≥ 0
        · go_wp2_with (first | (go_at_call 57; refine HRU.out.mono ?_; rintro e w3 ⟨rfl, hb3⟩; have hwith := rwith_calls _ ks k w3 (H1.out.1.ki (KI.below hb3)) hk64 (by omega); have H3 := Lib.hid (And.intro hwith hb3); clear hwith hb3) | (go_at_call 30; refine H3.out.1.mono ?_; rintro e w4 ⟨v4, rfl, hI4, hb4⟩))
          go_ret
          refine ⟨v4, withI ks k, rfl, hI4, withI_rising H1.out.2.2.1.out, fun t => ?_, ?_, below2 (below2 H1.out.2.2.2.2.2 H3.out.2) hb4⟩
          · have h : leadL _ _ _ = _ := H1.out.2.2.2.1
            rw [h, HD.out, hll.out, if_pos hk0, mem_withI, List.mem_append, H1.out.2.2.2.2.1.out t, List.mem_singleton]
          · have := withI_le ks k; omega
        · go_wp2_with (go_at_call 57; refine HRU.out.mono ?_; rintro e w3 ⟨rfl, hb3⟩; have H3 := Lib.hid hb3; clear hb3)
          go_ret
          refine ⟨_, ks, rfl, H1.out.1.ki (KI.below H3.out), H1.out.2.2.1.out, fun t => ?_, by omega, below2 H1.out.2.2.2.2.2 H3.out⟩
          have h : leadL _ _ _ = _ := H1.out.2.2.2.1
          rw [h, HD.out, hll.out, if_neg (by omega), List.append_nil, H1.out.2.2.2.2.1.out t]
    · have hje : n = s.length := by omega
      subst hje
      go_wp2
      go_ret
      refine ⟨_, ks, rfl, H1.out.1, H1.out.2.2.1.out, fun t => ?_, hkl, H1.out.2.2.2.2.2⟩
      have h : leadL _ _ _ = _ := H1.out.2.2.2.1
      rw [h, List.drop_length, leadL, List.append_nil, H1.out.2.2.2.2.1.out t]
end Go.Proofs.Ytigbfankkmmnbaa
set_option linter.unusedVariables false
set_option linter.unusedSimpArgs false
namespace Go.Proofs.Ytigbfankkmmnbaa
open Go.RowKit Gk

abbrev Sents := List (List Int)
/-- how much a number adds, as the program reckons -/
def morP (short : List Int) (k : Int) : Int := if k < 0 then match short[(-1 - k).toNat]? with | some s => min s 100 | none => 1 else 1
def leastP (short : List Int) (s : List Int) : Int := s.foldl (fun n k => min (n + morP short k) 100) 0
theorem leastP_snoc (short s : List Int) (k : Int) : leastP short (s ++ [k]) = min (leastP short s + morP short k) 100 := by simp [leastP, List.foldl_append]
theorem morP_nn {short : List Int} (h : ∀ s ∈ short, 0 ≤ s) (k : Int) : 0 ≤ morP short k ∧ morP short k ≤ 100 := by
  unfold morP
  split
  · split
    · rename_i s hs; have := h s (List.mem_of_getElem? hs); omega
    · omega
  · omega
theorem leastP_nn {short : List Int} (h : ∀ s ∈ short, 0 ≤ s) (s : List Int) : 0 ≤ leastP short s ∧ leastP short s ≤ 100 := by
  have : ∀ (s : List Int) (n : Int), 0 ≤ n ∧ n ≤ 100 → 0 ≤ s.foldl (fun n k => min (n + morP short k) 100) n ∧ s.foldl (fun n k => min (n + morP short k) 100) n ≤ 100 := by
    intro s
    induction s with
    | nil => intro n hn; exact hn
    | cons k s ih => intro n hn; have := morP_nn h k; exact ih (min (n + morP short k) 100) (by omega)
  exact this s 0 (by omega)
/-- the sentences of one number -/
def partsP (rules : List Sents) (k : Int) : Sents := if 0 ≤ k then [[k]] else (rules[(-1 - k).toNat]?).getD []
def stepY (rest long : Int) (x : List Int) (parts next : Sents) : Sents := parts.foldl (fun nx y => if (x.length : Int) + y.length + rest ≤ long then insS nx (x ++ y) else nx) next
def stepX (rest long : Int) (parts : Sents) : Sents → Sents → Option Sents
  | [], next => some next
  | x :: xs, next => if 3600 < (stepY rest long x parts next).length then none else stepX rest long parts xs (stepY rest long x parts next)
def madeS (restF : List Int → Int) (rules : List Sents) (long : Int) : List Int → Sents → Option Sents
  | [], out => some out
  | k :: s, out => match stepX (restF s) long (partsP rules k) out [] with | none => none | some nx => madeS restF rules long s nx
theorem stepY_cons (rest long : Int) (x y : List Int) (parts next : Sents) : stepY rest long x (y :: parts) next = stepY rest long x parts (if (x.length : Int) + y.length + rest ≤ long then insS next (x ++ y) else next) := rfl
/-- what holds of what is made -/
def Shrt (long : Int) (l : Sents) : Prop := ∀ x ∈ l, (x.length : Int) ≤ long
theorem stepY_ok {rest long : Int} (hr : 0 ≤ rest) {x : List Int} : ∀ (parts next : Sents), Srt next → Shrt long next → Srt (stepY rest long x parts next) ∧ Shrt long (stepY rest long x parts next) ∧ (stepY rest long x parts next).length ≤ next.length + parts.length ∧ next.length ≤ (stepY rest long x parts next).length := by
  intro parts
  induction parts with
  | nil => intro next h1 h2; exact ⟨h1, h2, by simp [stepY], by simp [stepY]⟩
  | cons y parts ih =>
    intro next h1 h2
    rw [stepY_cons]
    split
    · rename_i hl
      obtain ⟨h3, h4, h5, h6⟩ := ih (insS next (x ++ y)) (srt_insS h1 _) (fun z hz => by
        rcases mem_insS.1 hz with hz | rfl
        · exact h2 z hz
        · simp only [List.length_append]; omega)
      have := insS_ge (l := next) (x := x ++ y)
      exact ⟨h3, h4, by simp only [List.length_cons]; omega, by omega⟩
    · obtain ⟨h3, h4, h5, h6⟩ := ih next h1 h2
      exact ⟨h3, h4, by simp only [List.length_cons]; omega, h6⟩
theorem stepX_ok {rest long : Int} (hr : 0 ≤ rest) {parts : Sents} : ∀ (xs next : Sents) {out : Sents}, stepX rest long parts xs next = some out → Srt next → Shrt long next → next.length ≤ 3600 → Srt out ∧ Shrt long out ∧ out.length ≤ 3600 := by
  intro xs
  induction xs with
  | nil => intro next out h h1 h2 h3; simp only [stepX, Option.some.injEq] at h; subst h; exact ⟨h1, h2, h3⟩
  | cons x xs ih =>
    intro next out h h1 h2 h3
    unfold stepX at h
    split at h
    · cases h
    · obtain ⟨h4, h5, _, _⟩ := stepY_ok hr (x := x) parts next h1 h2
      exact ih _ h h4 h5 (by omega)
theorem madeS_ok {restF : List Int → Int} (hr : ∀ s, 0 ≤ restF s) {rules : List Sents} {long : Int} (hl : 0 ≤ long) : ∀ (s : List Int) (out : Sents) {res : Sents}, madeS restF rules long s out = some res → Srt out → Shrt long out → out.length ≤ 3600 → Srt res ∧ Shrt long res ∧ res.length ≤ 3600 := by
  intro s
  induction s with
  | nil => intro out res h h1 h2 h3; simp only [madeS, Option.some.injEq] at h; subst h; exact ⟨h1, h2, h3⟩
  | cons k s ih =>
    intro out res h h1 h2 h3
    unfold madeS at h
    split at h
    · cases h
    · rename_i nx hx
      obtain ⟨h4, h5, h6⟩ := stepX_ok (hr s) _ _ hx List.Pairwise.nil (by intro z hz; simp at hz) (by simp)
      exact ih nx h h4 h5 h6
/-- one alternative of one rule; none: they are too many -/
def altS (madeF : List Sents → List Int → Option Sents) (S : List Sents × Bool) (s : Nat) (a : List Int) : Option (List Sents × Bool) :=
  match madeF S.1 a with
  | none => none
  | some l => if l.length ≤ 400 ∧ (l.foldl insS (S.1.getD s [])).length ≤ 400 then some (S.1.set s (l.foldl insS (S.1.getD s [])), S.2 || decide ((S.1.getD s []).length < (l.foldl insS (S.1.getD s [])).length)) else none
def ruleS (madeF : List Sents → List Int → Option Sents) (s : Nat) : List (List Int) → List Sents × Bool → Option (List Sents × Bool)
  | [], S => some S
  | a :: al, S => match altS madeF S s a with | none => none | some S' => ruleS madeF s al S'
def roundS (madeF : List Sents → List Int → Option Sents) : Nat → List (List (List Int)) → List Sents × Bool → Option (List Sents × Bool)
  | _, [], S => some S
  | s, al :: als, S => match ruleS madeF s al S with | none => none | some S' => roundS madeF (s + 1) als S'
def loopS (madeF : List Sents → List Int → Option Sents) (alts : List (List (List Int))) : Nat → List Sents → Option (Option (List Sents))
  | 0, _ => none
  | n + 1, R => match roundS madeF 0 alts (R, false) with
    | none => some none
    | some (R', true) => loopS madeF alts n R'
    | some (R', false) => some (some R')
theorem loopS_more {madeF : List Sents → List Int → Option Sents} {alts : List (List (List Int))} : ∀ (n m : Nat) (R : List Sents) {r : Option (List Sents)}, loopS madeF alts n R = some r → n ≤ m → loopS madeF alts m R = some r := by
  intro n
  induction n with
  | zero => intro m R r h; simp [loopS] at h
  | succ n ih =>
    intro m R r h hm
    obtain ⟨m, rfl⟩ : ∃ k, m = k + 1 := ⟨m - 1, by omega⟩
    unfold loopS at h ⊢
    split at h
    · exact h
    · exact ih m _ h (by omega)
    · exact h
theorem loopS_one {madeF : List Sents → List Int → Option Sents} {alts : List (List (List Int))} {n m : Nat} {R : List Sents} {r r' : Option (List Sents)} (h : loopS madeF alts n R = some r) (h' : loopS madeF alts m R = some r') : r = r' := by
  have h1 := loopS_more n (n + m) R h (by omega)
  have h2 := loopS_more m (n + m) R h' (by omega)
  rw [h1] at h2; injection h2
/-- how many are known -/
def total (R : List Sents) : Nat := (R.map List.length).sum
theorem total_set : ∀ (R : List Sents) (s : Nat) (l : Sents), s < R.length → total (R.set s l) + (R.getD s []).length = total R + l.length := by
  intro R
  induction R with
  | nil => intro s l h; simp at h
  | cons a R ih =>
    intro s l h
    cases s with
    | zero => simp [total]; omega
    | succ s =>
      have := ih s l (by simpa using h)
      simp only [total, List.set_cons_succ, List.map_cons, List.sum_cons, List.getD_cons_succ] at this ⊢
      omega
theorem foldl_ins : ∀ (l : Sents) (R : Sents), R.length ≤ (l.foldl insS R).length ∧ (l.foldl insS R).length ≤ R.length + l.length := by
  intro l
  induction l with
  | nil => intro R; simp
  | cons x l ih =>
    intro R
    have := insS_ge (l := R) (x := x)
    have h := ih (insS R x)
    simp only [List.foldl_cons, List.length_cons]; omega
theorem foldl_srt : ∀ (l R : Sents), Srt R → Srt (l.foldl insS R) := by
  intro l
  induction l with
  | nil => intro R h; exact h
  | cons x l ih => intro R h; exact ih _ (srt_insS h x)
theorem foldl_mem : ∀ (l R : Sents) (y : List Int), y ∈ l.foldl insS R ↔ y ∈ R ∨ y ∈ l := by
  intro l
  induction l with
  | nil => intro R y; simp
  | cons x l ih => intro R y; rw [List.foldl_cons, ih, mem_insS, List.mem_cons, or_assoc]
/-- what holds of all that is known, in a round -/
structure SOk (long : Int) (n : Nat) (R : List Sents) : Prop where
  len : R.length = n
  srt : ∀ l ∈ R, Srt l
  shrt : ∀ l ∈ R, Shrt long l
  few : ∀ l ∈ R, l.length ≤ 400
theorem getD_mem {R : List Sents} {s : Nat} (h : s < R.length) : R.getD s [] ∈ R := by
  rw [List.getD_eq_getElem?_getD, List.getElem?_eq_getElem h]; exact List.getElem_mem h
theorem mem_set_or {α : Type} {l : List α} {i : Nat} {a b : α} (h : b ∈ l.set i a) : b ∈ l ∨ b = a := List.mem_or_eq_of_mem_set h
structure StepOk (R : List Sents) (b : Bool) (R' : List Sents) (b' : Bool) : Prop where
  le : total R ≤ total R'
  lt : b' = true → b = true ∨ total R < total R'
theorem StepOk.trans {R R' R'' : List Sents} {b b' b'' : Bool} (h : StepOk R b R' b') (k : StepOk R' b' R'' b'') : StepOk R b R'' b'' := by
  refine ⟨Nat.le_trans h.le k.le, fun e => ?_⟩
  have h1 := h.le
  have h2 := k.le
  rcases k.lt e with h3 | h3
  · rcases h.lt h3 with h4 | h4
    · exact .inl h4
    · exact .inr (by omega)
  · exact .inr (by omega)
theorem altS_ok {madeF : List Sents → List Int → Option Sents} {long : Int} {n : Nat} (hm : ∀ R a l, SOk long n R → madeF R a = some l → Shrt long l) {S S' : List Sents × Bool} {s : Nat} {a : List Int} (h : altS madeF S s a = some S') (hs : s < n) (hS : SOk long n S.1) : SOk long n S'.1 ∧ StepOk S.1 S.2 S'.1 S'.2 := by
  unfold altS at h
  split at h
  · cases h
  · rename_i l hl
    split at h
    · rename_i hc
      injection h with h
      subst h
      have hln := hS.len
      have hmem := getD_mem (R := S.1) (s := s) (by omega)
      have hf := foldl_ins l (S.1.getD s [])
      refine ⟨⟨by simpa using hln, fun x hx => ?_, fun x hx => ?_, fun x hx => ?_⟩, ?_⟩
      · rcases mem_set_or hx with hx | rfl
        · exact hS.srt x hx
        · exact foldl_srt _ _ (hS.srt _ hmem)
      · rcases mem_set_or hx with hx | rfl
        · exact hS.shrt x hx
        · intro y hy
          rcases (foldl_mem _ _ _).1 hy with hy | hy
          · exact hS.shrt _ hmem y hy
          · exact hm _ _ _ hS hl y hy
      · rcases mem_set_or hx with hx | rfl
        · exact hS.few x hx
        · exact hc.2
      · have ht := total_set S.1 s (l.foldl insS (S.1.getD s [])) (by omega)
        refine ⟨by show total S.1 ≤ total (S.1.set s _); omega, fun e => ?_⟩
        simp only [Bool.or_eq_true, decide_eq_true_eq] at e
        rcases e with e | e
        · exact .inl e
        · exact .inr (by show total S.1 < total (S.1.set s _); omega)
    · cases h
theorem total_le {long : Int} {n : Nat} {R : List Sents} (h : SOk long n R) : total R ≤ n * 400 := by
  have : ∀ R : List Sents, (∀ l ∈ R, l.length ≤ 400) → total R ≤ R.length * 400 := by
    intro R
    induction R with
    | nil => intro _; simp [total]
    | cons a R ih =>
      intro h
      have h1 := h a (by simp)
      have h2 := ih fun l hl => h l (by simp [hl])
      simp only [total, List.map_cons, List.sum_cons, List.length_cons] at h2 ⊢
      omega
  have := this R h.few
  rw [h.len] at this; exact this
/-- the same run, whatever reckons the rests -/
theorem stepY_eq {r r' long : Int} (hl : long ≤ 8) (h : r = r' ∨ (8 < r ∧ 8 < r')) (x : List Int) (parts next : Sents) : stepY r long x parts next = stepY r' long x parts next := by
  rcases h with rfl | ⟨h1, h2⟩
  · rfl
  · induction parts generalizing next with
    | nil => rfl
    | cons y parts ih => rw [stepY_cons, stepY_cons, if_neg (by omega), if_neg (by omega)]; exact ih next
theorem stepX_eq {r r' long : Int} (hl : long ≤ 8) (h : r = r' ∨ (8 < r ∧ 8 < r')) (parts : Sents) : ∀ xs next : Sents, stepX r long parts xs next = stepX r' long parts xs next := by
  intro xs
  induction xs with
  | nil => intro next; rfl
  | cons x xs ih => intro next; unfold stepX; rw [stepY_eq hl h x parts next, ih]
theorem madeS_eq {f g : List Int → Int} {long : Int} (hl : long ≤ 8) {rules : List Sents} : ∀ (s : List Int) (out : Sents), (∀ t, t.length ≤ s.length → (∀ k ∈ t, k ∈ s) → f t = g t ∨ (8 < f t ∧ 8 < g t)) → madeS f rules long s out = madeS g rules long s out := by
  intro s
  induction s with
  | nil => intro out _; rfl
  | cons k s ih =>
    intro out h
    unfold madeS
    rw [stepX_eq hl (h s (by simp) (fun k hk => by simp [hk])) (partsP rules k) out []]
    split
    · rfl
    · exact ih _ fun t ht hk => h t (by simp; omega) (fun k hk' => by simp [hk k hk'])
end Go.Proofs.Ytigbfankkmmnbaa
