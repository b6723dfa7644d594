/- DeriveBoth: the walk. -/
import Derived.Test.YtgjobbapnileiaaComp
import Derived.Test.YtgjobbapnileiaaLive
set_option linter.unusedVariables false
set_option linter.unusedSimpArgs false
namespace Go.Proofs.Ytgjobbapnileiaa
open Go.RowKit Gk

theorem Bag.hid {w : World} {v : Value} {l : List (List Int)} (h : Sl (Ty.slice Ty.int) w v l) {i : Nat} {x : List Int} (hx : l[i]? = some x) : ∃ ad U cu c, v = .slice (some ad) l.length c ∧ w.cell? (ad.add i) = some (.slice U x.length cu) ∧ Sl Ty.int w (.slice U x.length cu) x := by
  obtain ⟨A, c, rfl, h1, h2, h3, h4⟩ := h
  obtain ⟨ad, B, c2, rfl, hc, y1, y2, y3, y4⟩ := h4.slice hx
  exact ⟨ad, B, c2, c, rfl, hc, B, c2, rfl, y1, y2, y3, y4⟩
theorem senEnd.both {c : Cfg} {r long : Int} {w : World} {e : Ending} {w' : World} (h : senEnd c r long w e w') : Below w.heap.size w w' ∧
    (e = .returned (.tuple #[.slice none 0 0, .int .i64 1]) ∨ e = .returned (.tuple #[.slice none 0 0, .int .i64 2]) ∨ ∃ v l, e = .returned (.tuple #[v, .int .i64 0]) ∧ Bag w.heap.size w' v l ∧ Srt l ∧ l.length ≤ 400 ∧ 0 ≤ r ∧ r < c.alts.length ∧ 0 ≤ long ∧ ∀ x, x ∈ l ↔ (x.length : Int) ≤ long ∧ Gen c [-1 - r] x) := by
  obtain ⟨hb, h⟩ := h
  refine ⟨hb, ?_⟩
  split at h
  · exact .inl h
  · rename_i hr
    obtain ⟨short, n, res, h1, h2, h3⟩ := h
    cases res with
    | none => exact .inr (.inl h3)
    | some R =>
      obtain ⟨v, e1, h4, h5⟩ := h3
      have hr0 : 0 ≤ r := by omega
      obtain ⟨rn, rfl⟩ := Int.eq_ofNat_of_zero_le hr0
      have hrl : rn < c.alts.length := by omega
      have hmem : R.getD rn [] ∈ R := getD_mem (by rw [h5.len]; exact hrl)
      exact .inr (.inr ⟨v, R.getD rn [], e1, h4, h5.srt _ hmem, h5.few _ hmem, by omega, by omega, by omega, fun x => sen_iff h1 h2 h5 hrl x⟩)
set_option maxRecDepth 100000 in
set_option maxHeartbeats 4000000 in
theorem deriveBoth_walk (w : World) {v u : Value} (c : Cfg) (h : CfgV w v c) (ht : TokOk v) (r : Int) (hr64 : Ty.i64 r) (long : Int) (hl64 : Ty.i64 long) (toks : List Int) (hk : Sl Ty.int w u toks) :
    Calls Try.prog 4 #[v, .int .i64 r, .int .i64 long, u] w fun e w' => e = .returned (.bool true) ∧ Below w.heap.size w w' := by
  obtain ⟨a0, b0, d0, rfl, h1, h2, h3⟩ := id h
  obtain ⟨A1, c1, rfl, hc1, hm1, _, hr1⟩ := id h1
  obtain ⟨A2, c2, rfl, hc2, hm2, _, hr2⟩ := id h2
  obtain ⟨A3, c3, rfl, hc3, hm3, hl3, hr3⟩ := id h3
  obtain ⟨AT, cT, rfl, t1, t2, t3, _⟩ := id hk
  unfold LB at hl3 t3
  have HH := Lib.hid (And.intro h (And.intro ht (And.intro hk (And.intro hr64 hl64))))
  have hr1' := hr64.1
  have hr2' := hr64.2
  clear h ht hk h1 h2 h3 hr1 hr2 hr3 hr64 hl64
  have hB1 := Box.new w #[.slice A1 c.toks.length c1, .slice A2 c.names.length c2, .slice A3 c.alts.length c3] 25
  have hb1 : Below w.heap.size w (w.alloc (.cells #[.slice A1 c.toks.length c1, .slice A2 c.names.length c2, .slice A3 c.alts.length c3] 25)) := (Below.refl _ _).alloc (Nat.le_refl _) _
  have HB := Lib.hid (And.intro hB1 hb1)
  clear hB1 hb1
  go_enter Try.func4, Try.ntmps4
  by_cases hbig : (toks.length : Int) > 10 ∨ long > 6
  · by_cases hk10 : (toks.length : Int) > 10
    · go_wp2_with (first | (go_at_call 7; refine (live_calls _).mono ?_; rintro e w1 ⟨rfl, hbl⟩; have hbx1 := HB.out.1.below hbl; have x0 := hbx1.cell 0 (v := .slice A1 c.toks.length c1) rfl; have x1 := hbx1.cell 1 (v := .slice A2 c.names.length c2) rfl; have x2 := hbx1.cell 2 (v := .slice A3 c.alts.length c3) rfl; have H1 := Lib.hid (And.intro (below2 HB.out.2 hbl) hbx1); clear hbl hbx1) | (go_at_call 8; refine (lawfew_calls _ c _ (HH.out.1.below H1.out.1) HH.out.2.1).mono ?_; rintro e w2 ⟨b, rfl, hbf, hfw⟩; have H2 := Lib.hid (below2 H1.out.1 hbf); clear hbf hfw; cases b))
      all_goals (go_ret; exact ⟨rfl, H2.out⟩)
    · have hl6 : long > 6 := by omega
      go_wp2_with (first | (go_at_call 7; refine (live_calls _).mono ?_; rintro e w1 ⟨rfl, hbl⟩; have hbx1 := HB.out.1.below hbl; have x0 := hbx1.cell 0 (v := .slice A1 c.toks.length c1) rfl; have x1 := hbx1.cell 1 (v := .slice A2 c.names.length c2) rfl; have x2 := hbx1.cell 2 (v := .slice A3 c.alts.length c3) rfl; have H1 := Lib.hid (And.intro (below2 HB.out.2 hbl) hbx1); clear hbl hbx1) | (go_at_call 8; refine (lawfew_calls _ c _ (HH.out.1.below H1.out.1) HH.out.2.1).mono ?_; rintro e w2 ⟨b, rfl, hbf, hfw⟩; have H2 := Lib.hid (below2 H1.out.1 hbf); clear hbf hfw; cases b))
      all_goals (go_ret; exact ⟨rfl, H2.out⟩)
  · have hk10 : toks.length ≤ 10 := by omega
    have hl6 : long ≤ 6 := by omega
    clear hbig
    go_wp2_with (first | (go_at_call 7; refine (live_calls _).mono ?_; rintro e w1 ⟨rfl, hbl⟩; have hbx1 := HB.out.1.below hbl; have x0 := hbx1.cell 0 (v := .slice A1 c.toks.length c1) rfl; have x1 := hbx1.cell 1 (v := .slice A2 c.names.length c2) rfl; have x2 := hbx1.cell 2 (v := .slice A3 c.alts.length c3) rfl; have H1 := Lib.hid (And.intro (below2 HB.out.2 hbl) hbx1); clear hbl hbx1) | (go_at_call 8; refine (lawfew_calls _ c _ (HH.out.1.below H1.out.1) HH.out.2.1).mono ?_; rintro e w2 ⟨b, rfl, hbf, hfw⟩; have hbx2 := H1.out.2.below hbf; have y0 := hbx2.cell 0 (v := .slice A1 c.toks.length c1) rfl; have y1 := hbx2.cell 1 (v := .slice A2 c.names.length c2) rfl; have y2 := hbx2.cell 2 (v := .slice A3 c.alts.length c3) rfl; have H2 := Lib.hid (And.intro (below2 H1.out.1 hbf) (And.intro hbx2 hfw)); clear hbf hbx2 hfw; cases b) | (go_at_call 9; refine (sen_calls short_calls c _ r long _ (HH.out.1.below H2.out.1) (H2.out.2.2 (by first | rfl | trivial)).2 (H2.out.2.2 (by first | rfl | trivial)).1).mono ?_; rintro e w3 hse; obtain ⟨hb3, hcc⟩ := senEnd.both hse; rcases hcc with rfl | rfl | ⟨vl, l, rfl, hbag, hsrt, hl400, hr0, hrl, hl0, hiff⟩; all_goals first | (obtain ⟨AL, cL, rfl, l1, l2, l3, _⟩ := id hbag.sl; have hbx3 := H2.out.2.1.below hb3; have H3 := Lib.hid (And.intro hbag (And.intro hsrt (And.intro hiff (And.intro (below2 H2.out.1 hb3) hbx3)))); clear hbag hsrt hiff hb3 hse hbx3) | skip))
    · go_ret
      exact ⟨rfl, H2.out.1⟩
    · go_ret
      exact ⟨rfl, below2 H2.out.1 hb3⟩
    · go_ret
      exact ⟨rfl, below2 H2.out.1 hb3⟩
    · have hal60 : c.alts.length ≤ 60 := by have h1 := H2.out.2.2 (by first | rfl | trivial); have h2 := h1.2.1; have h3 := h1.1.1; omega
      have hd10 : decide (10 < (toks.length : Int)) = false := decide_eq_false (by omega)
      have hd6 : decide (6 < long) = false := decide_eq_false (by omega)
      have hwr : IntKind.i64.wrap (-1 - r) = -1 - r := by rw [IntKind.wrap_i64]; omega
      rw [hd10, hd6, show (false || false) = false from rfl]
      clear hd10 hd6
      have hgi : Ty.i64 (-1 - r) := by unfold Ty.i64; omega
      have hDer : ∀ (wx : World) (x : List Int) (U : Value), Below w3.heap.size w3 wx → Sl Ty.int wx U x → x.length ≤ 1000 → Calls Try.prog 12 #[.agg #[.slice A1 c.toks.length c1, .slice A2 c.names.length c2, .slice A3 c.alts.length c3], .slice (some ⟨wx.heap.size, 0, none⟩) 1 1, U] (wx.alloc (.cells #[.int .i64 (-1 - r)] 3)) fun e w' => e = .returned (.bool (dec (Gen c [-1 - r] x))) ∧ Below wx.heap.size wx w' := fun wx x U hbx hU hxl => by
        have hba : Below wx.heap.size wx (wx.alloc (.cells #[.int .i64 (-1 - r)] 3)) := (Below.refl _ _).alloc (Nat.le_refl _) _
        refine (derives_calls c [-1 - r] x _ _ _ _ (HH.out.1.below (below2 (below2 H3.out.2.2.2.1 hbx) hba)) (litInt (xs := [-1 - r]) (Box.new wx _ _) (by simp) (fun y hy => by simp at hy; subst hy; exact hgi)) (hU.below hba) hxl (by omega)).mono ?_
        rintro e w' ⟨he, hb⟩
        exact ⟨he, below2 hba hb⟩
      have HD := Lib.hid hDer
      clear hDer hgi
      go_loopw [48] (fun i wr => (∃ n : Nat, n ≤ l.length ∧ i = .int .i64 n) ∧ Below w3.heap.size w3 wr) (fun i _ => l.length - (intOf i).toNat)
      case atStart => exact ⟨⟨0, Nat.zero_le _, rfl⟩, Below.refl _ _⟩
      case round =>
        obtain ⟨⟨n, hn, rfl⟩, hB⟩ := hrel
        have HBr := Lib.hid hB; clear hB
        have hbxr := H3.out.2.2.2.2.below HBr.out
        have z0 := hbxr.cell 0 (v := .slice A1 c.toks.length c1) rfl
        have z1 := hbxr.cell 1 (v := .slice A2 c.names.length c2) rfl
        have z2 := hbxr.cell 2 (v := .slice A3 c.alts.length c3) rfl
        clear hbxr
        by_cases hlt : n < l.length
        · obtain ⟨x, hx⟩ := at_lt l hlt
          obtain ⟨adL, UX, cx, cL', eL, hcx, hsx⟩ := Bag.hid (H3.out.1.sl.below HBr.out) hx
          injection eL with eL1 eL2 eL3
          subst eL1 eL3
          have hxi := (H3.out.2.2.1 x).1 (List.mem_of_getElem? hx)
          have hxl := hxi.1
          obtain ⟨Q1, Q2, ex, x1', x2', x3', _⟩ := id hsx
          injection ex with ex1 ex2 ex3
          subst ex1 ex3
          have hg : dec (Gen c [-1 - r] x) = true := dec_true hxi.2
          have hdx := HD.out wr x _ HBr.out hsx (by omega)
          rw [hg] at hdx
          have HDX := Lib.hid hdx
          have HX := Lib.hid hx
          clear hxi hg hdx hx hsx
          by_cases hn0 : n = 0
          · subst hn0
            have hcx0 : wr.cell? adL = some (.slice UX x.length cx) := by simpa [Addr.add] using hcx
            clear hcx
            go_wp2_with (go_at_call 12; refine HDX.out.mono ?_; rintro e w5 ⟨rfl, hb5⟩)
            exact ⟨⟨⟨1, by omega, by simp⟩, below2 HBr.out hb5⟩, by simp [intOf]; omega⟩
          · obtain ⟨k, hkn⟩ : ∃ k, n = k + 1 := ⟨n - 1, by omega⟩
            have hklt : k < l.length := by omega
            obtain ⟨x', hx'⟩ := at_lt l (show k < l.length by omega)
            have hle := lessP_len (srt_at H3.out.2.1 (show k < n by omega) hx' HX.out)
            have hle2 : decide ((x.length : Int) < (x'.length : Int)) = false := decide_eq_false (by omega)
            have hH : Hid (∀ w' : World, Below w3.heap.size w3 w' → ∃ U cu, w'.cell? (adL.add k) = some (.slice U x'.length cu)) := fun w' hb' => by
              obtain ⟨ad2, U2, cu2, c2', e2, hc2', _⟩ := Bag.hid (H3.out.1.sl.below hb') hx'
              injection e2 with e21 _ _
              injection e21 with e21
              subst e21
              exact ⟨U2, cu2, hc2'⟩
            clear hx'
            have hwk : IntKind.i64.wrap ((n : Int) - 1) = (k : Int) := by rw [IntKind.wrap_i64]; omega
            have hn1 : decide ((0 : Int) < (n : Int)) = true := decide_eq_true (by omega)
            have HKN := Lib.hid hkn; clear hkn
            go_wp2_with (go_at_call 12; refine HDX.out.mono ?_; rintro e w5 ⟨rfl, hb5⟩; obtain ⟨U2, cu2, hc2'⟩ := hH w5 (below2 HBr.out hb5))
            exact ⟨⟨⟨n + 1, by omega, by simp⟩, below2 HBr.out hb5⟩, by simp [intOf]; omega⟩
        · obtain ⟨wo, rfl⟩ : ∃ wo : World, wo = wr := ⟨_, rfl⟩
          go_wp2
          go_loopw [84, 14] (fun i o wr => (∃ (n : Nat) (b : Bool), n ≤ l.length ∧ i = .int .i64 n ∧ o = .bool b ∧ Hid (b = decide (toks ∈ l.take n))) ∧ Below w3.heap.size w3 wr) (fun i _ _ => l.length - (intOf i).toNat)
          case atStart => exact ⟨⟨0, false, Nat.zero_le _, rfl, rfl, by simp [Hid]⟩, HBr.out⟩
          case round =>
            obtain ⟨⟨m, b, hm, rfl, rfl, hb⟩, hB⟩ := hrel
            have HBr2 := Lib.hid (And.intro hb hB); clear hb hB
            have hbxr := H3.out.2.2.2.2.below HBr2.out.2
            have z0' := hbxr.cell 0 (v := .slice A1 c.toks.length c1) rfl
            have z1' := hbxr.cell 1 (v := .slice A2 c.names.length c2) rfl
            have z2' := hbxr.cell 2 (v := .slice A3 c.alts.length c3) rfl
            clear hbxr
            have hkr : Hid (Sl Ty.int wr (.slice AT toks.length cT) toks) := HH.out.2.2.1.below (below2 H3.out.2.2.2.1 HBr2.out.2)
            by_cases hlt : m < l.length
            · obtain ⟨x, hx⟩ := at_lt l hlt
              obtain ⟨adL, UX, cx, cL', eL, hcx, hsx⟩ := Bag.hid (H3.out.1.sl.below HBr2.out.2) hx
              injection eL with eL1 eL2 eL3
              subst eL1 eL3
              have hsame := sameInts_calls _ _ x toks wr hsx hkr.out
              have HS := Lib.hid hsame
              obtain ⟨Q1, Q2, ex, x1', x2', x3', _⟩ := id hsx
              injection ex with ex1 ex2 ex3
              subst ex1 ex3
              have HX := Lib.hid hx
              clear hsame hx hsx
              have hnext : Hid (decide (toks ∈ l.take (m + 1)) = (decide (toks ∈ l.take m) || decide (x = toks))) := by
                show _ = _
                rw [take_next HX.out, Bool.eq_iff_iff, decide_eq_true_iff, Bool.or_eq_true, decide_eq_true_iff, decide_eq_true_iff, List.mem_append, List.mem_singleton]
                exact or_congr Iff.rfl ⟨fun e => e.symm, fun e => e.symm⟩
              cases b with
              | true =>
                go_wp2
                refine ⟨⟨⟨m + 1, true, by omega, by simp, rfl, ?_⟩, HBr2.out.2⟩, by simp [intOf]; omega⟩
                have h1 : true = _ := HBr2.out.1
                have h2 : decide _ = _ := hnext
                show _ = _
                rw [h2, ← h1]; rfl
              | false =>
                obtain ⟨bb, hbb⟩ : ∃ bb, bb = decide (x = toks) := ⟨_, rfl⟩
                have hS2 := HS.out
                rw [← hbb] at hS2
                have HS2 := Lib.hid hS2
                have HBB := Lib.hid hbb
                clear hS2 hbb
                go_wp2_with (go_at_call 13; refine HS2.out.mono ?_; rintro e w5 ⟨rfl, hD5⟩; cases bb)
                · refine ⟨⟨⟨m + 1, false, by omega, by simp, rfl, ?_⟩, below2 HBr2.out.2 hD5.below⟩, by simp [intOf]; omega⟩
                  have h1 : false = _ := HBr2.out.1
                  have h2 : decide _ = _ := hnext
                  have h3 : false = _ := HBB.out
                  show _ = _
                  rw [h2, ← h1, ← h3]; rfl
                · refine ⟨⟨⟨m + 1, true, by omega, by simp, rfl, ?_⟩, below2 HBr2.out.2 hD5.below⟩, by simp [intOf]; omega⟩
                  have h2 : decide _ = _ := hnext
                  have h3 : true = _ := HBB.out
                  show _ = _
                  rw [h2, ← h3, Bool.or_true]
            · have hfin : Hid (b = decide (toks ∈ l)) := by
                have h1 : b = _ := HBr2.out.1
                show _ = _
                rw [h1, List.take_of_length_le (by omega)]
              by_cases hkl : (toks.length : Int) ≤ long
              · have hg : dec (Gen c [-1 - r] toks) = b := by
                  have h1 : b = _ := hfin
                  have h2 := H3.out.2.2.1 toks
                  rw [h1]
                  by_cases hin : toks ∈ l
                  · rw [decide_eq_true hin, dec_true (h2.1 hin).2]
                  · rw [decide_eq_false hin, dec_false fun hg => hin (h2.2 ⟨hkl, hg⟩)]
                have hdx := HD.out wr toks _ HBr2.out.2 hkr.out (by omega)
                rw [hg] at hdx
                have HDX := Lib.hid hdx
                clear hdx hg
                go_wp2_with (go_at_call 12; refine HDX.out.mono ?_; rintro e w5 ⟨rfl, hb5⟩; cases b)
                all_goals (go_ret; exact ⟨rfl, below2 (below2 H3.out.2.2.2.1 HBr2.out.2) hb5⟩)
              · have hbf : b = false := by
                  have h1 : b = _ := hfin
                  rw [h1]
                  exact decide_eq_false fun hin => hkl ((H3.out.2.2.1 toks).1 hin).1
                subst hbf
                go_wp2
                go_ret
                exact ⟨rfl, below2 H3.out.2.2.2.1 HBr2.out.2⟩
end Go.Proofs.Ytgjobbapnileiaa
