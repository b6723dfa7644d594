/- Flaws: it answers some flaws. -/
import Derived.Test.YtgjobbapnileiaaLed
set_option linter.unusedVariables false
set_option linter.unusedSimpArgs false
namespace Go.Proofs.Ytgjobbapnileiaa
open Go.RowKit Gk

/-- the flaws so far: at most n; wn: the world behind Names -/
def FlawR (wn : World) (D : Nat → Prop) (n : Nat) (o : Value) (wr : World) : Prop :=
  ∃ xs : List (Int × ByteArray), Own flawT 122 wn.heap.size D wr o xs ∧ xs.length ≤ n ∧ Below wn.heap.size wn wr
theorem FlawR.laid {wn : World} {D : Nat → Prop} {n : Nat} {o v' : Value} {wr w' : World} {xs xs' : List (Int × ByteArray)} (hO : Own flawT 122 wn.heap.size D wr o xs) (hB : Below wn.heap.size wn wr)
    (hG : Grew flawT 122 wn.heap.size D wr o w' v' xs') (hl : xs'.length ≤ n) : FlawR wn D n v' w' :=
  ⟨xs', hG.own, hl, hB.trans (hG.below hO hB.size)⟩
theorem FlawR.more {wn : World} {D : Nat → Prop} {n m : Nat} {o : Value} {wr : World} (h : FlawR wn D n o wr) (hm : n ≤ m) : FlawR wn D m o wr := by
  obtain ⟨xs, h1, h2, h3⟩ := h; exact ⟨xs, h1, by omega, h3⟩

/-- how many flaws there may be by now -/
def FlawN (k j p : Nat) : Nat := 1000 + 40000 * k + 200 * j + p
theorem flawN_p {k j p n : Nat} (h : n ≤ FlawN k j p) : n + 1 ≤ FlawN k j (p + 1) := by unfold FlawN at h ⊢; omega
theorem flawN_p0 {k j p n : Nat} (h : n ≤ FlawN k j p) : n ≤ FlawN k j (p + 1) := by unfold FlawN at h ⊢; omega
theorem flawN_j {k j p n : Nat} (h : n ≤ FlawN k j p) (hp : p ≤ 200) : n ≤ FlawN k (j + 1) 0 := by unfold FlawN at h ⊢; omega
theorem flawN_k {k j p n : Nat} (h : n ≤ FlawN k j p) (hp : p = 0) (hj : j ≤ 200) : n ≤ FlawN (k + 1) 0 0 := by
  unfold FlawN at h ⊢; omega
theorem flawN_le {k j p n : Nat} (h : n ≤ FlawN k j p) (hk : k ≤ 200) (hj : j ≤ 200) (hp : p ≤ 200) : n ≤ 10000000 := by unfold FlawN at h; omega

set_option maxRecDepth 100000 in
set_option maxHeartbeats 8000000 in
theorem flaws_calls (v u : Value) (rs : Rules) (ts : List ByteArray) (w : World) (h : Sl ruleT w v rs) (h' : Sl Ty.str w u ts) (hs : Short3 rs) (ht : ts.length ≤ 1000) (hu : u = .slice none 0 0 ∨ ∃ ad n c, u = .slice (some ad) n c) :
    Calls Try.prog 45 #[.agg #[v], u] w (gives flawT w (fun _ => True)) := by
  have h0 := h
  obtain ⟨A, c, rfl, hc, hcm, hlb, hr⟩ := h
  unfold LB at hlb
  have hs1 := hs.1
  have hWa : Below w.heap.size w (w.alloc (.cells #[.slice A rs.length c] 69)) := (Below.refl _ _).alloc (Nat.le_refl _) _
  have hbox := Box.new w #[.slice A rs.length c] 69
  have hsa : (w.alloc (.cells #[.slice A rs.length c] 69)).heap.size = w.heap.size + 1 := by simp
  have HSA := Lib.hid hsa; clear hsa
  have HS := Lib.hid hs; clear hs
  go_enter Try.func45, Try.ntmps45
  go_wp2_with (go_at_call 46; refine (names_calls _ rs _ (h0.below hWa) (by omega)).mono ?_; rintro e wn ⟨vN, ns, rfl, hns, hN, hWn⟩; have hboxn := hbox.below hWn; obtain ⟨AN, cN, rfl, n1, n2, n3, hrN⟩ := hN.now; have hnl : ns.length ≤ 1000 := by { rw [hns, List.length_map]; omega }; have HNS := Lib.hid hns; clear hns)
  have hW : Below w.heap.size w wn := below2 hWa hWn
  have hszn : w.heap.size + 1 ≤ wn.heap.size := by have := hWn.size; rw [HSA.out] at this; exact this
  unfold LB at n3
  clear hbox hWn hWa
  go_loopw [25, 5] (fun i o wr => ∃ k : Nat, k ≤ ns.length ∧ i = .int .i64 k ∧ FlawR wn (fun b => wn.heap.size ≤ b) k o wr) (fun i _ _ => ns.length - (intOf i).toNat)
  case atStart => exact ⟨0, Nat.zero_le _, rfl, ⟨[], Own.nil _ _ _ _ _, Nat.le_refl _, Below.refl _ _⟩⟩
  case round =>
    obtain ⟨k, hk, rfl, ⟨xs, hO, hxl, hB⟩⟩ := hrel
    have hB' := hW.trans (hB.mono (show w.heap.size ≤ wn.heap.size by omega))
    by_cases hlt : k < ns.length
    case neg =>
      have hc2 := (hboxn.below hB).cell 0 (v := .slice A rs.length c) rfl
      have hF0 : FlawR wn (fun b => wn.heap.size ≤ b) (FlawN 0 0 0) u5 wr := ⟨xs, hO, by unfold FlawN; omega, hB⟩
      clear hO hxl hB hB'
      go_wp2
      go_loopw [47, 5] (fun i o wr => ∃ k : Nat, k ≤ rs.length ∧ i = .int .i64 k ∧ FlawR wn (fun b => wn.heap.size ≤ b) (FlawN k 0 0) o wr) (fun i _ _ => rs.length - (intOf i).toNat)
      case atStart => exact ⟨0, Nat.zero_le _, rfl, hF0⟩
      case round =>
        clear hF0 hc2 hlt hk
        obtain ⟨k, hk, rfl, ⟨xs, hO, hxl, hB⟩⟩ := hrel
        have hB' := hW.trans (hB.mono (show w.heap.size ≤ wn.heap.size by omega))
        by_cases hlt : k < rs.length
        case neg =>
          have hxl4 : xs.length ≤ 10000000 := flawN_le hxl (by omega) (by omega) (by omega)
          have hbn := hboxn.below hB
          have hc2 := hbn.cell 0 (v := .slice A rs.length c) rfl
          have hOlt := hO.lt
          have hOb := hO.bound
          clear hxl hO
          have hszr := hB.size
          obtain ⟨wf, rfl⟩ : ∃ wf : World, wf = wr := ⟨_, rfl⟩
          go_wp2_with (go_at_call 59; refine (fertile_calls _ _ rs ts _ (h0.below hB') (h'.below hB') HS.out ht hu).mono ?_; rintro e wg ⟨vF, fs, rfl, _, hF, hWf⟩)
          have hF1 := hF.on (w' := wg) (Nat.le_refl _) (fun _ _ _ => rfl)
          have hO1 : FlawR wn (fun b => wn.heap.size ≤ b ∧ (b < wf.heap.size ∨ wg.heap.size ≤ b)) 10000000 u5 wg :=
            ⟨xs, (hOb.mono (D' := fun b => wn.heap.size ≤ b ∧ (b < wf.heap.size ∨ wg.heap.size ≤ b)) (fun b _ h => ⟨h.1, .inl h.2⟩)).below hWf, hxl4, below_then hB hszr hWf⟩
          go_loopw [85, 5] (fun i o wr => ∃ k : Nat, k ≤ ns.length ∧ i = .int .i64 k ∧ FlawR wn (fun b => wn.heap.size ≤ b ∧ (b < wf.heap.size ∨ wg.heap.size ≤ b)) (10000000 + k) o wr ∧ Far (fun b => wf.heap.size ≤ b ∧ b < wg.heap.size) (fun w => Sl Ty.str w vF fs) wr ∧ wg.heap.size ≤ wr.heap.size) (fun i _ _ => ns.length - (intOf i).toNat)
          case atStart => exact ⟨0, Nat.zero_le _, rfl, hO1, hF1, Nat.le_refl _⟩
          case round =>
            clear hO1 hF1 hk hlt
            obtain ⟨k, hk, rfl, ⟨ys, hO, hyl, hB2⟩, hFa, hgs⟩ := hrel
            have hB2' := hW.trans (hB2.mono (show w.heap.size ≤ wn.heap.size by omega))
            by_cases hlt : k < ns.length
            case neg =>
              have hOlt := hO.lt
              have hOb := (hO.mono (D' := fun b => wn.heap.size ≤ b) (fun b _ h => h.1)).bound
              clear hO
              have hszr2 := hB2.size
              have hbn2 := (hboxn.below hB2).cell 0 (v := .slice A rs.length c) rfl
              obtain ⟨wh, rfl⟩ : ∃ wh : World, wh = wr := ⟨_, rfl⟩
              go_wp2_with (go_at_call 60; refine (led_calls _ rs _ (h0.below hB2') HS.out).mono ?_; rintro e wi ⟨vL, ls, rfl, _, hL, hWi⟩)
              have hF1 := hL.on (w' := wi) (Nat.le_refl _) (fun _ _ _ => rfl)
              have hO1 : FlawR wn (fun b => wn.heap.size ≤ b ∧ (b < wh.heap.size ∨ wi.heap.size ≤ b)) 10001000 u5 wi :=
                ⟨ys, (hOb.mono (D' := fun b => wn.heap.size ≤ b ∧ (b < wh.heap.size ∨ wi.heap.size ≤ b)) (fun b _ h => ⟨h.1, .inl h.2⟩)).below hWi, by omega, below_then hB2 hszr2 hWi⟩
              go_loopw [101, 5] (fun i o wr => ∃ k : Nat, k ≤ ns.length ∧ i = .int .i64 k ∧ FlawR wn (fun b => wn.heap.size ≤ b ∧ (b < wh.heap.size ∨ wi.heap.size ≤ b)) (10001000 + k) o wr ∧ Far (fun b => wh.heap.size ≤ b ∧ b < wi.heap.size) (fun w => Sl Ty.str w vL ls) wr ∧ wi.heap.size ≤ wr.heap.size) (fun i _ _ => ns.length - (intOf i).toNat)
              case atStart => exact ⟨0, Nat.zero_le _, rfl, hO1, hF1, Nat.le_refl _⟩
              case round =>
                clear hO1 hF1 hk hlt
                obtain ⟨k, hk, rfl, ⟨ys, hO, hyl, hB2⟩, hFa, hgs⟩ := hrel
                have hB2' := hW.trans (hB2.mono (show w.heap.size ≤ wn.heap.size by omega))
                by_cases hlt : k < ns.length
                case neg =>
                  go_wp2
                  go_ret
                  exact ⟨_, ys, rfl, trivial, hO.far.mono (fun b _ h => by omega), hB2'⟩
                obtain ⟨n, hn⟩ := at_lt ns hlt
                obtain ⟨an, e, hns, hcell⟩ := hrN.str hn
                cases e
                replace hcell := cell_far hcell hB2.block
                clear hn
                have hD : ∀ b, wr.heap.size ≤ b → wn.heap.size ≤ b ∧ (b < wh.heap.size ∨ wi.heap.size ≤ b) := fun b hb => by have := hB2.size; omega
                have hh1 := has_calls vL ls n wr hFa.now
                by_cases e1 : n ∈ ls
                · rw [dec_true e1] at hh1
                  have := Lib.hid e1; clear e1
                  go_wp2_with (go_at_call 44; (with_reducible refine hh1.mono ?_); rintro e w' ⟨rfl, rfl⟩)
                  go_roundw
                  case rel => exact ⟨k + 1, by omega, by go_num, ⟨ys, hO, by omega, hB2⟩, hFa, hgs⟩
                  case measure => simp [intOf]; omega
                · rw [dec_false e1] at hh1
                  have := Lib.hid e1; clear e1
                  have hOin := hO.inD
                  go_wp2_with (first | (go_at_call 44; (with_reducible refine hh1.mono ?_); rintro e w' ⟨rfl, rfl⟩) | (go_at_call 58; refine (lay_calls wn.heap.size (fun b => wn.heap.size ≤ b ∧ (b < wh.heap.size ∨ wi.heap.size ≤ b)) u5 ys 4 n _ hO hD hB2.size (by omega) (by unfold Ty.i64; omega) hns).mono ?_; rintro e w2 ⟨v2, zs, rfl, hzl, hG⟩))
                  go_roundw
                  case rel => exact ⟨k + 1, by omega, by go_num, FlawR.laid hO hB2 hG (by omega),
                    (hFa.on hG.grown.size (fun b h1 h2 => hG.grown.block b h1 (fun e => by have := hOin b e.symm; omega))).mono (fun b _ h => h.1), Nat.le_trans hgs hG.grown.size⟩
                  case measure => simp [intOf]; omega
            obtain ⟨n, hn⟩ := at_lt ns hlt
            obtain ⟨an, e, hns, hcell⟩ := hrN.str hn
            cases e
            replace hcell := cell_far hcell hB2.block
            clear hn
            have hD : ∀ b, wr.heap.size ≤ b → wn.heap.size ≤ b ∧ (b < wf.heap.size ∨ wg.heap.size ≤ b) := fun b hb => by have := hB2.size; omega
            have hh1 := has_calls vF fs n wr hFa.now
            by_cases e1 : n ∈ fs
            · rw [dec_true e1] at hh1
              have := Lib.hid e1; clear e1
              go_wp2_with (go_at_call 44; (with_reducible refine hh1.mono ?_); rintro e w' ⟨rfl, rfl⟩)
              go_roundw
              case rel => exact ⟨k + 1, by omega, by go_num, ⟨ys, hO, by omega, hB2⟩, hFa, hgs⟩
              case measure => simp [intOf]; omega
            · rw [dec_false e1] at hh1
              have := Lib.hid e1; clear e1
              have hOin := hO.inD
              go_wp2_with (first | (go_at_call 44; (with_reducible refine hh1.mono ?_); rintro e w' ⟨rfl, rfl⟩) | (go_at_call 58; refine (lay_calls wn.heap.size (fun b => wn.heap.size ≤ b ∧ (b < wf.heap.size ∨ wg.heap.size ≤ b)) u5 ys 3 n _ hO hD hB2.size (by omega) (by unfold Ty.i64; omega) hns).mono ?_; rintro e w2 ⟨v2, zs, rfl, hzl, hG⟩))
              go_roundw
              case rel => exact ⟨k + 1, by omega, by go_num, FlawR.laid hO hB2 hG (by omega),
                (hFa.on hG.grown.size (fun b h1 h2 => hG.grown.block b h1 (fun e => by have := hOin b e.symm; omega))).mono (fun b _ h => h.1), Nat.le_trans hgs hG.grown.size⟩
              case measure => simp [intOf]; omega
        obtain ⟨x, hx⟩ := at_lt rs hlt
        obtain ⟨ad, B, c2, rfl, hcell0, hcell1, hx1, g1, g2, g3, g4⟩ := Row.rule hr hx
        replace hcell0 := cell_far hcell0 hB'.block
        replace hcell1 := cell_far hcell1 hB'.block
        have hx2 := HS.out.2 x (List.mem_of_getElem? hx)
        have hx21 := hx2.1
        have HX2 := Lib.hid hx2.2
        clear hx hx2
        have hF0 : FlawR wn (fun b => wn.heap.size ≤ b) (FlawN k 0 0) u5 (wr.alloc (.cells #[.string x.1, .slice B x.2.length c2] 95)) := ⟨xs, hO.alloc _, hxl, hB.alloc hB.size _⟩
        have G4 := Lib.hid g4; clear g4
        clear hO hxl hB hB'
        go_wp2
        go_loopw [54, 5] (fun i o wr => ∃ j : Nat, j ≤ x.2.length ∧ i = .int .i64 j ∧ FlawR wn (fun b => wn.heap.size ≤ b) (FlawN k j 0) o wr) (fun i _ _ => x.2.length - (intOf i).toNat)
        case atStart => exact ⟨0, Nat.zero_le _, rfl, hF0⟩
        case round =>
          clear hF0 hcell0 hcell1
          obtain ⟨j, hj, rfl, ⟨xs, hO, hxl, hB⟩⟩ := hrel
          have hB' := hW.trans (hB.mono (show w.heap.size ≤ wn.heap.size by omega))
          by_cases hlt2 : j < x.2.length
          case neg =>
            go_wp2
            go_roundw
            case rel => exact ⟨k + 1, by omega, by go_num, ⟨xs, hO, flawN_k hxl rfl (by omega), hB⟩⟩
            case measure => simp [intOf]; omega
          obtain ⟨a, ha⟩ := at_lt x.2 hlt2
          obtain ⟨ad2, Y, c3, rfl, hcell2, g5, g6, g7, g8⟩ := G4.out.slice ha
          replace hcell2 := cell_far hcell2 hB'.block
          have hal := HX2.out a (List.mem_of_getElem? ha)
          clear ha
          have hF0 : FlawR wn (fun b => wn.heap.size ≤ b) (FlawN k j 0) u5 wr := ⟨xs, hO, hxl, hB⟩
          clear hO hxl hB hB'
          go_wp2
          go_loopw [60, 5] (fun i o wr => ∃ p : Nat, p ≤ a.length ∧ i = .int .i64 p ∧ FlawR wn (fun b => wn.heap.size ≤ b) (FlawN k j p) o wr) (fun i _ _ => a.length - (intOf i).toNat)
          case atStart => exact ⟨0, Nat.zero_le _, rfl, hF0⟩
          case round =>
            clear hF0 hcell2
            obtain ⟨p, hp, rfl, ⟨xs, hO, hxl, hB⟩⟩ := hrel
            have hB' := hW.trans (hB.mono (show w.heap.size ≤ wn.heap.size by omega))
            by_cases hlt3 : p < a.length
            case neg =>
              go_wp2
              go_roundw
              case rel => exact ⟨j + 1, by omega, by go_num, ⟨xs, hO, flawN_j hxl (by omega), hB⟩⟩
              case measure => simp [intOf]; omega
            obtain ⟨n, hn⟩ := at_lt a hlt3
            obtain ⟨ad3, rfl, hns, hcell3⟩ := g8.str hn
            replace hcell3 := cell_far hcell3 hB'.block
            clear hn
            have hD : ∀ b, wr.heap.size ≤ b → wn.heap.size ≤ b := fun b hb => by have := hB.size; omega
            have hh1 := has_calls (.slice AN ns.length cN) ns n wr ⟨AN, cN, rfl, n1, n2, by unfold LB; exact n3, hrN.below hB⟩
            have hh2 := has_calls u ts n wr (h'.below hB')
            have hxl4 := flawN_le hxl (by omega) (by omega) (by omega)
            have HXL := Lib.hid hxl; clear hxl
            by_cases e1 : n ∈ ns
            · rw [dec_true e1] at hh1
              have := Lib.hid e1; clear e1
              go_wp2_with (go_at_call 44; (first | (with_reducible refine hh1.mono ?_) | (with_reducible refine hh2.mono ?_)); rintro e w' ⟨rfl, rfl⟩)
              go_roundw
              case rel => exact ⟨p + 1, by omega, by go_num, ⟨xs, hO, flawN_p0 HXL.out, hB⟩⟩
              case measure => simp [intOf]; omega
            rw [dec_false e1] at hh1
            have := Lib.hid e1; clear e1
            by_cases e2 : n ∈ ts
            · rw [dec_true e2] at hh2
              have := Lib.hid e2; clear e2
              go_wp2_with (go_at_call 44; (first | (with_reducible refine hh1.mono ?_) | (with_reducible refine hh2.mono ?_)); rintro e w' ⟨rfl, rfl⟩)
              go_roundw
              case rel => exact ⟨p + 1, by omega, by go_num, ⟨xs, hO, flawN_p0 HXL.out, hB⟩⟩
              case measure => simp [intOf]; omega
            · rw [dec_false e2] at hh2
              have := Lib.hid e2; clear e2
              go_wp2_with (first | (go_at_call 44; (first | (with_reducible refine hh1.mono ?_) | (with_reducible refine hh2.mono ?_)); rintro e w' ⟨rfl, rfl⟩) | (go_at_call 58; refine (lay_calls wn.heap.size (fun b => wn.heap.size ≤ b) u5 xs 2 n _ hO hD hB.size (by omega) (by unfold Ty.i64; omega) hns).mono ?_; rintro e w2 ⟨v2, ys, rfl, hyl, hG⟩))
              go_roundw
              case rel => exact ⟨p + 1, by omega, by go_num, FlawR.laid hO hB hG (Nat.le_trans hyl (flawN_p HXL.out))⟩
              case measure => simp [intOf]; omega
    obtain ⟨n, hn⟩ := at_lt ns hlt
    obtain ⟨an, rfl, hns, hcell⟩ := hrN.str hn
    replace hcell := cell_far hcell hB.block
    have hrk : Sl Ty.str wr (.slice (some an) k cN) (ns.take k) := ⟨some an, cN, by rw [List.length_take, Nat.min_eq_left hk], by rw [List.length_take]; omega, n2, by rw [List.length_take]; unfold LB; omega, (hrN.below hB).take k⟩
    clear hn
    have hD : ∀ b, wr.heap.size ≤ b → wn.heap.size ≤ b := fun b hb => by have := hB.size; omega
    have hh1 := has_calls u ts n wr (h'.below hB')
    have hh2 := has_calls (.slice (some an) k cN) (ns.take k) n wr hrk
    by_cases e1 : n ∈ ts
    · rw [dec_true e1] at hh1
      have := Lib.hid e1; clear e1
      go_wp2_with (first | (go_at_call 44; (with_reducible refine hh1.mono ?_); rintro e w' ⟨rfl, rfl⟩) | (go_at_call 58; refine (lay_calls wn.heap.size (fun b => wn.heap.size ≤ b) u5 xs 1 n wr hO hD hB.size (by omega) (by unfold Ty.i64; omega) hns).mono ?_; rintro e w2 ⟨v2, ys, rfl, hyl, hG⟩))
      go_roundw
      case rel => exact ⟨k + 1, by omega, by go_num, FlawR.laid hO hB hG (by omega)⟩
      case measure => simp [intOf]; omega
    rw [dec_false e1] at hh1
    have := Lib.hid e1; clear e1
    by_cases e2 : n ∈ ns.take k
    · rw [dec_true e2] at hh2
      have := Lib.hid e2; clear e2
      go_wp2_with (first | (go_at_call 44; (first | (with_reducible refine hh1.mono ?_) | (with_reducible refine hh2.mono ?_)); rintro e w' ⟨rfl, rfl⟩) | (go_at_call 58; refine (lay_calls wn.heap.size (fun b => wn.heap.size ≤ b) u5 xs 1 n wr hO hD hB.size (by omega) (by unfold Ty.i64; omega) hns).mono ?_; rintro e w2 ⟨v2, ys, rfl, hyl, hG⟩))
      go_roundw
      case rel => exact ⟨k + 1, by omega, by go_num, FlawR.laid hO hB hG (by omega)⟩
      case measure => simp [intOf]; omega
    · rw [dec_false e2] at hh2
      have := Lib.hid e2; clear e2
      go_wp2_with (go_at_call 44; (first | (with_reducible refine hh1.mono ?_) | (with_reducible refine hh2.mono ?_)); rintro e w' ⟨rfl, rfl⟩)
      go_roundw
      case rel => exact ⟨k + 1, by omega, by go_num, ⟨xs, hO, by omega, hB⟩⟩
      case measure => simp [intOf]; omega
end Go.Proofs.Ytgjobbapnileiaa
