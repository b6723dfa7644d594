/- Flaws: it answers some flaws; A region of open order, by one relation over what has been done so far. -/
import Derived.Test.YtigbfankkmmnbaaZ03
import Derived.Orders
set_option linter.unusedVariables false
set_option linter.unusedSimpArgs false
namespace Go.Proofs.Ytigbfankkmmnbaa
open Go.RowKit Gk

/-- the flaws so far: at most n; wn: the world behind Names -/
def FlawR (wn : World) (D : Nat → Prop) (n : Nat) (o : Value) (wr : World) : Prop :=
  ∃ xs : List (Int × ByteArray), Own flawT 129 wn.heap.size D wr o xs ∧ xs.length ≤ n ∧ Below wn.heap.size wn wr
theorem FlawR.laid {wn : World} {D : Nat → Prop} {n : Nat} {o v' : Value} {wr w' : World} {xs xs' : List (Int × ByteArray)} (hO : Own flawT 129 wn.heap.size D wr o xs) (hB : Below wn.heap.size wn wr)
    (hG : Grew flawT 129 wn.heap.size D wr o w' v' xs') (hl : xs'.length ≤ n) : FlawR wn D n v' w' :=
  ⟨xs', hG.own, hl, hB.trans (hG.below hO hB.size)⟩
theorem FlawR.more {wn : World} {D : Nat → Prop} {n m : Nat} {o : Value} {wr : World} (h : FlawR wn D n o wr) (hm : n ≤ m) : FlawR wn D m o wr := by
  obtain ⟨xs, h1, h2, h3⟩ := h; exact ⟨xs, h1, by omega, h3⟩

/-- how many flaws there may be by now -/
def FlawN (k j p : Nat) : Nat := 1000 + 40000 * k + 200 * j + p
theorem flawN_p {k j p n : Nat} (h : n ≤ FlawN k j p) : n + 1 ≤ FlawN k j (p + 1) := by unfold FlawN at h ⊢; omega
theorem flawN_p0 {k j p n : Nat} (h : n ≤ FlawN k j p) : n ≤ FlawN k j (p + 1) := by unfold FlawN at h ⊢; omega
theorem flawN_j {k j p n : Nat} (h : n ≤ FlawN k j p) (hp : p ≤ 200) : n ≤ FlawN k (j + 1) 0 := by unfold FlawN at h ⊢; omega
theorem flawN_k {k j p n : Nat} (h : n ≤ FlawN k j p) (hp : p = 0) (hj : j ≤ 200) : n ≤ FlawN (k + 1) 0 0 := by
  unfold FlawN at h ⊢; omega
theorem flawN_le {k j p n : Nat} (h : n ≤ FlawN k j p) (hk : k ≤ 200) (hj : j ≤ 200) (hp : p ≤ 200) : n ≤ 10000000 := by unfold FlawN at h; omega

set_option maxRecDepth 100000 in
set_option maxHeartbeats 8000000 in
theorem flaws_calls (v u : Value) (rs : Rules) (ts : List ByteArray) (w : World) (h : Sl ruleT w v rs) (h' : Sl Ty.str w u ts) (hs : Short3 rs) (ht : ts.length ≤ 1000) (hu : u = .slice none 0 0 ∨ ∃ ad n c, u = .slice (some ad) n c) :
    Calls Try.prog 79 #[.agg #[v], u] w (gives flawT w (fun _ => True)) := by
  have h0 := h
  obtain ⟨A, c, rfl, hc, hcm, hlb, hr⟩ := h
  unfold LB at hlb
  have hs1 := hs.1
  have hWa : Below w.heap.size w (w.alloc (.cells #[.slice A rs.length c] 82)) := (Below.refl _ _).alloc (Nat.le_refl _) _
  have hbox := Box.new w #[.slice A rs.length c] 82
  have hsa : (w.alloc (.cells #[.slice A rs.length c] 82)).heap.size = w.heap.size + 1 := by simp
  have HSA := Lib.hid hsa; clear hsa
  have HS := Lib.hid hs; clear hs
  go_enter Try.func79, Try.ntmps79
  go_wp2_with (go_at_call 80; refine (names_calls _ rs _ (h0.below hWa) (by omega)).mono ?_; rintro e wn ⟨vN, ns, rfl, hns, hN, hWn⟩; have hboxn := hbox.below hWn; obtain ⟨AN, cN, rfl, n1, n2, n3, hrN⟩ := hN.now; have hnl : ns.length ≤ 1000 := by { rw [hns, List.length_map]; omega }; have HNS := Lib.hid hns; clear hns)
  have hW : Below w.heap.size w wn := below2 hWa hWn
  have hszn : w.heap.size + 1 ≤ wn.heap.size := by have := hWn.size; rw [HSA.out] at this; exact this
  unfold LB at n3
  clear hbox hWn hWa
  go_loopw [25, 5] (fun i o wr => ∃ k : Nat, k ≤ ns.length ∧ i = .int .i64 k ∧ FlawR wn (fun b => wn.heap.size ≤ b) k o wr) (fun i _ _ => ns.length - (intOf i).toNat)
  case atStart => exact ⟨0, Nat.zero_le _, rfl, ⟨[], Own.nil _ _ _ _ _, Nat.le_refl _, Below.refl _ _⟩⟩
  case round =>
    obtain ⟨k, hk, rfl, ⟨xs, hO, hxl, hB⟩⟩ := hrel
    have hB' := hW.trans (hB.mono (show w.heap.size ≤ wn.heap.size by omega))
    by_cases hlt : k < ns.length
    case neg =>
      have hc2 := (hboxn.below hB).cell 0 (v := .slice A rs.length c) rfl
      have hF0 : FlawR wn (fun b => wn.heap.size ≤ b) (FlawN 0 0 0) u5 wr := ⟨xs, hO, by unfold FlawN; omega, hB⟩
      clear hO hxl hB hB'
      go_wp2
      go_loopw [47, 5] (fun i o wr => ∃ k : Nat, k ≤ rs.length ∧ i = .int .i64 k ∧ FlawR wn (fun b => wn.heap.size ≤ b) (FlawN k 0 0) o wr) (fun i _ _ => rs.length - (intOf i).toNat)
      case atStart => exact ⟨0, Nat.zero_le _, rfl, hF0⟩
      case round =>
        clear hF0 hc2 hlt hk
        obtain ⟨k, hk, rfl, ⟨xs, hO, hxl, hB⟩⟩ := hrel
        have hB' := hW.trans (hB.mono (show w.heap.size ≤ wn.heap.size by omega))
        by_cases hlt : k < rs.length
        case neg =>
          have hxl4 : xs.length ≤ 10000000 := flawN_le hxl (by omega) (by omega) (by omega)
          have hbn := hboxn.below hB
          have hc2 := hbn.cell 0 (v := .slice A rs.length c) rfl
          have hOlt := hO.lt
          have hOb := hO.bound
          clear hxl hO
          have hszr := hB.size
          obtain ⟨wf, rfl⟩ : ∃ wf : World, wf = wr := ⟨_, rfl⟩
          go_wp2_with (go_at_call 91; refine (fertile_calls _ _ rs ts _ (h0.below hB') (h'.below hB') HS.out ht hu).mono ?_; rintro e wg ⟨vF, fs, rfl, _, hF, hWf⟩)
          have hF1 := hF.on (w' := wg) (Nat.le_refl _) (fun _ _ _ => rfl)
          have hO1 : FlawR wn (fun b => wn.heap.size ≤ b ∧ (b < wf.heap.size ∨ wg.heap.size ≤ b)) 10000000 u5 wg :=
            ⟨xs, (hOb.mono (D' := fun b => wn.heap.size ≤ b ∧ (b < wf.heap.size ∨ wg.heap.size ≤ b)) (fun b _ h => ⟨h.1, .inl h.2⟩)).below hWf, hxl4, below_then hB hszr hWf⟩
          go_loopw [85, 5] (fun i o wr => ∃ k : Nat, k ≤ ns.length ∧ i = .int .i64 k ∧ FlawR wn (fun b => wn.heap.size ≤ b ∧ (b < wf.heap.size ∨ wg.heap.size ≤ b)) (10000000 + k) o wr ∧ Far (fun b => wf.heap.size ≤ b ∧ b < wg.heap.size) (fun w => Sl Ty.str w vF fs) wr ∧ wg.heap.size ≤ wr.heap.size) (fun i _ _ => ns.length - (intOf i).toNat)
          case atStart => exact ⟨0, Nat.zero_le _, rfl, hO1, hF1, Nat.le_refl _⟩
          case round =>
            clear hO1 hF1 hk hlt
            obtain ⟨k, hk, rfl, ⟨ys, hO, hyl, hB2⟩, hFa, hgs⟩ := hrel
            have hB2' := hW.trans (hB2.mono (show w.heap.size ≤ wn.heap.size by omega))
            by_cases hlt : k < ns.length
            case neg =>
              have hOlt := hO.lt
              have hOb := (hO.mono (D' := fun b => wn.heap.size ≤ b) (fun b _ h => h.1)).bound
              clear hO
              have hszr2 := hB2.size
              have hbn2 := (hboxn.below hB2).cell 0 (v := .slice A rs.length c) rfl
              obtain ⟨wh, rfl⟩ : ∃ wh : World, wh = wr := ⟨_, rfl⟩
              go_wp2_with (go_at_call 92; refine (led_calls _ rs _ (h0.below hB2') HS.out).mono ?_; rintro e wi ⟨vL, ls, rfl, _, hL, hWi⟩)
              have hF1 := hL.on (w' := wi) (Nat.le_refl _) (fun _ _ _ => rfl)
              have hO1 : FlawR wn (fun b => wn.heap.size ≤ b ∧ (b < wh.heap.size ∨ wi.heap.size ≤ b)) 10001000 u5 wi :=
                ⟨ys, (hOb.mono (D' := fun b => wn.heap.size ≤ b ∧ (b < wh.heap.size ∨ wi.heap.size ≤ b)) (fun b _ h => ⟨h.1, .inl h.2⟩)).below hWi, by omega, below_then hB2 hszr2 hWi⟩
              go_loopw [101, 5] (fun i o wr => ∃ k : Nat, k ≤ ns.length ∧ i = .int .i64 k ∧ FlawR wn (fun b => wn.heap.size ≤ b ∧ (b < wh.heap.size ∨ wi.heap.size ≤ b)) (10001000 + k) o wr ∧ Far (fun b => wh.heap.size ≤ b ∧ b < wi.heap.size) (fun w => Sl Ty.str w vL ls) wr ∧ wi.heap.size ≤ wr.heap.size) (fun i _ _ => ns.length - (intOf i).toNat)
              case atStart => exact ⟨0, Nat.zero_le _, rfl, hO1, hF1, Nat.le_refl _⟩
              case round =>
                clear hO1 hF1 hk hlt
                obtain ⟨k, hk, rfl, ⟨ys, hO, hyl, hB2⟩, hFa, hgs⟩ := hrel
                have hB2' := hW.trans (hB2.mono (show w.heap.size ≤ wn.heap.size by omega))
                by_cases hlt : k < ns.length
                case neg =>
                  go_wp2
                  go_ret
                  exact ⟨_, ys, rfl, trivial, hO.far.mono (fun b _ h => by omega), hB2'⟩
                obtain ⟨n, hn⟩ := at_lt ns hlt
                obtain ⟨an, e, hns, hcell⟩ := hrN.str hn
                cases e
                replace hcell := cell_far hcell hB2.block
                clear hn
                have hD : ∀ b, wr.heap.size ≤ b → wn.heap.size ≤ b ∧ (b < wh.heap.size ∨ wi.heap.size ≤ b) := fun b hb => by have := hB2.size; omega
                have hh1 := has_calls vL ls n wr hFa.now
                by_cases e1 : n ∈ ls
                · rw [dec_true e1] at hh1
                  have := Lib.hid e1; clear e1
                  go_wp2_with (go_at_call 78; (with_reducible refine hh1.mono ?_); rintro e w' ⟨rfl, rfl⟩)
                  go_roundw
                  case rel => exact ⟨k + 1, by omega, by go_num, ⟨ys, hO, by omega, hB2⟩, hFa, hgs⟩
                  case measure => simp [intOf]; omega
                · rw [dec_false e1] at hh1
                  have := Lib.hid e1; clear e1
                  have hOin := hO.inD
                  go_wp2_with (first | (go_at_call 78; (with_reducible refine hh1.mono ?_); rintro e w' ⟨rfl, rfl⟩) | (go_at_call 90; refine (lay_calls wn.heap.size (fun b => wn.heap.size ≤ b ∧ (b < wh.heap.size ∨ wi.heap.size ≤ b)) u5 ys 4 n _ hO hD hB2.size (by omega) (by unfold Ty.i64; omega) hns).mono ?_; rintro e w2 ⟨v2, zs, rfl, hzl, hG⟩))
                  go_roundw
                  case rel => exact ⟨k + 1, by omega, by go_num, FlawR.laid hO hB2 hG (by omega),
                    (hFa.on hG.grown.size (fun b h1 h2 => hG.grown.block b h1 (fun e => by have := hOin b e.symm; omega))).mono (fun b _ h => h.1), Nat.le_trans hgs hG.grown.size⟩
                  case measure => simp [intOf]; omega
            obtain ⟨n, hn⟩ := at_lt ns hlt
            obtain ⟨an, e, hns, hcell⟩ := hrN.str hn
            cases e
            replace hcell := cell_far hcell hB2.block
            clear hn
            have hD : ∀ b, wr.heap.size ≤ b → wn.heap.size ≤ b ∧ (b < wf.heap.size ∨ wg.heap.size ≤ b) := fun b hb => by have := hB2.size; omega
            have hh1 := has_calls vF fs n wr hFa.now
            by_cases e1 : n ∈ fs
            · rw [dec_true e1] at hh1
              have := Lib.hid e1; clear e1
              go_wp2_with (go_at_call 78; (with_reducible refine hh1.mono ?_); rintro e w' ⟨rfl, rfl⟩)
              go_roundw
              case rel => exact ⟨k + 1, by omega, by go_num, ⟨ys, hO, by omega, hB2⟩, hFa, hgs⟩
              case measure => simp [intOf]; omega
            · rw [dec_false e1] at hh1
              have := Lib.hid e1; clear e1
              have hOin := hO.inD
              go_wp2_with (first | (go_at_call 78; (with_reducible refine hh1.mono ?_); rintro e w' ⟨rfl, rfl⟩) | (go_at_call 90; refine (lay_calls wn.heap.size (fun b => wn.heap.size ≤ b ∧ (b < wf.heap.size ∨ wg.heap.size ≤ b)) u5 ys 3 n _ hO hD hB2.size (by omega) (by unfold Ty.i64; omega) hns).mono ?_; rintro e w2 ⟨v2, zs, rfl, hzl, hG⟩))
              go_roundw
              case rel => exact ⟨k + 1, by omega, by go_num, FlawR.laid hO hB2 hG (by omega),
                (hFa.on hG.grown.size (fun b h1 h2 => hG.grown.block b h1 (fun e => by have := hOin b e.symm; omega))).mono (fun b _ h => h.1), Nat.le_trans hgs hG.grown.size⟩
              case measure => simp [intOf]; omega
        obtain ⟨x, hx⟩ := at_lt rs hlt
        obtain ⟨ad, B, c2, rfl, hcell0, hcell1, hx1, g1, g2, g3, g4⟩ := Row.rule hr hx
        replace hcell0 := cell_far hcell0 hB'.block
        replace hcell1 := cell_far hcell1 hB'.block
        have hx2 := HS.out.2 x (List.mem_of_getElem? hx)
        have hx21 := hx2.1
        have HX2 := Lib.hid hx2.2
        clear hx hx2
        have hF0 : FlawR wn (fun b => wn.heap.size ≤ b) (FlawN k 0 0) u5 (wr.alloc (.cells #[.string x.1, .slice B x.2.length c2] 97)) := ⟨xs, hO.alloc _, hxl, hB.alloc hB.size _⟩
        have G4 := Lib.hid g4; clear g4
        clear hO hxl hB hB'
        go_wp2
        go_loopw [54, 5] (fun i o wr => ∃ j : Nat, j ≤ x.2.length ∧ i = .int .i64 j ∧ FlawR wn (fun b => wn.heap.size ≤ b) (FlawN k j 0) o wr) (fun i _ _ => x.2.length - (intOf i).toNat)
        case atStart => exact ⟨0, Nat.zero_le _, rfl, hF0⟩
        case round =>
          clear hF0 hcell0 hcell1
          obtain ⟨j, hj, rfl, ⟨xs, hO, hxl, hB⟩⟩ := hrel
          have hB' := hW.trans (hB.mono (show w.heap.size ≤ wn.heap.size by omega))
          by_cases hlt2 : j < x.2.length
          case neg =>
            go_wp2
            go_roundw
            case rel => exact ⟨k + 1, by omega, by go_num, ⟨xs, hO, flawN_k hxl rfl (by omega), hB⟩⟩
            case measure => simp [intOf]; omega
          obtain ⟨a, ha⟩ := at_lt x.2 hlt2
          obtain ⟨ad2, Y, c3, rfl, hcell2, g5, g6, g7, g8⟩ := G4.out.slice ha
          replace hcell2 := cell_far hcell2 hB'.block
          have hal := HX2.out a (List.mem_of_getElem? ha)
          clear ha
          have hF0 : FlawR wn (fun b => wn.heap.size ≤ b) (FlawN k j 0) u5 wr := ⟨xs, hO, hxl, hB⟩
          clear hO hxl hB hB'
          go_wp2
          go_loopw [60, 5] (fun i o wr => ∃ p : Nat, p ≤ a.length ∧ i = .int .i64 p ∧ FlawR wn (fun b => wn.heap.size ≤ b) (FlawN k j p) o wr) (fun i _ _ => a.length - (intOf i).toNat)
          case atStart => exact ⟨0, Nat.zero_le _, rfl, hF0⟩
          case round =>
            clear hF0 hcell2
            obtain ⟨p, hp, rfl, ⟨xs, hO, hxl, hB⟩⟩ := hrel
            have hB' := hW.trans (hB.mono (show w.heap.size ≤ wn.heap.size by omega))
            by_cases hlt3 : p < a.length
            case neg =>
              go_wp2
              go_roundw
              case rel => exact ⟨j + 1, by omega, by go_num, ⟨xs, hO, flawN_j hxl (by omega), hB⟩⟩
              case measure => simp [intOf]; omega
            obtain ⟨n, hn⟩ := at_lt a hlt3
            obtain ⟨ad3, rfl, hns, hcell3⟩ := g8.str hn
            replace hcell3 := cell_far hcell3 hB'.block
            clear hn
            have hD : ∀ b, wr.heap.size ≤ b → wn.heap.size ≤ b := fun b hb => by have := hB.size; omega
            have hh1 := has_calls (.slice AN ns.length cN) ns n wr ⟨AN, cN, rfl, n1, n2, by unfold LB; exact n3, hrN.below hB⟩
            have hh2 := has_calls u ts n wr (h'.below hB')
            have hxl4 := flawN_le hxl (by omega) (by omega) (by omega)
            have HXL := Lib.hid hxl; clear hxl
            by_cases e1 : n ∈ ns
            · rw [dec_true e1] at hh1
              have := Lib.hid e1; clear e1
              go_wp2_with (go_at_call 78; (first | (with_reducible refine hh1.mono ?_) | (with_reducible refine hh2.mono ?_)); rintro e w' ⟨rfl, rfl⟩)
              go_roundw
              case rel => exact ⟨p + 1, by omega, by go_num, ⟨xs, hO, flawN_p0 HXL.out, hB⟩⟩
              case measure => simp [intOf]; omega
            rw [dec_false e1] at hh1
            have := Lib.hid e1; clear e1
            by_cases e2 : n ∈ ts
            · rw [dec_true e2] at hh2
              have := Lib.hid e2; clear e2
              go_wp2_with (go_at_call 78; (first | (with_reducible refine hh1.mono ?_) | (with_reducible refine hh2.mono ?_)); rintro e w' ⟨rfl, rfl⟩)
              go_roundw
              case rel => exact ⟨p + 1, by omega, by go_num, ⟨xs, hO, flawN_p0 HXL.out, hB⟩⟩
              case measure => simp [intOf]; omega
            · rw [dec_false e2] at hh2
              have := Lib.hid e2; clear e2
              go_wp2_with (first | (go_at_call 78; (first | (with_reducible refine hh1.mono ?_) | (with_reducible refine hh2.mono ?_)); rintro e w' ⟨rfl, rfl⟩) | (go_at_call 90; refine (lay_calls wn.heap.size (fun b => wn.heap.size ≤ b) u5 xs 2 n _ hO hD hB.size (by omega) (by unfold Ty.i64; omega) hns).mono ?_; rintro e w2 ⟨v2, ys, rfl, hyl, hG⟩))
              go_roundw
              case rel => exact ⟨p + 1, by omega, by go_num, FlawR.laid hO hB hG (Nat.le_trans hyl (flawN_p HXL.out))⟩
              case measure => simp [intOf]; omega
    obtain ⟨n, hn⟩ := at_lt ns hlt
    obtain ⟨an, rfl, hns, hcell⟩ := hrN.str hn
    replace hcell := cell_far hcell hB.block
    have hrk : Sl Ty.str wr (.slice (some an) k cN) (ns.take k) := ⟨some an, cN, by rw [List.length_take, Nat.min_eq_left hk], by rw [List.length_take]; omega, n2, by rw [List.length_take]; unfold LB; omega, (hrN.below hB).take k⟩
    clear hn
    have hD : ∀ b, wr.heap.size ≤ b → wn.heap.size ≤ b := fun b hb => by have := hB.size; omega
    have hh1 := has_calls u ts n wr (h'.below hB')
    have hh2 := has_calls (.slice (some an) k cN) (ns.take k) n wr hrk
    by_cases e1 : n ∈ ts
    · rw [dec_true e1] at hh1
      have := Lib.hid e1; clear e1
      go_wp2_with (first | (go_at_call 78; (with_reducible refine hh1.mono ?_); rintro e w' ⟨rfl, rfl⟩) | (go_at_call 90; refine (lay_calls wn.heap.size (fun b => wn.heap.size ≤ b) u5 xs 1 n wr hO hD hB.size (by omega) (by unfold Ty.i64; omega) hns).mono ?_; rintro e w2 ⟨v2, ys, rfl, hyl, hG⟩))
      go_roundw
      case rel => exact ⟨k + 1, by omega, by go_num, FlawR.laid hO hB hG (by omega)⟩
      case measure => simp [intOf]; omega
    rw [dec_false e1] at hh1
    have := Lib.hid e1; clear e1
    by_cases e2 : n ∈ ns.take k
    · rw [dec_true e2] at hh2
      have := Lib.hid e2; clear e2
      go_wp2_with (first | (go_at_call 78; (first | (with_reducible refine hh1.mono ?_) | (with_reducible refine hh2.mono ?_)); rintro e w' ⟨rfl, rfl⟩) | (go_at_call 90; refine (lay_calls wn.heap.size (fun b => wn.heap.size ≤ b) u5 xs 1 n wr hO hD hB.size (by omega) (by unfold Ty.i64; omega) hns).mono ?_; rintro e w2 ⟨v2, ys, rfl, hyl, hG⟩))
      go_roundw
      case rel => exact ⟨k + 1, by omega, by go_num, FlawR.laid hO hB hG (by omega)⟩
      case measure => simp [intOf]; omega
    · rw [dec_false e2] at hh2
      have := Lib.hid e2; clear e2
      go_wp2_with (go_at_call 78; (first | (with_reducible refine hh1.mono ?_) | (with_reducible refine hh2.mono ?_)); rintro e w' ⟨rfl, rfl⟩)
      go_roundw
      case rel => exact ⟨k + 1, by omega, by go_num, ⟨xs, hO, by omega, hB⟩⟩
      case measure => simp [intOf]; omega
end Go.Proofs.Ytigbfankkmmnbaa
set_option linter.unusedVariables false
set_option linter.unusedSimpArgs false
namespace Gk
open Go Go.RowKit
section
variable {P : Program} {ops : Array Oper} {Q : Exit → Act → World → Prop}

def dstOf (ops : Array Oper) (j : Nat) : Option Tmp := (ops[j]?).bind (·.dst)
/-- the operation that fills a slot -/
def dstIdx (ops : Array Oper) (t : Tmp) : Option Nat := (List.range ops.size).find? fun j => dstOf ops j == some t
/-- each slot is filled by one operation, guards and edges look back, no select -/
def regOk (ops : Array Oper) (n : Nat) : Bool :=
  (List.range ops.size).all fun j => match ops[j]? with
    | none => false
    | some o => (match o.dst with | some t => dstIdx ops t == some j && decide (t < n) | none => true) && o.after.toList.all (fun e => decide (e.on < j)) &&
      (match o.guard with | some (g, _) => o.after.toList.any (fun e => e.on == g && Region.binds .any e) | none => true) &&
      o.op.operands.toList.all (fun x => match x with | .tmp t => (match dstIdx ops t with | some k => o.after.toList.any (fun e => e.on == k && Region.binds .any e) | none => true) | _ => true) &&
      (match o.op with | .select .. => false | .defer .. => false | _ => true)
def up (L : Nat → Bool) (i : Nat) : Nat → Bool := fun j => if j = i then true else L j
def upd (val : Nat → Value) (i : Nat) (v : Value) : Nat → Value := fun j => if j = i then v else val j
/-- what a slot holds -/
def slotv (ops : Array Oper) (a0 : Act) (L : Nat → Bool) (val : Nat → Value) (t : Tmp) : Value :=
  match dstIdx ops t with
  | some j => if L j then val j else a0.tmps.getD t undef
  | none => a0.tmps.getD t undef
/-- what an operand is, all that it waits for being done -/
def opv (ops : Array Oper) (a0 : Act) (val : Nat → Value) : Operand → Value
  | .tmp t => match dstIdx ops t with
    | some j => val j
    | none => a0.tmps.getD t undef
  | .const v => v
  | .global g => .pointer (some ⟨g, 0, none⟩)
  | .func f => .func (.func f) #[] #[]
def guardv (val : Nat → Value) (ops : Array Oper) : Option (Nat × Bool) → Bool
  | none => true
  | some (g, want) => (match dstOf ops g with | some _ => (match val g with | .bool b => b == want | _ => false) | none => false)
/-- the frame is a0, and what has been done -/
structure Fr (ops : Array Oper) (a0 : Act) (L : Nat → Bool) (val : Nat → Value) (a : Act) : Prop where
  defers : a.defers = a0.defers
  size : a.tmps.size = a0.tmps.size
  slot : ∀ t, a.tmps.getD t undef = slotv ops a0 L val t
/-- what one operation must do -/
def does (P : Program) (r : Result Next) (K : Value → World → Prop) : Prop :=
  match r with
  | .ok (.value v) w' => K v w'
  | .ok .skip w' => K undef w'
  | .ok (.enter f args) w' => Calls P f args w' fun e w'' => ∃ v, e = .returned v ∧ K v w''
  | _ => False
def StepOb (P : Program) (ops : Array Oper) (a0 : Act) (I : (Nat → Bool) → (Nat → Value) → World → Prop) (i : Nat) : Prop :=
  ∀ o, ops[i]? = some o → ∀ L val w, I L val w → L i = false → (∀ e ∈ o.after, Region.binds .any e = true → L e.on = true) →
    if guardv val ops o.guard = true then does P ((execOp (opv ops a0 val) o).run P w) (fun v w' => I (up L i) (upd val i v) w') else I (up L i) (upd val i undef) w

theorem regOk_at {n : Nat} (h : regOk ops n = true) {j : Nat} {o : Oper} (hj : ops[j]? = some o) :
    (∀ t : Nat, o.dst = some t → dstIdx ops t = some j ∧ t < n) ∧ (∀ e ∈ o.after, e.on < j) ∧ (∀ g b, o.guard = some (g, b) → ∃ e ∈ o.after, e.on = g ∧ Region.binds .any e = true) ∧
    (∀ t k, .tmp t ∈ o.op.operands → dstIdx ops t = some k → ∃ e ∈ o.after, e.on = k ∧ Region.binds .any e = true) ∧ (∀ cs b, o.op ≠ .select cs b) ∧ (∀ c, o.op ≠ .defer c) := by
  have hlt : j < ops.size := (Array.getElem?_eq_some_iff.1 hj).1
  have h1 := List.all_eq_true.1 h j (List.mem_range.2 hlt)
  rw [hj] at h1
  simp only [Bool.and_eq_true] at h1
  obtain ⟨⟨⟨⟨h1, h2⟩, h3⟩, h4⟩, h5⟩ := h1
  refine ⟨fun t ht => ?_, fun e he => ?_, fun g b hg => ?_, fun t k ht hk => ?_, fun cs b hs => ?_, fun c hc => ?_⟩
  · rw [ht] at h1; simp at h1; exact h1
  · have := List.all_eq_true.1 h2 e (Array.mem_toList_iff.2 he); simpa using this
  · rw [hg] at h3
    obtain ⟨e, he, h3⟩ := List.any_eq_true.1 h3
    simp at h3; exact ⟨e, Array.mem_toList_iff.1 he, h3.1, h3.2⟩
  · have h4 := List.all_eq_true.1 h4 _ (Array.mem_toList_iff.2 ht)
    simp only [hk] at h4
    obtain ⟨e, he, h4⟩ := List.any_eq_true.1 h4
    simp at h4; exact ⟨e, Array.mem_toList_iff.1 he, h4.1, h4.2⟩
  · rw [hs] at h5; simp at h5
  · rw [hc] at h5; simp at h5

theorem Fr.put {n : Nat} (h : regOk ops n = true) {a0 a : Act} {L : Nat → Bool} {val : Nat → Value} (hn : n ≤ a0.tmps.size) (hf : Fr ops a0 L val a) {i : Nat} {o : Oper} (hi : ops[i]? = some o) (v : Value) : Fr ops a0 (up L i) (upd val i v) (a.put o.dst v) := by
  obtain ⟨h1, h2, h3, h4, h5⟩ := regOk_at h hi
  have hother : ∀ t, o.dst ≠ some t → slotv ops a0 (up L i) (upd val i v) t = slotv ops a0 L val t := by
    intro t ht
    unfold slotv
    split
    · rename_i j hj
      have hji : j ≠ i := by
        rintro rfl
        have := List.find?_some hj
        simp [dstOf, hi] at this
        exact ht this
      simp [up, upd, hji]
    · rfl
  cases hd : o.dst with
  | none => exact ⟨hf.defers, hf.size, fun t => by rw [hother t (by simp [hd])]; exact hf.slot t⟩
  | some d =>
    obtain ⟨e1, e2⟩ := h1 d hd
    refine ⟨hf.defers, by simp [Act.put, hf.size], fun t => ?_⟩
    by_cases htd : t = d
    · subst htd
      have hsz : t < a.tmps.size := by rw [hf.size]; exact Nat.lt_of_lt_of_le e2 hn
      simp [Act.put, slotv, e1, up, upd, Array.getD_eq_getD_getElem?, hsz]
    · rw [hother t (by rw [hd]; intro e; injection e with e; exact htd e.symm), ← hf.slot t]
      simp only [Act.put, Array.getD_eq_getD_getElem?]
      rw [Array.getElem?_setIfInBounds_ne (by intro e; exact htd e.symm)]

theorem Fr.exec {n : Nat} (h : regOk ops n = true) {a0 a : Act} {L : Nat → Bool} {val : Nat → Value} (hf : Fr ops a0 L val a) {i : Nat} {o : Oper} (hi : ops[i]? = some o) (hL : ∀ e ∈ o.after, Region.binds .any e = true → L e.on = true) :
    execOp a.eval o = execOp (opv ops a0 val) o := by
  obtain ⟨h1, h2, h3, h4, h5, h6⟩ := regOk_at h hi
  refine execOp_congr o h5 fun x hx => ?_
  cases x with
  | tmp t =>
    show a.tmps.getD t undef = _
    rw [hf.slot t]
    show _ = (match dstIdx ops t with | some j => val j | none => a0.tmps.getD t undef)
    unfold slotv
    split
    · rename_i j hj
      obtain ⟨e, he, hej, hb⟩ := h4 t j hx hj
      rw [if_pos (by rw [← hej]; exact hL e he hb)]
    · rfl
  | const v => rfl
  | global g => rfl
  | func f => rfl
theorem Fr.wanted {n : Nat} (h : regOk ops n = true) {a0 a : Act} {L : Nat → Bool} {val : Nat → Value} (hn : n ≤ a0.tmps.size) (hf : Fr ops a0 L val a) {i : Nat} {o : Oper} (hi : ops[i]? = some o) (hL : ∀ e ∈ o.after, Region.binds .any e = true → L e.on = true) :
    Region.wanted o (yielded ops a.tmps) = guardv val ops o.guard := by
  obtain ⟨h1, h2, h3, h4, h5, h6⟩ := regOk_at h hi
  unfold Region.wanted guardv
  cases hg : o.guard with
  | none => rfl
  | some gb =>
    obtain ⟨g, b⟩ := gb
    obtain ⟨e, he, heg, hb⟩ := h3 g b hg
    have hLg : L g = true := by rw [← heg]; exact hL e he hb
    simp only [yielded, dstOf]
    cases hog : ops[g]? with
    | none => rfl
    | some og =>
      simp only [Option.bind_some]
      cases hdg : og.dst with
      | none => rfl
      | some d =>
        obtain ⟨e1, e2⟩ := (regOk_at h hog).1 d hdg
        have hs := hf.slot d
        unfold slotv at hs
        rw [e1] at hs
        simp only [hLg, if_true] at hs
        have hsz : d < a.tmps.size := by rw [hf.size]; exact Nat.lt_of_lt_of_le e2 hn
        have hv : a.tmps[d]? = some (val g) := by
          rw [← hs]; simp [Array.getD_eq_getD_getElem?, hsz]
        simp only [Option.bind_some, hv]
        cases val g <;> first | rfl | simp

theorem wp_of_does {o : Oper} {a : Act} {w : World} {K : Value → World → Prop} {K' : Act → World → Prop} (h : does P ((execOp a.eval o).run P w) K) (hk : ∀ v w', K v w' → K' (a.put o.dst v) w') : o.wp P a w K' Q := by
  unfold Oper.wp
  generalize (execOp a.eval o).run P w = r at *
  cases r with
  | ok n w' =>
    cases n <;> simp only [does] at h <;> simp only [Oper.upon]
    case value v => exact hk _ _ h
    case skip => exact hk _ _ h
    case enter f args => exact h.mono fun e w'' ⟨v, he, hK⟩ => by subst he; exact hk _ _ hK
  | halt x w' => cases x <;> simp only [does] at h

/-- how many are still to be done -/
def todo (L : Nat → Bool) (n : Nat) : Nat := ((List.range n).filter fun j => !L j).length
theorem todo_up {L : Nat → Bool} {i n : Nat} (hi : i < n) (hL : L i = false) : todo (up L i) n + 1 = todo L n := by
  unfold todo
  induction n with
  | zero => omega
  | succ n ih =>
    rw [List.range_succ, List.filter_append, List.filter_append, List.length_append, List.length_append]
    by_cases hin : i = n
    · subst hin
      have h1 : (List.range i).filter (fun j => !up L i j) = (List.range i).filter (fun j => !L j) := by
        apply List.filter_congr
        intro j hj
        have := List.mem_range.1 hj
        simp [up, show j ≠ i by omega]
      rw [h1]; simp [up, hL]
    · have := ih (by omega)
      have h2 : up L i n = L n := by simp [up, show n ≠ i by omega]
      simp only [List.filter_cons, List.filter_nil, h2]
      omega
theorem wpAny_inv {n : Nat} (h : regOk ops n = true) {a0 : Act} (hn : n ≤ a0.tmps.size) (I : (Nat → Bool) → (Nat → Value) → World → Prop) (hs : ∀ i, i < ops.size → StepOb P ops a0 I i)
    (hend : ∀ val w a, I (fun j => decide (j < ops.size)) val w → Fr ops a0 (fun j => decide (j < ops.size)) val a → Q .normal a w) :
    ∀ (fuel : Nat) (L : Nat → Bool) (val : Nat → Value) (l : Array Bool) (a : Act) (w : World), todo L ops.size ≤ fuel → l.size = ops.size → (∀ j, j < ops.size → l.getD j true = L j) → (∀ j, ops.size ≤ j → L j = false) → I L val w → Fr ops a0 L val a →
      wpAny P .any ops Q fuel l a w := by
  intro fuel
  -- where nothing may come up all is done
  have hall : ∀ (L : Nat → Bool) (l : Array Bool), l.size = ops.size → (∀ j, j < ops.size → l.getD j true = L j) → Region.ready .any ops l = [] → ∀ j, j < ops.size → L j = true := by
    intro L l hl hL hr j
    induction j using Nat.strongRecOn with
    | _ j ih =>
      intro hj
      rcases hLj : L j with _ | _
      · exfalso
        have hoj : ops[j]? = some ops[j] := Array.getElem?_eq_getElem hj
        have hmem : j ∈ Region.ready .any ops l := by
          unfold Region.ready
          rw [List.mem_filter]
          refine ⟨List.mem_range.2 hj, ?_⟩
          rw [hL j hj, hLj, hoj]
          simp only [Bool.not_false, Bool.true_and, Option.map_some, Option.getD_some]
          rw [Array.all_eq_true_iff_forall_mem]
          intro e he
          have hlt := (regOk_at h hoj).2.1 e he
          have := ih e.on hlt (by omega)
          have h2 := hL e.on (by omega)
          rw [this] at h2
          have h3 : l.getD e.on false = true := by
            rw [Array.getD_eq_getD_getElem?] at h2 ⊢
            rw [Array.getElem?_eq_getElem (by omega)] at h2 ⊢
            simpa using h2
          simp [h3]
        rw [hr] at hmem; simp at hmem
      · rfl
  have hdone : ∀ (L : Nat → Bool) (val : Nat → Value) (l : Array Bool) (a : Act) (w : World), l.size = ops.size → (∀ j, j < ops.size → l.getD j true = L j) → (∀ j, ops.size ≤ j → L j = false) → I L val w → Fr ops a0 L val a → Region.ready .any ops l = [] → Q .normal a w := by
    intro L val l a w hl hL hL2 hI hF hr
    have : L = fun j => decide (j < ops.size) := by
      funext j
      by_cases hj : j < ops.size
      · rw [hall L l hl hL hr j hj]; simp [hj]
      · rw [hL2 j (by omega)]; simp [hj]
    subst this
    exact hend val w a hI hF
  induction fuel with
  | zero =>
    intro L val l a w ht hl hL hL2 hI hF
    have hr : Region.ready .any ops l = [] := by
      unfold Region.ready
      rw [List.filter_eq_nil_iff]
      intro j hj
      have hj := List.mem_range.1 hj
      have : L j = true := by
        rcases hLj : L j with _ | _
        · exfalso
          have : j ∈ (List.range ops.size).filter fun j => !L j := List.mem_filter.2 ⟨List.mem_range.2 hj, by simp [hLj]⟩
          have := List.length_pos_of_mem this
          unfold todo at ht; omega
        · rfl
      rw [hL j hj, this]; simp
    exact ⟨hr, hdone L val l a w hl hL hL2 hI hF hr⟩
  | succ fuel ih =>
    intro L val l a w ht hl hL hL2 hI hF
    refine ⟨hdone L val l a w hl hL hL2 hI hF, fun i hi => ?_⟩
    unfold Region.ready at hi
    rw [List.mem_filter] at hi
    obtain ⟨hi1, hi2⟩ := hi
    have hi1 := List.mem_range.1 hi1
    have hoi : ops[i]? = some ops[i] := Array.getElem?_eq_getElem hi1
    rw [hL i hi1, hoi] at hi2
    simp only [Bool.and_eq_true, Bool.not_eq_true', Option.map_some, Option.getD_some] at hi2
    obtain ⟨hLi, hdep⟩ := hi2
    have hdep' : ∀ e ∈ ops[i].after, Region.binds .any e = true → L e.on = true := by
      intro e he hb
      have h1 := Array.all_eq_true_iff_forall_mem.1 hdep e he
      have hlt := (regOk_at h hoi).2.1 e he
      simp only [hb, Bool.not_true, Bool.false_or] at h1
      rw [← hL e.on (by omega)]
      rw [Array.getD_eq_getD_getElem?] at h1 ⊢
      rw [Array.getElem?_eq_getElem (by omega)] at h1 ⊢
      simpa using h1
    have hob := hs i hi1 ops[i] hoi L val w hI hLi hdep'
    have hnext : ∀ v w', I (up L i) (upd val i v) w' → wpAny P .any ops Q fuel (l.setIfInBounds i true) (a.put ops[i].dst v) w' := by
      intro v w' hI'
      refine ih (up L i) (upd val i v) _ _ w' (by have := todo_up hi1 hLi; omega) (by simpa using hl) ?_ ?_ hI' (hF.put h hn hoi v)
      · intro j hj
        by_cases hji : j = i
        · subst hji
          simp [Array.getD_eq_getD_getElem?, up, hl, hj]
        · rw [Array.getD_eq_getD_getElem?, Array.getElem?_setIfInBounds_ne (by intro e; exact hji e.symm), ← Array.getD_eq_getD_getElem?, hL j hj]
          simp [up, hji]
      · intro j hj
        simp [up, show j ≠ i by omega, hL2 j hj]
    unfold wpOp
    rw [hoi]
    simp only []
    rw [hF.wanted h hn hoi hdep']
    by_cases hw : guardv val ops ops[i].guard = true
    · rw [if_pos hw] at hob ⊢
      left
      rw [← hF.exec h hoi hdep'] at hob
      exact wp_of_does hob hnext
    · rw [if_neg hw] at hob ⊢
      exact hnext undef w hob

theorem StepOb.of {a0 : Act} {I : (Nat → Bool) → (Nat → Value) → World → Prop} {i : Nat} {o : Oper} (ho : ops[i]? = some o) (hg : o.guard = none)
    (h : ∀ L val w, I L val w → L i = false → (∀ e ∈ o.after.toList, Region.binds .any e = true → L e.on = true) → does P ((execOp (opv ops a0 val) o).run P w) (fun v w' => I (up L i) (upd val i v) w')) : StepOb P ops a0 I i := by
  intro o' ho' L val w hI hL hd
  rw [ho] at ho'; cases ho'
  rw [hg]
  exact h L val w hI hL fun e he hb => hd e (Array.mem_toList_iff.1 he) hb
theorem exec_append {ρ : Operand → Value} {o : Oper} {s x : Operand} {t : TypeId} {v u v1 : Value} {w w1 : World} (ho : o.op = .call { callee := .builtin .append, args := #[s, x], argTypes := #[t, t] })
    (hs : ρ s = v) (hx : ρ x = u) (hr : (Builtin.append_ #[t, t] o.type #[v, u]).run P w = .ok v1 w1) : (execOp ρ o).run P w = .ok (.value v1) w1 := by
  unfold execOp
  simp only [ho, resolve, invoke, builtin, Sem.run_bind, Sem.run_pure, Result.andThen_ok, List.map_toArray, List.map_cons, List.map_nil, hs, hx, hr]
theorem exec_load {ρ : Operand → Value} {o : Oper} {x : Operand} {t : TypeId} {a : Addr} {v : Value} {w : World} (ho : o.op = .load t x) (hx : ρ x = .pointer (some a)) (hr : (loadVar t a).run P w = .ok v w) : (execOp ρ o).run P w = .ok (.value v) w := by
  unfold execOp
  simp only [ho, hx, Instr.loadAt, Instr.sureAddr, Sem.run_bind, Sem.run_pure, Result.andThen_ok, hr]
theorem exec_call {ρ : Operand → Value} {o : Oper} {f : FuncId} {ars : Array Operand} {ts : Array TypeId} {A : Array Value} {w : World} {fn : Func} (ho : o.op = .call { callee := .value (.func f), args := ars, argTypes := ts }) (hρ : ρ (.func f) = .func (.func f) #[] #[]) (hA : ars.map ρ = A)
    (hf : P.funcs[f]? = some fn) (hn : (fn.name == "runtime.NumGoroutine") = false) (hb : fn.body.isNone = false) : (execOp ρ o).run P w = .ok (.enter f A) w := by
  have hc : (callFunc f A).run P w = .ok (.enter f A) w := by
    simp [callFunc, program, Sem.run, hf, Sem.run_bind]
    rw [if_neg (by simpa using hn), if_neg (by intro e; rw [e] at hb; simp at hb)]
  unfold execOp
  simp only [ho, resolve, Deferred.ofValue, hρ, hA, Sem.run_bind, Sem.run_pure, Result.andThen_ok, invoke]
  simpa using hc
theorem exec_alloc {ρ : Operand → Value} {o : Oper} {t : TypeId} {z : Value} {w : World} (ho : o.op = .alloc t) (hz : (zeroValue t).run P w = .ok z w) : (execOp ρ o).run P w = .ok (.value (.pointer (some ⟨w.heap.size, 0, none⟩))) (w.alloc (.cells z.cells t)) := by
  unfold execOp
  simp only [ho, Instr.alloc, Sem.run_bind, Sem.run_pure, Result.andThen_ok, hz, newVar, newRow, newObj]
  rfl
theorem exec_build {ρ : Operand → Value} {o : Oper} {t : TypeId} {ps : Array (Nat × Operand)} {A : Array (Nat × Value)} {v : Value} {w : World} (ho : o.op = .build t ps) (hA : (ps.map fun (i, x) => (i, ρ x)) = A) (hr : (Instr.build t A).run P w = .ok v w) : (execOp ρ o).run P w = .ok (.value v) w := by
  unfold execOp
  simp only [ho, hA, Sem.run_bind, Sem.run_pure, Result.andThen_ok, hr]
theorem exec_store {ρ : Operand → Value} {o : Oper} {t : TypeId} {x y : Operand} {a : Addr} {v : Value} {w w' : World} (ho : o.op = .store t x y) (hx : ρ x = .pointer (some a)) (hy : ρ y = v) (hr : (storeVar t a v).run P w = .ok () w') : (execOp ρ o).run P w = .ok .skip w' := by
  unfold execOp
  simp only [ho, hx, hy, Instr.storeAt, Instr.sureAddr, Sem.run_bind, Sem.run_pure, Result.andThen_ok, hr]
theorem does_value {r : Result Next} {K : Value → World → Prop} {v : Value} {w : World} (hr : r = .ok (.value v) w) (h : K v w) : does P r K := by rw [hr]; exact h
theorem does_skip {r : Result Next} {K : Value → World → Prop} {w : World} (hr : r = .ok .skip w) (h : K undef w) : does P r K := by rw [hr]; exact h
theorem does_enter {r : Result Next} {K : Value → World → Prop} {w : World} {f : FuncId} {args : Array Value} (hr : r = .ok (.enter f args) w) (h : Calls P f args w fun e w' => ∃ v, e = .returned v ∧ K v w') : does P r K := by rw [hr]; exact h
/-- all destinations filled -/
def fillAll (ops : Array Oper) (val : Nat → Value) (a0 : Act) : Act := (List.range ops.size).foldl (fun a j => a.put (dstOf ops j) (val j)) a0
theorem Fr.start (a0 : Act) (val : Nat → Value) : Fr ops a0 (fun _ => false) val a0 := ⟨rfl, rfl, fun t => by unfold slotv; split <;> simp⟩
theorem Fr.fillTo {n : Nat} (h : regOk ops n = true) {a0 : Act} (hn : n ≤ a0.tmps.size) (val : Nat → Value) : ∀ m, m ≤ ops.size → Fr ops a0 (fun j => decide (j < m)) val ((List.range m).foldl (fun a j => a.put (dstOf ops j) (val j)) a0) := by
  intro m
  induction m with
  | zero => intro _; simpa using Fr.start (ops := ops) a0 val
  | succ m ih =>
    intro hm
    have h1 := (ih (by omega)).put h hn (i := m) (o := ops[m]) (Array.getElem?_eq_getElem (by omega)) (val m)
    rw [List.range_succ, List.foldl_append]
    simp only [List.foldl_cons, List.foldl_nil]
    have e1 : dstOf ops m = ops[m].dst := by simp [dstOf, Array.getElem?_eq_getElem (show m < ops.size by omega)]
    rw [e1]
    refine ⟨h1.defers, h1.size, fun t => ?_⟩
    rw [h1.slot t]
    unfold slotv
    split
    · rename_i j hj
      by_cases hjm : j = m
      · subst hjm; simp [up, upd]
      · have : (decide (j < m + 1)) = decide (j < m) := by
          by_cases h2 : j < m
          · simp [h2, show j < m + 1 by omega]
          · simp [h2, show ¬ j < m + 1 by omega]
        simp [up, upd, hjm, this]
    · rfl
theorem Fr.eq {a0 a a' : Act} {L : Nat → Bool} {val : Nat → Value} (h : Fr ops a0 L val a) (h' : Fr ops a0 L val a') : a = a' := by
  obtain ⟨t, d⟩ := a
  obtain ⟨t', d'⟩ := a'
  have e1 : d = d' := h.defers.trans h'.defers.symm
  subst e1
  congr 1
  apply Array.ext
  · exact h.size.trans h'.size.symm
  · intro i h1 h2
    have h3 := (h.slot i).trans (h'.slot i).symm
    simpa [Array.getD_eq_getD_getElem?, h1, h2] using h3
/-- THE RULE: the region's operations, whatever their order. -/
theorem wp_region_inv {id : Nat} {l : List Oper} {a0 : Act} {w : World} (hm : P.follows .mixedOrders = true) (h : regOk l.toArray a0.tmps.size = true) (I : (Nat → Bool) → (Nat → Value) → World → Prop) (val0 : Nat → Value)
    (h0 : I (fun _ => false) val0 (w.drewN 1)) (hs : ∀ i, i < l.length → StepOb P l.toArray a0 I i)
    (hend : ∀ val w, I (fun j => decide (j < l.length)) val w → Q .normal (fillAll l.toArray val a0) w) : (Code.region id l.toArray true).wp P Q a0 w := by
  refine wp_region_any hm ?_
  refine wpAny_inv h (Nat.le_refl _) I (by simpa using hs) (fun val w' a hI hF => ?_) _ (fun _ => false) val0 _ a0 _ ?_ (by simp) ?_ (by simp) h0 (Fr.start a0 val0)
  · have := hF.eq (Fr.fillTo h (Nat.le_refl _) val l.toArray.size (Nat.le_refl _))
    rw [this]
    exact hend val w' (by simpa using hI)
  · unfold todo; exact Nat.le_trans (List.length_filter_le _ _) (by simp)
  · intro j hj
    simp [Array.getD_eq_getD_getElem?, Array.getElem?_replicate, show j < l.length by simpa using hj]
end
end Gk
