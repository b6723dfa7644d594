/- led: it answers some names. -/
import Derived.Test.YtgjobbapnileiaaFert
import Derived.Test.YtgjobbapnileiaaTy2
set_option linter.unusedVariables false
set_option linter.unusedSimpArgs false
namespace Go.Proofs.Ytgjobbapnileiaa
open Go.RowKit Gk

/-- all names that stand in a grammar -/
def allNames (rs : Rules) : List ByteArray := rs.map (·.1) ++ rs.flatMap fun r => r.2.flatten
theorem allNames_le {rs : Rules} (h : Short3 rs) : (allNames rs).length ≤ 20000000 := by
  have h2 := flatMap_le (fun r : ByteArray × List (List ByteArray) => r.2.flatten) (200 * 200) rs fun r hr => by
    have hr2 := h.2 r hr
    have := flatMap_le (fun a : List ByteArray => a) 200 r.2 fun a ha => hr2.2 a ha
    simp only [List.flatMap_id'] at this
    exact Nat.le_trans this (Nat.mul_le_mul_right _ hr2.1)
  have h1 := h.1
  unfold allNames
  rw [List.length_append, List.length_map]
  have : rs.length * (200 * 200) ≤ 200 * (200 * 200) := Nat.mul_le_mul_right _ h1
  omega
def LedR (w : World) (rs : Rules) (D : Nat → Prop) (n : Nat) (o : Value) (wr : World) : Prop :=
  ∃ xs : List ByteArray, Own Ty.str 9 (w.heap.size + 1) D wr o xs ∧ xs.Nodup ∧ (∀ x ∈ xs, x ∈ allNames rs) ∧ n ≤ xs.length ∧ Below w.heap.size w wr ∧ w.heap.size + 1 ≤ wr.heap.size

set_option maxRecDepth 100000 in
set_option maxHeartbeats 4000000 in
theorem led_calls (v : Value) (rs : Rules) (w : World) (h : Sl ruleT w v rs) (hs : Short3 rs) :
    Calls Try.prog 60 #[.agg #[v]] w (gives Ty.str w (fun _ => True)) := by
  obtain ⟨A, c, rfl, hc, hcm, hlb, hr⟩ := h
  unfold LB at hlb
  have hs1 := hs.1
  have hU := allNames_le hs
  have HS := Lib.hid hs; clear hs
  have hWa : Below w.heap.size w (w.alloc (.cells #[.slice A rs.length c] 69)) := (Below.refl _ _).alloc (Nat.le_refl _) _
  have hbox := Box.new w #[.slice A rs.length c] 69
  by_cases h0 : (rs.length : Int) = 0
  · obtain ⟨q1, q2⟩ := icmp_eq h0
    have := Lib.hid h0; clear h0
    go_enter Try.func60, Try.ntmps60
    go_wp2
    go_ret
    exact ⟨_, [], rfl, trivial, fun w2 _ _ => Sl.nil _ _, hWa⟩
  obtain ⟨q1, q2⟩ := icmp_ne h0
  have h00 : 0 < rs.length := by omega
  have h0 := Lib.hid h0
  obtain ⟨x0, hx0⟩ := at_lt rs h00
  obtain ⟨ad, B0, c0, rfl, hcell0, hcell1, hx1, _⟩ := Row.rule hr hx0
  have hadd : ad.add (0 * 2) = ad := by simp [Addr.add]
  rw [hadd] at hcell0
  have HX0 := Lib.hid hx0
  replace hcell0 := cell_far hcell0 hWa.block
  clear hcell1 hadd hx0
  have hown := Own.lit1 (T := Ty.str) (e := 9) (B := w.heap.size + 1) (D := fun b => w.heap.size + 1 ≤ b) (w := w.alloc (.cells #[.slice (some ad) rs.length c] 69)) (x := x0.1) (cs := #[.string x0.1]) (str_far _ _ x0.1 hx1) (by simp) (by simp)
  have hsz0 : (w.alloc (.cells #[.slice (some ad) rs.length c] 69)).heap.size = w.heap.size + 1 := by simp
  rw [hsz0] at hown
  have hwb := hWa.alloc (by simp) (.cells #[.string x0.1] 9)
  have hbx := hbox.alloc (.cells #[.string x0.1] 9)
  go_enter Try.func60, Try.ntmps60
  go_wp2
  go_loopw [4, 3] (fun i o wr => ∃ k : Nat, i = .int .i64 k ∧ LedR w rs (fun b => w.heap.size + 1 ≤ b) k o wr ∧ Box wr w.heap.size #[.slice (some ad) rs.length c] 69) (fun i _ _ => (allNames rs).length - (intOf i).toNat)
  case atStart => exact ⟨0, rfl, ⟨_, hown, by simp, by simp [allNames]; exact .inl ⟨_, List.mem_of_getElem? HX0.out⟩, Nat.zero_le _, hwb, by simp⟩, hbx⟩
  case round =>
    clear hown hwb hbx
    obtain ⟨k, rfl, ⟨xs, hO, hnd, hsub, hkl, hW, hsz⟩, hB⟩ := hrel
    have hkU := nodup_le xs (allNames rs) hnd hsub
    have hsl := hO.sl
    obtain ⟨Ax, cx, rfl, e1, e2, e3, hrx⟩ := hsl
    have hOk := Lib.hid hO
    by_cases hlt : k < xs.length
    case neg =>
      go_wp2
      go_ret
      exact ⟨_, _, rfl, trivial, hOk.out.far.mono (fun b _ h => by omega), hW⟩
    have hc2 := hB.cell 0 (v := .slice (some ad) rs.length c) rfl
    clear hrx
    go_wp2
    go_loopw [30, 3] (fun i o wr => ∃ j : Nat, j ≤ rs.length ∧ i = .int .i64 j ∧ LedR w rs (fun b => w.heap.size + 1 ≤ b) (k + 1) o wr ∧ Box wr w.heap.size #[.slice (some ad) rs.length c] 69) (fun i _ _ => rs.length - (intOf i).toNat)
    case atStart => exact ⟨0, Nat.zero_le _, rfl, ⟨_, hOk.out, hnd, hsub, hlt, hW, hsz⟩, hB⟩
    case round =>
      clear hOk hnd hsub hW hsz hB hO hc2 hkl hlt e1 e2 e3 hkU
      obtain ⟨j, hj, rfl, ⟨ys, hO, hnd, hsub, hkl, hW, hsz⟩, hB⟩ := hrel
      by_cases hlt2 : j < rs.length
      case neg =>
        have hkU := nodup_le ys (allNames rs) hnd hsub
        go_wp2
        go_roundw
        case rel => exact ⟨k + 1, by go_num, ⟨_, hO, hnd, hsub, hkl, hW, hsz⟩, hB⟩
        case measure => simp [intOf]; omega
      obtain ⟨x, hx⟩ := at_lt rs hlt2
      obtain ⟨ad1, B, c2, e, hcell0, hcell1, hx1, g1, g2, g3, g4⟩ := Row.rule hr hx
      cases e
      replace hcell0 := cell_far hcell0 hW.block
      replace hcell1 := cell_far hcell1 hW.block
      obtain ⟨y, hy⟩ := at_lt ys (k := k) (by omega)
      obtain ⟨Ay, cy, rfl, e1, e2, e3, hry⟩ := hO.sl
      obtain ⟨ady, rfl, hys, hcelly⟩ := hry.str hy
      have HX := Lib.hid hx; clear hx
      have HY := Lib.hid hy; clear hy
      have hboxX := Box.new wr #[.string x.1, .slice B x.2.length c2] 95
      have hWa := hW.alloc (by omega) (.cells #[.string x.1, .slice B x.2.length c2] 95)
      have hBa := hB.alloc (.cells #[.string x.1, .slice B x.2.length c2] 95)
      have hOa := hO.alloc (.cells #[.string x.1, .slice B x.2.length c2] 95)
      have hsza : w.heap.size + 1 ≤ (wr.alloc (.cells #[.string x.1, .slice B x.2.length c2] 95)).heap.size := by simp; omega
      replace hcelly := cell_far hcelly (w' := wr.alloc (.cells #[.string x.1, .slice B x.2.length c2] 95)) (fun b hb => heap_alloc_old wr _ hb)
      have G4 := Lib.hid g4
      clear g4 hry
      by_cases hne : x.1 = y
      case neg =>
        have q := str_ne hne
        have := Lib.hid hne; clear hne
        go_wp2
        go_quiet (fail)
        go_wp2
        go_roundw
        case rel => exact ⟨j + 1, by omega, by go_num, ⟨_, hOa.drewN _, hnd, hsub, hkl, below_drewN hWa _, hsza⟩, hBa⟩
        case measure => simp [intOf]; omega
      have q := str_eq hne
      have := Lib.hid hne; clear hne
      obtain ⟨wp, rfl⟩ : ∃ wp : World, wp = wr := ⟨_, rfl⟩
      go_wp2
      go_quiet (fail)
      go_wp2
      go_loopw [44, 3] (fun i o wr => ∃ p : Nat, p ≤ x.2.length ∧ i = .int .i64 p ∧ LedR w rs (fun b => w.heap.size + 1 ≤ b) (k + 1) o wr ∧ Box wr w.heap.size #[.slice (some ad) rs.length c] 69) (fun i _ _ => x.2.length - (intOf i).toNat)
      case atStart => exact ⟨0, Nat.zero_le _, rfl, ⟨_, hOa.drewN _, hnd, hsub, hkl, below_drewN hWa _, hsza⟩, hBa⟩
      case round =>
        clear hO hOa hnd hsub hkl hW hsz hB hBa hWa hsza hboxX e1 e2 e3 hcell0 hcell1 hcelly
        obtain ⟨p, hp, rfl, ⟨zs, hO, hnd, hsub, hkl, hW, hsz⟩, hB⟩ := hrel
        by_cases hlt3 : p < x.2.length
        case neg =>
          go_wp2
          go_roundw
          case rel => exact ⟨j + 1, by omega, by go_num, ⟨_, hO, hnd, hsub, hkl, hW, hsz⟩, hB⟩
          case measure => simp [intOf]; omega
        obtain ⟨a, ha⟩ := at_lt x.2 hlt3
        obtain ⟨ad2, Y, c3, e, hcell2, g5, g6, g7, g8⟩ := G4.out.slice ha
        cases e
        replace hcell2 := cell_far hcell2 hW.block
        have HA := Lib.hid ha; clear ha
        obtain ⟨wq, rfl⟩ : ∃ wq : World, wq = wr := ⟨_, rfl⟩
        go_wp2
        go_loopw [50, 3] (fun i o wr => ∃ q : Nat, q ≤ a.length ∧ i = .int .i64 q ∧ LedR w rs (fun b => w.heap.size + 1 ≤ b) (k + 1) o wr ∧ Box wr w.heap.size #[.slice (some ad) rs.length c] 69) (fun i _ _ => a.length - (intOf i).toNat)
        case atStart => exact ⟨0, Nat.zero_le _, rfl, ⟨_, hO, hnd, hsub, hkl, hW, hsz⟩, hB⟩
        case round =>
          clear hO hnd hsub hkl hW hsz hB hcell2
          obtain ⟨q, hq, rfl, ⟨us, hO, hnd, hsub, hkl, hW, hsz⟩, hB⟩ := hrel
          by_cases hlt4 : q < a.length
          case neg =>
            go_wp2
            go_roundw
            case rel => exact ⟨p + 1, by omega, by go_num, ⟨_, hO, hnd, hsub, hkl, hW, hsz⟩, hB⟩
            case measure => simp [intOf]; omega
          obtain ⟨n, hn⟩ := at_lt a hlt4
          obtain ⟨ad3, rfl, hns, hcell3⟩ := g8.str hn
          replace hcell3 := cell_far hcell3 hW.block
          have hmem : n ∈ allNames rs := by
            unfold allNames
            refine List.mem_append.2 (.inr (List.mem_flatMap.2 ⟨x, List.mem_of_getElem? HX.out, List.mem_flatten.2 ⟨a, List.mem_of_getElem? HA.out, List.mem_of_getElem? hn⟩⟩))
          clear hn
          have hhas := has_calls u3 us n wr hO.sl
          by_cases e2 : n ∈ us
          · rw [dec_true e2] at hhas
            have := Lib.hid e2; clear e2
            go_wp2_with (go_at_call 44; refine hhas.mono ?_; rintro e w' ⟨rfl, rfl⟩)
            go_roundw
            case rel => exact ⟨q + 1, by omega, by go_num, ⟨_, hO, hnd, hsub, hkl, hW, hsz⟩, hB⟩
            case measure => simp [intOf]; omega
          · rw [dec_false e2] at hhas
            have E2 := Lib.hid e2; clear e2
            have hkU := nodup_le us (allNames rs) hnd hsub
            have k1 : (us.length + 1) * 16 ≤ 140737488355328 := by omega
            have k2 : ∀ b, wr.heap.size ≤ b → w.heap.size + 1 ≤ b := fun b hb => by omega
            have k3 : Below (w.heap.size + 1) wr wr := Below.refl _ _
            go_wp2_with (first | (go_at_call 44; refine hhas.mono ?_; rintro e w' ⟨rfl, rfl⟩) | (at_builtin; refine wpList_app (T := Ty.str) (v := u3) (xs := us) (W := wr) (w0 := wr) (B := w.heap.size + 1) (D := fun b => w.heap.size + 1 ≤ b) rfl (.tmp 58) (.tmp 60) 22 9 16 rfl elemStr rfl n #[.string n] wr.heap.size rfl rfl hO k2 (str_far _ _ n hns) k3 hsz k1 ?_; intro v1 w1 hown hbel hgr hat))
            go_roundw
            case rel => exact ⟨q + 1, by omega, by go_num, ⟨_, hown, nodup_snoc hnd E2.out, fun x hx => by
              rcases List.mem_append.1 hx with hx | hx
              · exact hsub x hx
              · simp at hx; subst hx; exact hmem, by simp; omega, hW.trans (hbel.mono (by omega)), by have := hgr.size; omega⟩, hB.keep (hbel.block _ (by omega))⟩
            case measure => simp [intOf]; omega
end Go.Proofs.Ytgjobbapnileiaa
