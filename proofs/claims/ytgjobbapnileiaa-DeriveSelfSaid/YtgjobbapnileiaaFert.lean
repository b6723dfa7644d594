/- fertile: it answers some names. -/
import Derived.Test.YtgjobbapnileiaaGram2
set_option linter.unusedVariables false
set_option linter.unusedSimpArgs false
namespace Go.Proofs.Ytgjobbapnileiaa
open Go.RowKit Gk

/-- a grammar's lists are short -/
def Short3 (rs : Rules) : Prop := rs.length ≤ 200 ∧ ∀ r ∈ rs, r.2.length ≤ 200 ∧ ∀ a ∈ r.2, a.length ≤ 200
def FertR (w : World) (D : Nat → Prop) (k j p : Nat) (o : Value) (wr : World) : Prop :=
  ∃ xs : List ByteArray, Own Ty.str 9 (w.heap.size + 1) D wr o xs ∧ xs.length ≤ 1000 + k * 1000000 + j * 1000 + p ∧ Below w.heap.size w wr ∧ w.heap.size + 1 ≤ wr.heap.size

set_option maxRecDepth 100000 in
set_option maxHeartbeats 4000000 in
theorem fertile_calls (v u : Value) (rs : Rules) (ts : List ByteArray) (w : World) (h : Sl ruleT w v rs) (h' : Sl Ty.str w u ts) (hs : Short3 rs) (ht : ts.length ≤ 1000) (hu : u = .slice none 0 0 ∨ ∃ ad n c, u = .slice (some ad) n c) :
    Calls Try.prog 59 #[.agg #[v], u] w (gives Ty.str w (fun _ => True)) := by
  obtain ⟨A, c, rfl, hc, hcm, hlb, hr⟩ := h
  unfold LB at hlb
  have hs1 := hs.1
  have HS := Lib.hid hs.2; clear hs
  have hWa : Below w.heap.size w (w.alloc (.cells #[.slice A rs.length c] 69)) := (Below.refl _ _).alloc (Nat.le_refl _) _
  have hbox := Box.new w #[.slice A rs.length c] 69
  have k0 : (w.alloc (.cells #[.slice A rs.length c] 69)).heap.size = w.heap.size + 1 := by simp
  have hY : ∀ y x, y ∈ ts → Ty.str.R (w.alloc (.cells #[.slice A rs.length c] 69)) y [x] → Far (fun b => w.heap.size + 1 ≤ b ∧ some b ≠ (Value.slice none 0 0).ownBlock) (fun w => Ty.str.R w y [x]) (w.alloc (.cells #[.slice A rs.length c] 69)) := fun y x _ h w2 _ _ => h
  have hWb : Below (w.heap.size + 1) (w.alloc (.cells #[.slice A rs.length c] 69)) (w.alloc (.cells #[.slice A rs.length c] 69)) := Below.refl _ _
  go_enter Try.func59, Try.ntmps59
  go_wp2_with (at_builtin; refine wpList_appAll (T := Ty.str) (v := .slice none 0 0) (xs := []) (W := w.alloc (.cells #[.slice A rs.length c] 69)) (w0 := w.alloc (.cells #[.slice A rs.length c] 69)) (B := w.heap.size + 1) (D := fun b => w.heap.size + 1 ≤ b) rfl (.const (.slice none 0 0)) (.tmp 10) 22 9 16 rfl elemStr rfl rfl u ts rfl (Own.nil _ _ _ _ _) (fun b hb => by simpa using hb) (h'.below hWa) hY hu hWb (by simp) (by simp; omega) ?_; intro v1 w1 hown hbel hgr hat; have hc20 := (hbox.keep (hbel.block _ (by omega))).cell 0 (v := .slice A rs.length c) rfl)

  have hW1 : Below w.heap.size w w1 := hWa.trans (hbel.mono (by omega))
  have hs3 : w.heap.size + 1 ≤ w1.heap.size := by have := hbel.size; omega
  go_loopw [15, 5] (fun i o wr => ∃ k : Nat, k ≤ rs.length ∧ i = .int .i64 k ∧ FertR w (fun b => w.heap.size + 1 ≤ b) k 0 0 o wr ∧ Box wr w.heap.size #[.slice A rs.length c] 69) (fun i _ _ => rs.length - (intOf i).toNat)
  case atStart => exact ⟨0, Nat.zero_le _, rfl, ⟨_, hown, by simp; omega, hW1, hs3⟩, hbox.keep (hbel.block _ (by omega))⟩
  case round =>
    obtain ⟨k, hk, rfl, ⟨xs, hO, hxl, hW, hsz⟩, hB2⟩ := hrel
    have hr0 := Lib.hid hr
    have hrw := hr.below hW
    have hB2w := hB2
    have hc2 := hB2.cell 0 (v := .slice A rs.length c) rfl
    by_cases hlt : k < rs.length
    · obtain ⟨wo, rfl⟩ : ∃ wo : World, wo = wr := ⟨_, rfl⟩
      go_wp2
      go_loopw [20, 5] (fun i o wr => ∃ j : Nat, j ≤ rs.length ∧ i = .int .i64 j ∧ FertR w (fun b => w.heap.size + 1 ≤ b) k j 0 o wr ∧ Box wr w.heap.size #[.slice A rs.length c] 69) (fun i _ _ => rs.length - (intOf i).toNat)
      case atStart => exact ⟨0, Nat.zero_le _, rfl, ⟨xs, hO, by omega, hW, hsz⟩, hB2⟩
      case round =>
        clear hO hxl hB2 hsz hW hc2
        obtain ⟨j, hj, rfl, ⟨xs, hO, hxl, hW, hsz⟩, hB2⟩ := hrel
        have hsz2 : wo.heap.size ≤ wr.heap.size ∨ True := .inr trivial
        by_cases hlt2 : j < rs.length
        · obtain ⟨x, hx⟩ := at_lt rs hlt2
          obtain ⟨ad, B, c2, rfl, hcell0, hcell1, hx1, g1, g2, g3, g4⟩ := Row.rule hr0.out hx
          replace hcell0 := cell_far hcell0 hW.block
          replace hcell1 := cell_far hcell1 hW.block
          have hxs := HS.out x (List.mem_of_getElem? hx)
          have hx2 := hxs.1
          clear hx hxs
          have hboxX := Box.new wr #[.string x.1, .slice B x.2.length c2] 95
          have hWa := hW.alloc (by omega) (.cells #[.string x.1, .slice B x.2.length c2] 95)
          have hB2a := hB2.alloc (.cells #[.string x.1, .slice B x.2.length c2] 95)
          have hOa := (hO.mono (D' := fun b => w.heap.size + 1 ≤ b ∧ b ≠ wr.heap.size) (fun b hb h => ⟨h, by omega⟩)).alloc (.cells #[.string x.1, .slice B x.2.length c2] 95)
          have hsza : w.heap.size + 1 ≤ (wr.alloc (.cells #[.string x.1, .slice B x.2.length c2] 95)).heap.size := by simp; omega
          have G4 := Lib.hid g4
          clear g4
          obtain ⟨wp, rfl⟩ : ∃ wp : World, wp = wr := ⟨_, rfl⟩
          clear hrw hB2w
          go_wp2
          go_loopw [27, 5] (fun i o wr => ∃ p : Nat, p ≤ x.2.length ∧ i = .int .i64 p ∧ FertR w (fun b => w.heap.size + 1 ≤ b ∧ b ≠ wp.heap.size) k j p o wr ∧ Box wr w.heap.size #[.slice (some ad) rs.length c] 69 ∧ Box wr wp.heap.size #[.string x.1, .slice B x.2.length c2] 95) (fun i _ _ => x.2.length - (intOf i).toNat)
          case atStart => exact ⟨0, Nat.zero_le _, rfl, ⟨xs, hOa, by omega, hWa, hsza⟩, hB2a, hboxX⟩
          case round =>
            clear hOa hWa hB2a hboxX hsza hcell0 hcell1 hO hxl hW hsz hB2
            obtain ⟨p, hp, rfl, ⟨ys, hO, hyl, hW, hsz⟩, hB2, hB7⟩ := hrel
            have g4 := G4.out.below hW
            have hc7 := hB7.cell 0 (v := .string x.1) rfl
            by_cases hlt3 : p < x.2.length
            · obtain ⟨y, hy⟩ := at_lt x.2 hlt3
              obtain ⟨ad2, Y, c3, rfl, hcell2, g5, g6, g7, g8⟩ := g4.slice hy
              clear hy
              have hall := all_calls (.slice Y y.length c3) u5 y ys wr ⟨Y, c3, rfl, g5, g6, g7, g8⟩ hO.sl
              have hhas := has_calls u5 ys x.1 wr hO.sl
              by_cases e1 : ∀ z ∈ y, z ∈ ys
              · rw [dec_true e1] at hall
                have := Lib.hid e1; clear e1
                by_cases e2 : x.1 ∈ ys
                · rw [dec_true e2] at hhas
                  have := Lib.hid e2; clear e2
                  go_wp2_with (first | (go_at_call 65; refine hall.mono ?_; rintro e w' ⟨rfl, rfl⟩) | (go_at_call 44; refine hhas.mono ?_; rintro e w' ⟨rfl, rfl⟩))
                  go_roundw
                  case rel => exact ⟨p + 1, by omega, by go_num, ⟨ys, hO, by omega, hW, hsz⟩, hB2, hB7⟩
                  case measure => simp [intOf]; omega
                · rw [dec_false e2] at hhas
                  have := Lib.hid e2; clear e2
                  have k1 : (ys.length + 1) * 16 ≤ 140737488355328 := by omega
                  have h7lt := hB7.lt
                  have k2 : ∀ b, wr.heap.size ≤ b → w.heap.size + 1 ≤ b ∧ b ≠ wp.heap.size := fun b hb => by omega
                  have hOin := hO.inD
                  have k3 : Below (w.heap.size + 1) wr wr := Below.refl _ _
                  have hOlt := hO.lt
                  go_wp2_with (first | (go_at_call 65; refine hall.mono ?_; rintro e w' ⟨rfl, rfl⟩) | (go_at_call 44; refine hhas.mono ?_; rintro e w' ⟨rfl, rfl⟩) | (at_builtin; refine wpList_app (T := Ty.str) (v := u5) (xs := ys) (W := wr) (w0 := wr) (B := w.heap.size + 1) (D := fun b => w.heap.size + 1 ≤ b ∧ b ≠ wp.heap.size) rfl (.tmp 41) (.tmp 44) 22 9 16 rfl elemStr rfl x.1 #[.string x.1] wr.heap.size rfl rfl hO k2 (str_far _ _ x.1 hx1) k3 hsz k1 ?_; intro v1 w1 hown hbel hgr hat))
                  go_roundw
                  case rel => exact ⟨p + 1, by omega, by go_num, ⟨_, hown, by simp; omega, hW.trans (hbel.mono (by omega)), by have := hgr.size; omega⟩, hB2.keep (hbel.block _ (by omega)), hB7.grown hgr (fun e => (hOin _ e.symm).2 rfl)⟩
                  case measure => simp [intOf]; omega
              · rw [dec_false e1] at hall
                have := Lib.hid e1; clear e1
                go_wp2_with (go_at_call 65; refine hall.mono ?_; rintro e w' ⟨rfl, rfl⟩)
                go_roundw
                case rel => exact ⟨p + 1, by omega, by go_num, ⟨ys, hO, by omega, hW, hsz⟩, hB2, hB7⟩
                case measure => simp [intOf]; omega
            · go_wp2
              go_roundw
              case rel => exact ⟨j + 1, by omega, by go_num, ⟨ys, hO.mono (fun b _ h => h.1), by omega, hW, hsz⟩, hB2⟩
              case measure => simp [intOf]; omega
        · go_wp2
          go_roundw
          case rel => exact ⟨k + 1, by omega, by go_num, ⟨xs, hO, by omega, hW, hsz⟩, hB2⟩
          case measure => simp [intOf]; omega
    · go_wp2
      go_ret
      exact ⟨_, _, rfl, trivial, hO.far.mono (fun b _ h => by omega), hW⟩
end Go.Proofs.Ytgjobbapnileiaa
