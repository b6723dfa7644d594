/- Contracts on grammars by names: Names, all, may, long, Check. -/
import Derived.Test.YtgjobbapnileiaaLay
import Derived.Test.YtgjobbapnileiaaIsName
set_option linter.unusedVariables false
set_option linter.unusedSimpArgs false
namespace Go.Proofs.Ytgjobbapnileiaa
open Go.RowKit Gk

/-- a rule by names -/
abbrev ruleT : Ty (ByteArray × List (List ByteArray)) := Ty.pair Ty.str (Ty.slice (Ty.slice Ty.str))
abbrev Rules := List (ByteArray × List (List ByteArray))
theorem rule_of {w : World} {x : ByteArray × List (List ByteArray)} {u0 u1 : Value} (h : ruleT.R w x [u0, u1]) : u0 = .string x.1 ∧ x.1.size ≤ 140737488355328 ∧ Sl (Ty.slice Ty.str) w u1 x.2 := by
  obtain ⟨c1, c2, e, ⟨rfl, h1⟩, ⟨v, rfl, h2⟩⟩ := h
  simp only [List.singleton_append, List.cons.injEq, and_true] at e
  obtain ⟨rfl, rfl⟩ := e
  exact ⟨rfl, h1, h2⟩
theorem rule_mk {w : World} {x : ByteArray × List (List ByteArray)} {u1 : Value} (h1 : x.1.size ≤ 140737488355328) (h2 : Sl (Ty.slice Ty.str) w u1 x.2) : ruleT.R w x [.string x.1, u1] := ⟨[_], [_], rfl, ⟨rfl, h1⟩, ⟨_, rfl, h2⟩⟩
/-- a rule's cells in a row -/
theorem Row.rule {w : World} {A : Option Addr} {xs : Rules} (h : Row ruleT w A xs) {i : Nat} {x : ByteArray × List (List ByteArray)} (hx : xs[i]? = some x) :
    ∃ ad B c, A = some ad ∧ w.cell? (ad.add (i * 2)) = some (.string x.1) ∧ w.cell? ⟨(ad.add (i * 2)).block, (ad.add (i * 2)).off + 1, none⟩ = some (.slice B x.2.length c) ∧ x.1.size ≤ 140737488355328 ∧
      x.2.length ≤ c ∧ c ≤ maxLen ∧ x.2.length ≤ 140737488355328 ∧ Row (Ty.slice Ty.str) w B x.2 := by
  obtain ⟨ad, u0, u1, e, hr, h0, h1⟩ := h.two rfl hx
  obtain ⟨rfl, h2, B, c, rfl, h3⟩ := rule_of hr
  exact ⟨ad, B, c, e, h0, h1, h2, h3⟩
theorem infoStr : (Try.prog.info? 9).map (fun i => (i.zero, i.size, i.bytes)) = some (some (.string ⟨#[]⟩), 1, 16) := by kernel_rfl
theorem elemStr : ElemOk Try.prog Ty.str 22 9 16 := ElemOk.of Try.underlying22 infoStr rfl (by omega)
theorem infoStrs : (Try.prog.info? 22).map (fun i => (i.zero, i.size, i.bytes)) = some (some (.slice none 0 0), 1, 24) := by kernel_rfl
theorem elemStrs : ElemOk Try.prog (Ty.slice Ty.str) 93 22 24 := ElemOk.of Try.underlying93 infoStrs rfl (by omega)
theorem infoRule : (Try.prog.info? 95).map (fun i => (i.zero, i.size, i.bytes)) = some (some (.agg #[.string ⟨#[]⟩, .slice none 0 0]), 2, 40) := by kernel_rfl
theorem elemRule : ElemOk Try.prog ruleT 67 95 40 := ElemOk.of Try.underlying67 infoRule rfl (by omega)
theorem str_far (D : Nat → Prop) (w : World) (s : ByteArray) (hs : s.size ≤ 140737488355328) : Far D (fun w => Ty.str.R w s [.string s]) w := fun _ _ _ => ⟨rfl, hs⟩

/-- it answers a slice, and nothing that was there turns -/
def gives {α : Type} (T : Ty α) (w : World) (p : List α → Prop) (e : Ending) (w' : World) : Prop := ∃ v xs, e = .returned v ∧ p xs ∧ Far (fun b => w.heap.size ≤ b) (fun w => Sl T w v xs) w' ∧ Below w.heap.size w w'

set_option maxHeartbeats 1000000 in
theorem names_calls (v : Value) (rs : Rules) (w : World) (h : Sl ruleT w v rs) (hl : rs.length ≤ 1000000) :
    Calls Try.prog 46 #[.agg #[v]] w (gives Ty.str w (fun xs => xs = rs.map (·.1))) := by
  obtain ⟨A, c, rfl, hc, hcm, hlb, hr⟩ := h
  unfold LB at hlb
  go_enter Try.func46, Try.ntmps46
  go_wp2
  go_loopw [9, 3] (fun i o wr => (∃ j : Nat, j ≤ rs.length ∧ i = .int .i64 j ∧ Own Ty.str 9 w.heap.size (fun b => w.heap.size ≤ b) wr o ((rs.take j).map (·.1))) ∧ Below w.heap.size w wr) (fun i _ _ => rs.length - (intOf i).toNat)
  case atStart => exact ⟨⟨0, Nat.zero_le _, rfl, Own.nil _ _ _ _ _⟩, (Below.refl _ _).alloc (Nat.le_refl _) _⟩
  case round =>
    obtain ⟨⟨j, hj, rfl, hO⟩, hW⟩ := hrel
    replace hr := hr.below hW
    have hsz := hW.size
    by_cases hlt : j < rs.length
    · obtain ⟨x, hx⟩ := at_lt rs hlt
      obtain ⟨ad, B, c2, rfl, hcell0, hcell1, hx1, g1, g2, g3, g4⟩ := Row.rule hr hx
      have HX := Lib.hid hx; clear hx
      have HO := Lib.hid (hO.alloc (.cells #[.string x.1, .slice B x.2.length c2] 95)); clear hO
      have hW2 : Below w.heap.size w (wr.alloc (.cells #[.string x.1, .slice B x.2.length c2] 95)) := hW.alloc hsz _
      have g5 : w.heap.size ≤ (wr.alloc (.cells #[.string x.1, .slice B x.2.length c2] 95)).heap.size := hW2.size
      have g6 : (((rs.take j).map (·.1)).length + 1) * 16 ≤ 140737488355328 := by simp; omega
      have g7 := HO.out
      have g8 : ∀ b, (wr.alloc (.cells #[.string x.1, .slice B x.2.length c2] 95)).heap.size ≤ b → w.heap.size ≤ b := fun b hb => Nat.le_trans g5 hb
      go_wp2_with (at_builtin; refine wpList_app (T := Ty.str) (v := u3) (xs := (rs.take j).map (·.1)) (W := wr.alloc (.cells #[.string x.1, .slice B x.2.length c2] 95)) (w0 := w) (B := w.heap.size) (D := fun b => w.heap.size ≤ b) rfl (.tmp 13) (.tmp 16) 22 9 16 rfl elemStr rfl x.1 #[.string x.1] (wr.heap.size + 1) (by simp) rfl g7 g8 (str_far _ _ x.1 hx1) hW2 g5 g6 ?_; intro v1 w1 hown hbel hgr hat)
      go_roundw
      case rel => exact ⟨⟨j + 1, by omega, by go_num, by rw [take_next HX.out, List.map_append]; exact hown⟩, hbel⟩
      case measure => simp [intOf]; omega
    · have HO := Lib.hid hO; clear hO
      go_wp2
      go_ret
      exact ⟨_, _, rfl, by rw [List.take_of_length_le (by omega)], HO.out.far, hW⟩

set_option maxHeartbeats 1000000 in
theorem all_calls (v u : Value) (xs ys : List ByteArray) (w : World) (h : Sl Ty.str w v xs) (h' : Sl Ty.str w u ys) :
    Calls Try.prog 65 #[v, u] w fun e w' => e = .returned (.bool (dec (∀ x ∈ xs, x ∈ ys))) ∧ w = w' := by
  obtain ⟨A, c, rfl, hc, hcm, hlb, hr⟩ := h
  unfold LB at hlb
  go_enter Try.func65, Try.ntmps65
  go_wp2
  go_loop [9] (fun i => ∃ k : Nat, k ≤ xs.length ∧ i = .int .i64 k ∧ Hid (∀ x ∈ xs.take k, x ∈ ys)) (fun i => xs.length - (intOf i).toNat)
  case atStart => exact ⟨0, Nat.zero_le _, rfl, by simp [Hid]⟩
  case round =>
    obtain ⟨k, hk, rfl, hH⟩ := hrel
    have HH := Lib.hid hH; clear hH
    by_cases hlt : k < xs.length
    · obtain ⟨x, hx⟩ := at_lt xs hlt
      obtain ⟨ad, rfl, hxs, hcell⟩ := hr.str hx
      have HX := Lib.hid hx; clear hx
      have hcall := has_calls u ys x w h'
      by_cases he : x ∈ ys
      · rw [dec_true he] at hcall
        have HE := Lib.hid he; clear he
        go_wp2_with (go_at_call 44; refine hcall.mono ?_; rintro e w' ⟨rfl, rfl⟩)
        go_round
        case rel => exact ⟨k + 1, by omega, by go_num, by
          have hH := HH.out.out
          unfold Hid; rw [take_next HX.out]; intro y hy
          rcases List.mem_append.1 hy with hy | hy
          · exact hH y hy
          · simp at hy; subst hy; exact HE.out⟩
        case measure => simp [intOf]; omega
      · rw [dec_false he] at hcall
        have HE := Lib.hid he; clear he
        go_wp2_with (go_at_call 44; refine hcall.mono ?_; rintro e w' ⟨rfl, rfl⟩)
        go_ret
        exact ⟨ret_bool (dec_false fun hall => HE.out (hall x (List.mem_of_getElem? HX.out))), rfl⟩
    · go_wp2
      go_ret
      exact ⟨ret_bool (dec_true (by have := HH.out.out; rwa [List.take_of_length_le (by omega)] at this)), rfl⟩

/-- it answers some bool; nothing that was there turns -/
def aBool (w : World) (e : Ending) (w' : World) : Prop := ∃ b, e = .returned (.bool b) ∧ Below w.heap.size w w'
def aNum (p : Int → Prop) (w : World) (e : Ending) (w' : World) : Prop := ∃ r, e = .returned (.int .i64 r) ∧ p r ∧ Below w.heap.size w w'

/-- it answers some bool, and yes only if there is something -/
def mayEnd {α : Type} (rs : List α) (w : World) (e : Ending) (w' : World) : Prop := ∃ b, e = .returned (.bool b) ∧ Below w.heap.size w w' ∧ (b = true → 0 < rs.length)
set_option maxHeartbeats 2000000 in
theorem may_calls (v : Value) (rs : Rules) (w : World) (h : Sl ruleT w v rs) :
    Calls Try.prog 56 #[.agg #[v]] w (mayEnd rs w) := by
  have hfin : ∀ (b : Bool) w', b = false → Below w.heap.size w w' → mayEnd rs w (.returned (.bool b)) w' := fun b w' hb h => ⟨b, rfl, h, fun h => by rw [hb] at h; cases h⟩
  obtain ⟨A, c, rfl, hc, hcm, hlb, hr⟩ := h
  unfold LB at hlb
  go_enter Try.func56, Try.ntmps56
  go_wp2
  go_loopw [12] (fun i wr => (∃ j : Nat, j ≤ rs.length ∧ i = .int .i64 j) ∧ Below w.heap.size w wr ∧ Box wr w.heap.size #[.slice A rs.length c] 69) (fun i _ => rs.length - (intOf i).toNat)
  case atStart => exact ⟨⟨0, Nat.zero_le _, rfl⟩, (Below.refl _ _).alloc (Nat.le_refl _) _, Box.new _ _ _⟩
  case round =>
    obtain ⟨⟨j, hj, rfl⟩, hW, hbox⟩ := hrel
    replace hr := hr.below hW
    have hsz := hW.size
    by_cases hlt : j < rs.length
    · obtain ⟨x, hx⟩ := at_lt rs hlt
      obtain ⟨ad, B, c2, rfl, hcell0, hcell1, hx1, g1, g2, g3, g4⟩ := Row.rule hr hx
      clear hx
      have hN : wr.heap.size < (wr.alloc (.cells #[.string x.1, .slice B x.2.length c2] 95)).heap.size := by simp
      have hWa : Below wr.heap.size wr (wr.alloc (.cells #[.string x.1, .slice B x.2.length c2] 95)) := (Below.refl _ _).alloc (Nat.le_refl _) _
      have hboxX := Box.new wr #[.string x.1, .slice B x.2.length c2] 95
      by_cases h0 : (x.2.length : Int) = 0
      · obtain ⟨q1, q2⟩ := icmp_eq h0
        have := Lib.hid h0; clear h0
        go_wp2_with (go_at_call 43; refine (isName_calls x.1 _ hx1).mono ?_; rintro e w' ⟨b, rfl, ⟨m, rfl⟩⟩; cases b)
        all_goals (go_ret; exact hfin _ _ rfl (below_then hW hsz (below_drewN hWa _)))
      · obtain ⟨q1, q2⟩ := icmp_ne h0
        have h0 := Lib.hid h0
        obtain ⟨wo, rfl⟩ : ∃ wo : World, wo = wr := ⟨_, rfl⟩
        go_wp2_with (go_at_call 43; refine (isName_calls x.1 _ hx1).mono ?_; rintro e w' ⟨b, rfl, ⟨m, rfl⟩⟩; cases b)
        · go_ret
          exact hfin _ _ rfl (below_then hW hsz (below_drewN hWa _))
        go_loopw [29] (fun i wr => (∃ j : Nat, j ≤ x.2.length ∧ i = .int .i64 j) ∧ Below wo.heap.size wo wr) (fun i _ => x.2.length - (intOf i).toNat)
        case atStart => exact ⟨⟨0, Nat.zero_le _, rfl⟩, below_drewN hWa _⟩
        case round =>
          obtain ⟨⟨p, hp, rfl⟩, hW2⟩ := hrel
          have hW3 := below_then hW hsz hW2
          replace g4 := g4.below hW2
          by_cases hlt2 : p < x.2.length
          · obtain ⟨y, hy⟩ := at_lt x.2 hlt2
            obtain ⟨ad2, Y, c3, rfl, hcell2, g5, g6, g7, g8⟩ := g4.slice hy
            clear hy
            obtain ⟨wp, rfl⟩ : ∃ wp : World, wp = wr := ⟨_, rfl⟩
            go_wp2
            go_loopw [35] (fun i wr => (∃ j : Nat, j ≤ y.length ∧ i = .int .i64 j) ∧ Below wp.heap.size wp wr) (fun i _ => y.length - (intOf i).toNat)
            case atStart => exact ⟨⟨0, Nat.zero_le _, rfl⟩, Below.refl _ _⟩
            case round =>
              obtain ⟨⟨r, hr2, rfl⟩, hW4⟩ := hrel
              have hW5 := below2 hW3 hW4
              replace g8 := g8.below hW4
              by_cases hlt3 : r < y.length
              · obtain ⟨z, hz⟩ := at_lt y hlt3
                obtain ⟨ad3, rfl, hzs, hcell3⟩ := g8.str hz
                clear hz
                go_wp2_with (go_at_call 43; refine (isName_calls z _ hzs).mono ?_; rintro e w' ⟨b, rfl, ⟨m, rfl⟩⟩; cases b)
                · go_ret
                  exact hfin _ _ rfl (below_drewN hW5 _)
                · go_roundw
                  case rel => exact ⟨⟨r + 1, by omega, by go_num⟩, below_drewN hW4 _⟩
                  case measure => simp [intOf]; omega
              · go_wp2
                go_roundw
                case rel => exact ⟨⟨p + 1, by omega, by go_num⟩, below2 hW2 hW4⟩
                case measure => simp [intOf]; omega
          · go_wp2
            go_roundw
            case rel => exact ⟨⟨j + 1, by omega, by go_num⟩, hW3, hbox.below hW2⟩
            case measure => simp [intOf]; omega
    · have hb0 := hbox.cell 0 (v := .slice A rs.length c) rfl
      go_wp2
      go_ret
      exact ⟨_, rfl, hW, fun h => by simpa using h⟩
end Go.Proofs.Ytgjobbapnileiaa
