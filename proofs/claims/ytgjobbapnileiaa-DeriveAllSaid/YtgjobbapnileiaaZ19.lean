/- The reference's all: the walk; Nullable: without a program; The reference's Nullable: the walks. -/
import Derived.Test.YtgjobbapnileiaaZ18
import Derived.Test.YtgjobbapnileiaaZ08
import Derived.Test.YtgjobbapnileiaaZ13
import Derived.Test.YtgjobbapnileiaaZ06
set_option linter.unusedVariables false
set_option linter.unusedSimpArgs false
namespace Go.Proofs.Ytgjobbapnileiaa
open Go.RowKit Gk

/-- what is known of the rules, in a row of lists -/
def RulesR (w : World) (R : Nat) (cells : Array Value) (rules : List Sents) : Prop :=
  Box w R cells 28 ∧ cells.size = rules.length ∧ ∀ (s : Nat) l, rules[s]? = some l → ∃ v, cells[s]? = some v ∧ Bag 0 w v l
theorem RulesR.below {w w' : World} {R : Nat} {cells : Array Value} {rules : List Sents} (h : RulesR w R cells rules) (hb : Below w.heap.size w w') : RulesR w' R cells rules :=
  ⟨h.1.below hb, h.2.1, fun s l hl => by obtain ⟨v, hv, hB⟩ := h.2.2 s l hl; exact ⟨v, hv, hB.below hb⟩⟩
def rallEnd (res : Option Sents) (w : World) (e : Ending) (w' : World) : Prop :=
  Below w.heap.size w w' ∧ match res with
    | none => e = .returned (.tuple #[.slice none 0 0, .bool false])
    | some out => ∃ v, e = .returned (.tuple #[v, .bool (decide (out.length ≤ 400))]) ∧ Bag 0 w' v out
/-- loop 0: the first n numbers are done -/
def All0 (short : List Int) (rules : List Sents) (long : Int) (s : List Int) (w : World) (i o : Value) (wr : World) : Prop :=
  ∃ (n : Nat) (out : Sents), n ≤ s.length ∧ i = .int .i64 n ∧ Bag 0 wr o out ∧ Below w.heap.size w wr ∧ Hid (madeS (restR short) rules long s [[]] = madeS (restR short) rules long (s.drop n) out) ∧ Shrt long out ∧ out.length ≤ 3600
/-- loop 4: the first n of what was made before are done -/
def All4 (long rest : Int) (parts out : Sents) (w1 : World) (i o : Value) (wr : World) : Prop :=
  ∃ (n : Nat) (next : Sents), n ≤ out.length ∧ i = .int .i64 n ∧ Bag 0 wr o next ∧ Below w1.heap.size w1 wr ∧ Hid (stepX rest long parts out [] = stepX rest long parts (out.drop n) next) ∧ Hid (Srt next) ∧ Shrt long next ∧ next.length ≤ 3600
def All6 (long rest : Int) (x : List Int) (parts next0 : Sents) (w1 : World) (i o : Value) (wr : World) : Prop :=
  ∃ (n : Nat) (next : Sents), n ≤ parts.length ∧ i = .int .i64 n ∧ Bag 0 wr o next ∧ Below w1.heap.size w1 wr ∧ Hid (stepY rest long x parts next0 = stepY rest long x (parts.drop n) next) ∧ Hid (Srt next) ∧ Shrt long next ∧ next.length ≤ 3600 + n
theorem ilNilOr {w : World} {u : Value} {x : List Int} (h : IL w u x) : NilOr u := ownNilOr h
set_option maxRecDepth 100000 in
set_option maxHeartbeats 8000000 in
theorem rall_calls (R : Nat) (v sv u : Value) (c : Cfg) (long : Int) (cells : Array Value) (short s : List Int) (rules : List Sents) (w : World) (hc : CfgV w v c) (hs : Sl Ty.int w sv short) (hu : Sl Ty.int w u s) (hnn : ∀ x ∈ short, 0 ≤ x ∧ x ≤ 2147483647)
    (hR : RulesR w R cells rules) (hl1 : 0 ≤ long) (hl2 : long ≤ 8) (hsl : s.length ≤ 1000) (hrl : rules.length ≤ 1000) (hfew : ∀ l ∈ rules, l.length ≤ 400) (hsh : ∀ l ∈ rules, Shrt long l) (hin : ∀ k ∈ s, k < 0 → -1 - k < rules.length) (hsz : short.length = rules.length) :
    Calls Try.prog 22 #[v, u, .int .i64 long, .slice (some ⟨R, 0, none⟩) rules.length rules.length, sv] w (rallEnd (madeS (restR short) rules long s [[]]) w) := by
  have HS := Lib.hid (And.intro hs (And.intro hu (And.intro hnn (And.intro hR (And.intro hfew (And.intro hsh hsz))))))
  obtain ⟨AU, cU, rfl, ku1, ku2, ku3, ku4⟩ := id hu
  obtain ⟨AS, cS, rfl, ks1, ks2, ks3, ks4⟩ := id hs
  unfold LB at ku3 ks3
  obtain ⟨a0, b0, d0, rfl, h1, h2, h3⟩ := id hc
  obtain ⟨A1, c1, rfl, _, _, _, _⟩ := id h1
  obtain ⟨A2, c2, rfl, _, _, _, _⟩ := id h2
  obtain ⟨A3, c3, rfl, _, _, _, _⟩ := id h3
  clear hs hu hnn hR hfew hsh h1 h2 h3 hc hsz
  have hbw : Below w.heap.size w (w.alloc (.cells #[.slice A1 c.toks.length c1, .slice A2 c.names.length c2, .slice A3 c.alts.length c3] 25)) := (Below.refl _ _).alloc (Nat.le_refl _) _
  have HBW := Lib.hid hbw
  clear hbw
  go_enter Try.func22, Try.ntmps22
  go_wp2
  go_loopw [27, 12] (fun i o wr => All0 short rules long s w i o wr) (fun i _ _ => s.length - (intOf i).toNat)
  case atStart =>
    have hlb := Bag.lit1 (B := 0) (w := w.alloc (.cells #[.slice A1 c.toks.length c1, .slice A2 c.names.length c2, .slice A3 c.alts.length c3] 25)) (IL.nil _) (Nat.zero_le _)
    rw [show (w.alloc (.cells #[.slice A1 c.toks.length c1, .slice A2 c.names.length c2, .slice A3 c.alts.length c3] 25)).heap.size = w.heap.size + 1 by simp] at hlb
    exact ⟨0, [[]], Nat.zero_le _, rfl, hlb, HBW.out.alloc (by simp) _, by simp [Hid], by intro x hx; simp at hx; subst hx; simpa using hl1, by simp⟩
  case round =>
    obtain ⟨n, out, hn, rfl, hO, hB, hM, hSh, hol⟩ := hrel
    obtain ⟨wo, rfl⟩ : ∃ wo : World, wo = wr := ⟨_, rfl⟩
    have HM := Lib.hid (And.intro hM (And.intro hSh hO))
    have hosl := hO.sl
    obtain ⟨AO, cO, rfl, o1, o2, o3, o4⟩ := hosl
    unfold LB at o3
    clear hM hSh hO
    have ku4r := ku4.below hB
    have hsB := hB.size
    by_cases hlt : n < s.length
    · obtain ⟨k, hk⟩ := at_lt s hlt
      obtain ⟨ad, rfl, hk64, hcell⟩ := ku4r.int hk
      have HK := Lib.hid hk; clear hk
      have hk1 := hk64.1
      have hk2 := hk64.2
      obtain ⟨TL, hTL⟩ : ∃ TL, (if cU = n + 1 then some ad else some (⟨ad.block, ad.off + (n + 1), none⟩ : Addr)) = TL := ⟨_, rfl⟩
      have htl0 := Sl.tail (HS.out.2.1.below hB) hlt
      rw [hTL] at htl0
      have htl := Lib.hid htl0; clear htl0
      have hnn' : Hid (∀ x ∈ short, 0 ≤ x) := fun x hx => (HS.out.2.2.1 x hx).1
      obtain ⟨rest, hrest⟩ : ∃ rest, Hid (rest = restR short (s.drop (n + 1))) := ⟨_, rfl⟩
      have hrbd : 0 ≤ rest ∧ rest ≤ 1100 := by
        have h : rest = _ := hrest
        have := restR_bd hnn'.out (s.drop (n + 1))
        rw [h]; simp only [List.length_drop] at this; omega
      have hstep : Hid (madeS (restR short) rules long (s.drop n) out = match stepX (restR short (s.drop (n + 1))) long (partsP rules k) out [] with | none => none | some nx => madeS (restR short) rules long (s.drop (n + 1)) nx) := by
        rw [drop_at HK.out]; rfl
      obtain ⟨PX, hPX⟩ : ∃ p, Hid (p = partsP rules k) := ⟨_, rfl⟩
      have hpar : (0 ≤ k ∧ PX.length = 1 ∧ Hid (PX = [[k]])) ∨ (k < 0 ∧ ∃ (r : Nat) (AP : Option Addr) (cP : Nat), -1 - k = r ∧ IntKind.i64.wrap (-1 - k) = r ∧ r < rules.length ∧ PX.length ≤ 400 ∧ wo.cell? ⟨R, r, none⟩ = some (.slice AP PX.length cP) ∧ PX.length ≤ cP ∧ cP ≤ maxLen ∧ Hid (Bag 0 wo (.slice AP PX.length cP) PX)) := by
        have e : PX = _ := hPX
        by_cases hk0 : 0 ≤ k
        · exact .inl ⟨hk0, by rw [e, partsP, if_pos hk0]; rfl, by rw [e, partsP, if_pos hk0]; rfl⟩
        · have hkr := hin k (List.mem_of_getElem? HK.out) (by omega)
          obtain ⟨r, hr⟩ : ∃ r : Nat, -1 - k = r := ⟨(-1 - k).toNat, by omega⟩
          have hrl : r < rules.length := by omega
          obtain ⟨l, hl⟩ := at_lt rules hrl
          obtain ⟨v, hv, hbag⟩ := (HS.out.2.2.2.1.below hB).2.2 r l hl
          have el : PX = l := by rw [e, partsP, if_neg hk0, show (-1 - k).toNat = r by omega, hl]; rfl
          subst el
          obtain ⟨AP, cP, rfl, p1, p2, _, _⟩ := hbag.sl
          exact .inr ⟨by omega, r, AP, cP, hr, by rw [IntKind.wrap_i64]; omega, hrl, HS.out.2.2.2.2.1 _ (List.mem_of_getElem? hl), (HS.out.2.2.2.1.below hB).1.cell r hv, p1, p2, hbag⟩
      have hPl : PX.length ≤ 400 := by rcases hpar with h | ⟨_, _, _, _, _, _, _, h, _⟩ <;> omega
      go_wp2
      obtain ⟨m, hm⟩ : ∃ m, m = s.length - (n + 1) := ⟨_, rfl⟩
      have htm := htl.out
      rw [← hm] at htm ⊢
      have HTM := Lib.hid htm
      have hdl : (s.drop (n + 1)).length = m := by rw [hm]; simp
      have HMM := Lib.hid hm
      clear htm hm
      go_loopw [37, 15] (fun i o wr => ∃ (j : Nat) (q : Int), j ≤ m ∧ i = .int .i64 j ∧ o = .int .i64 q ∧ Hid (q = restR short ((s.drop (n + 1)).take j)) ∧ wr = wo) (fun i _ _ => m - (intOf i).toNat)
      case atStart => exact ⟨0, 0, Nat.zero_le _, rfl, rfl, by simp [Hid, restR], rfl⟩
      case round =>
        obtain ⟨j, q, hj, rfl, rfl, hq, rfl⟩ := hrel
        have hms : m ≤ s.length := by have := HMM.out; omega
        have hqb : 0 ≤ q ∧ q ≤ 1100 := by
          have h : q = _ := hq
          have := restR_bd hnn'.out ((s.drop (n + 1)).take j)
          rw [h]; simp only [List.length_take, hdl] at this; omega
        have hq0 := hqb.1
        have hq1 := hqb.2
        clear hqb
        by_cases hltj : j < m
        · obtain ⟨k2, hk2'⟩ := at_lt (s.drop (n + 1)) (by omega : j < _)
          obtain ⟨A9, c9, e9, _, _, _, hrow9⟩ := id HTM.out
          injection e9 with e91 e92 e93
          subst e91
          obtain ⟨ad9, rfl, hk64', hcell9⟩ := hrow9.int hk2'
          clear hrow9 e92 e93 hTL
          have hs2 : Hid (restR short ((s.drop (n + 1)).take (j + 1)) = restStep short (restR short ((s.drop (n + 1)).take j)) k2) := by
            show _ = _
            rw [take_next hk2', restR_snoc]
          have hk2m := List.mem_of_mem_drop (List.mem_of_getElem? hk2')
          have HK2 := Lib.hid hk2'; clear hk2'
          by_cases hkk : k2 ≥ 0
          · go_wp2
            refine ⟨⟨j + 1, q + 1, by omega, by simp, rfl, ?_, trivial⟩, by simp [intOf]; omega⟩
            have h : restR short _ = _ := hs2
            show _ = _
            rw [h, ← (show q = _ from hq)]
            unfold restStep; rw [if_pos hkk]
          · have hkr := hin k2 hk2m (by omega)
            obtain ⟨r, hr⟩ : ∃ r : Nat, -1 - k2 = r := ⟨(-1 - k2).toNat, by omega⟩
            have hwr : IntKind.i64.wrap (-1 - k2) = r := by rw [IntKind.wrap_i64]; omega
            have hrs : r < short.length := by have := HS.out.2.2.2.2.2.2; omega
            obtain ⟨x, hx⟩ := at_lt short hrs
            obtain ⟨ads, rfl, hx64, hcx⟩ := (ks4.below hB).int hx
            have hx0 := HS.out.2.2.1 x (List.mem_of_getElem? hx)
            have hxa := hx0.1
            have hxb := hx0.2
            have hst : Hid (restStep short q k2 = min (q + x) 100) := by
              show _ = _
              unfold restStep; rw [if_neg hkk, show (-1 - k2).toNat = r by omega, hx]
            have hk2a := hk64'.1
            have hk2b := hk64'.2
            clear hx hx0 hkr
            have HR := Lib.hid hr; clear hr
            go_wp2
            refine ⟨⟨j + 1, min (q + x) 100, by omega, by simp, rfl, ?_, trivial⟩, by simp [intOf]; omega⟩
            have h : restR short _ = _ := hs2
            show _ = _
            rw [h, ← (show q = _ from hq)]
            exact hst.symm
        · have hje : j = m := by omega
          have hqr : q = rest := by
            have h : q = _ := hq
            have h2 : rest = _ := hrest
            rw [h, h2, hje, List.take_of_length_le (by omega)]
          subst hqr
          clear hje hq
          have hba : Below wr.heap.size wr ((wr.alloc (.cells #[.int .i64 k] 3)).alloc (.cells #[.slice (some ⟨wr.heap.size, 0, none⟩) 1 1] 34)) := ((Below.refl _ _).alloc (Nat.le_refl _) _).alloc (by simp) _
          have hpb0 : Hid (Bag 0 ((wr.alloc (.cells #[.int .i64 k] 3)).alloc (.cells #[.slice (some ⟨wr.heap.size, 0, none⟩) 1 1] 34)) (.slice (some ⟨wr.heap.size + 1, 0, none⟩) 1 1) [[k]]) := by
            unfold Hid
            have h := Bag.lit1 (B := 0) (w := wr.alloc (.cells #[.int .i64 k] 3)) (u := .slice (some ⟨wr.heap.size, 0, none⟩) 1 1) (x := [k]) (IL.of (Own.lit1 (B := 0) (D := fun _ => True) (int_far _ _ _ hk64) (Nat.zero_le _) trivial)) (Nat.zero_le _)
            simpa using h
          have HBA := Lib.hid hba
          obtain ⟨wo, rfl⟩ : ∃ wo : World, wo = wr := ⟨_, rfl⟩
          rcases hpar with ⟨hk0, hp1, hp2⟩ | ⟨hk0, r, AP, cP, hr, hwr, hrl, hp1, hp2, hp3, hp4, hp5⟩
          case' inl =>
            have hk0' : decide (k < 0) = false := decide_eq_false (by omega)
            clear hba
            go_wp2
            rw [show (Value.slice (some ⟨wo.heap.size + 1, 0, none⟩) 1 1) = Value.slice (some ⟨wo.heap.size + 1, 0, none⟩) PX.length 1 by rw [hp1]]
            have hpb : Hid (Bag 0 ((wo.alloc (.cells #[.int .i64 k] 3)).alloc (.cells #[.slice (some ⟨wo.heap.size, 0, none⟩) 1 1] 34)) (.slice (some ⟨wo.heap.size + 1, 0, none⟩) PX.length 1) PX) := by
              rw [hp1, show PX = [[k]] from hp2]; exact hpb0
            have HPS : Hid (∀ y ∈ PX, y.length ≤ 8) := fun y hy => by rw [show PX = [[k]] from hp2] at hy; simp at hy; subst hy; simp
            clear hp1
            have hAo : (some ⟨wo.heap.size + 1, 0, none⟩ : Option Addr) = some ⟨wo.heap.size + 1, 0, none⟩ := rfl
            generalize (some ⟨wo.heap.size + 1, 0, none⟩ : Option Addr) = AP at hpb hAo ⊢
            clear hAo
          case' inr =>
            have hk0' : decide (k < 0) = true := decide_eq_true hk0
            have hp2' := cell_far hp2 hba.block
            have HR := Lib.hid hr
            clear hba hr
            go_wp2
            have hpb : Hid (Bag 0 ((wo.alloc (.cells #[.int .i64 k] 3)).alloc (.cells #[.slice (some ⟨wo.heap.size, 0, none⟩) 1 1] 34)) (.slice AP PX.length cP) PX) := hp5.out.below HBA.out
            have HPS : Hid (∀ y ∈ PX, y.length ≤ 8) := fun y hy => by
              have e : PX = _ := hPX
              have h1 : PX ∈ rules := by
                rw [e, partsP, if_neg (by omega)]
                have hr : r = (-1 - k).toNat := by have := HR.out; omega
                rw [← hr, List.getElem?_eq_getElem hrl]; exact List.getElem_mem _
              have := HS.out.2.2.2.2.2.1 _ h1 y hy; omega
          all_goals
            have hrest' : Hid (restR short (s.drop (n + 1)) = q) := by
              have h : q = _ := hrest
              exact h.symm
            clear hcell ku4r o4 hpb0 hdl HTM
            generalize hw1 : (wo.alloc (.cells #[.int .i64 k] 3)).alloc (.cells #[.slice (some ⟨wo.heap.size, 0, none⟩) 1 1] 34) = w1 at *
            have hW1 : Below wo.heap.size wo w1 := by rw [← hw1]; first | exact HBA.out | (rw [hw1]; exact HBA.out)
            have hP1 := Lib.hid hpb.out
            have hOut1 := Lib.hid (HM.out.2.2.below hW1)
            clear hw1
            go_loopw [76, 19] (fun i o wr => All4 long q PX out w1 i o wr) (fun i _ _ => out.length - (intOf i).toNat)
            case atStart => exact ⟨0, [], Nat.zero_le _, rfl, Bag.nil _ _, Below.refl _ _, by simp [Hid], List.Pairwise.nil, (by intro x hx; simp at hx), by simp⟩
            case round =>
              obtain ⟨m4, next, hm4, rfl, hbag, hB3, hstX, hsrt, hsh3, hnl⟩ := hrel
              obtain ⟨A3', c3', rfl, q1, q2, q3, _⟩ := hbag.sl
              unfold LB at q3
              have H3 := Lib.hid (And.intro hbag (And.intro hB3 (And.intro hstX (And.intro hsrt hsh3))))
              have hsz3 := hB3.size
              clear hbag hB3 hstX hsrt hsh3
              by_cases hlt3 : m4 < out.length
              · obtain ⟨x, hx⟩ := at_lt out hlt3
                obtain ⟨adO, UX, cx, eA, hcx, hILx, hx1, hx2, hx3⟩ := (hOut1.out.below H3.out.2.1).at_ hx
                subst eA
                have hxl : x.length ≤ 8 := by have := HM.out.2.1 x (List.mem_of_getElem? hx); omega
                have HX := Lib.hid hx; clear hx
                have HIX := Lib.hid hILx; clear hILx
                obtain ⟨w3, rfl⟩ : ∃ w3 : World, w3 = wr := ⟨_, rfl⟩
                go_wp2
                go_loopw [82, 19] (fun i o wr => All6 long q x PX next w1 i o wr) (fun i _ _ => PX.length - (intOf i).toNat)
                case atStart => exact ⟨0, next, Nat.zero_le _, rfl, H3.out.1, H3.out.2.1, by simp [Hid], H3.out.2.2.2.1, H3.out.2.2.2.2, by omega⟩
                case round =>
                  obtain ⟨p, nx5, hp, rfl, hbag5, hB5, hst5, hsrt5, hsh5, hnl5⟩ := hrel
                  have hsz5 := hB5.size
                  obtain ⟨A5, c5, rfl, k1, k2, k3, _⟩ := hbag5.sl
                  unfold LB at k3
                  have H5 := Lib.hid (And.intro hbag5 (And.intro hB5 (And.intro hst5 (And.intro hsrt5 hsh5))))
                  clear hbag5 hB5 hst5 hsrt5 hsh5
                  by_cases hlt5 : p < PX.length
                  · obtain ⟨y, hy⟩ := at_lt PX hlt5
                    obtain ⟨ady, UY, cy, eP, hcy, hILy, hy1, hy2, hy3⟩ := (hP1.out.below H5.out.2.1).at_ hy
                    subst eP
                    have hyl : y.length ≤ 8 := HPS.out y (List.mem_of_getElem? hy)
                    have HY := Lib.hid hy; clear hy
                    have HIY := Lib.hid hILy; clear hILy
                    obtain ⟨w5, rfl⟩ : ∃ w5 : World, w5 = wr := ⟨_, rfl⟩
                    have hILx5 : Hid (IL w5 (.slice UX x.length cx) x) := by
                      have hkeep := (hOut1.out).at_ HX.out
                      obtain ⟨ad0, U0, c0, e0, hc0, hIL0, _, _, _⟩ := hkeep
                      injection e0 with e0
                      subst e0
                      have q1 := cell_far hc0 H3.out.2.1.block
                      rw [hcx] at q1; injection q1 with q1; rw [q1]
                      exact hIL0.ki (KI.below H5.out.2.1)
                    by_cases hcond : (x.length : Int) + y.length + q ≤ long
                    · obtain ⟨z, hz⟩ : ∃ z, z = x ++ y := ⟨_, rfl⟩
                      have hzl : z.length ≤ 16 := by rw [hz]; simp; omega
                      have HZ := Lib.hid hz; clear hz
                      have hWith : ∀ (v6 : Value) (w6 : World), Below w5.heap.size w5 w6 → IL w6 v6 z → Calls Try.prog 23 #[.slice A5 (List.length nx5) c5, v6] w6 fun e w' => ∃ v', e = .returned v' ∧ Bag 0 w' v' (insS nx5 z) ∧ Below w6.heap.size w6 w' := fun v6 w6 hb56 hIL6 =>
                        with_calls 0 _ _ nx5 z w6 (H5.out.1.below hb56) hIL6 H5.out.2.2.2.1 (by omega) (Nat.zero_le _)
                      have HWITH := Lib.hid hWith; clear hWith
                      have hxn := Lib.hid (ilNilOr hILx5.out)
                      have hyn := Lib.hid (ilNilOr HIY.out)
                      go_wp2_with (first | (at_builtin; refine wpList_appAll (T := Ty.int) (v := .slice none 0 0) (xs := []) (w0 := w5) (B := w5.heap.size) (D := fun _ => True) rfl (.const (.slice none 0 0)) (.tmp 96) 34 3 8 rfl elemInt rfl rfl (.slice UX x.length cx) x rfl (Own.nil _ _ _ _ _) (fun _ _ => trivial) hILx5.out.sl (fun y u _ h => fun _ _ _ => h) hxn.out (Below.refl _ _) (Nat.le_refl _) (by simp; omega) ?_; intro v6 w6 hO6 hB6 _ _; have HO6 := Lib.hid (And.intro hO6 hB6); clear hO6 hB6) | (at_builtin; refine wpList_appAll (T := Ty.int) (v := v6) (xs := x) (w0 := w5) (B := w5.heap.size) (D := fun _ => True) rfl (.tmp 97) (.tmp 98) 34 3 8 rfl elemInt rfl rfl (.slice UY y.length cy) y rfl HO6.out.1 (fun _ _ => trivial) (HIY.out.sl.below HO6.out.2) (fun y u _ h => fun _ _ _ => h) hyn.out HO6.out.2 HO6.out.2.size (by omega) ?_; intro v7 w7 hO7 hB7 _ _; (rw [← HZ.out] at hO7); have HO7 := Lib.hid (And.intro (IL.of hO7) hB7); clear hO7 hB7; obtain ⟨A7, c7, rfl, j1, j2, j3, j4⟩ := id HO7.out.1.sl; clear j4) | (go_at_call 23; refine (HWITH.out _ w7 HO7.out.2 HO7.out.1).mono ?_; rintro e w8 ⟨v8, rfl, hbag8, hb8⟩))
                      have hz : z = x ++ y := HZ.out
                      subst hz
                      refine ⟨⟨p + 1, insS nx5 (x ++ y), by omega, by simp, hbag8, below2 (below2 H5.out.2.1 HO7.out.2) hb8, ?_, srt_insS H5.out.2.2.2.1 _, fun z hz => ?_, ?_⟩, by simp [intOf]; omega⟩
                      · have h5 : stepY _ _ _ _ _ = _ := H5.out.2.2.1
                        show _ = _
                        rw [h5, drop_at HY.out, stepY_cons, if_pos hcond]
                      · rcases mem_insS.1 hz with hz | rfl
                        · exact H5.out.2.2.2.2 z hz
                        · simp only [List.length_append]; omega
                      · have := insS_ge (l := nx5) (x := x ++ y); omega
                    · go_wp2
                      refine ⟨⟨p + 1, nx5, by omega, by simp, H5.out.1, H5.out.2.1, ?_, H5.out.2.2.2.1, H5.out.2.2.2.2, by omega⟩, by simp [intOf]; omega⟩
                      have h5 : stepY _ _ _ _ _ = _ := H5.out.2.2.1
                      show _ = _
                      rw [h5, drop_at HY.out, stepY_cons, if_neg hcond]
                  · have hqe : p = PX.length := by omega
                    have hfin : Hid (stepY q long x PX next = nx5) := by
                      have h5 : stepY _ _ _ _ _ = _ := H5.out.2.2.1
                      show _ = _
                      rw [h5, hqe, List.drop_length]; rfl
                    have HQE := Lib.hid hqe; clear hqe
                    by_cases h36 : 3600 < nx5.length
                    · go_wp2
                      go_ret2
                      have h1 : madeS _ _ _ _ _ = _ := HM.out.1
                      have h2 : madeS _ _ _ _ _ = _ := hstep
                      have h3 : stepX _ _ _ _ _ = _ := H3.out.2.2.1
                      have h4 : stepY _ _ _ _ _ = _ := hfin
                      have h5 : PX = _ := hPX
                      refine ⟨below2 (below2 hB hW1) H5.out.2.1, ?_⟩
                      rw [h1, h2, hrest'.out, ← h5, h3, drop_at HX.out, stepX, h4, if_pos h36]
                      rfl
                    · go_wp2
                      refine ⟨⟨m4 + 1, nx5, by omega, by simp, H5.out.1, H5.out.2.1, ?_, H5.out.2.2.2.1, H5.out.2.2.2.2, by omega⟩, by simp [intOf]; omega⟩
                      have h3 : stepX _ _ _ _ _ = _ := H3.out.2.2.1
                      have h4 : stepY _ _ _ _ _ = _ := hfin
                      show _ = _
                      rw [h3, drop_at HX.out, stepX, h4, if_neg h36]
              · have hme : m4 = out.length := by omega
                have HME := Lib.hid hme; clear hme
                go_wp2
                refine ⟨⟨n + 1, next, by omega, by simp, H3.out.1, below2 (below2 hB hW1) H3.out.2.1, ?_, H3.out.2.2.2.2, hnl⟩, by simp [intOf]; omega⟩
                have h1 : madeS _ _ _ _ _ = _ := HM.out.1
                have h2 : madeS _ _ _ _ _ = _ := hstep
                have h3 : stepX _ _ _ _ _ = _ := H3.out.2.2.1
                have h5 : PX = _ := hPX
                show _ = _
                rw [h1, h2, hrest'.out, ← h5, h3, HME.out, List.drop_length]
                rfl
    · have hne : n = s.length := by omega
      have HNE := Lib.hid hne; clear hne
      have hfin : Hid (madeS (restR short) rules long s [[]] = some out) := by
        have h1 : madeS _ _ _ _ _ = _ := HM.out.1
        show _ = _
        rw [h1, HNE.out, List.drop_length]; rfl
      by_cases h4 : (out.length : Int) ≤ 400
      · have h4' : out.length ≤ 400 := by omega
        go_wp2
        go_ret2
        have h1 : madeS _ _ _ _ _ = _ := hfin
        refine ⟨hB, ?_⟩
        rw [h1]
        exact ⟨_, by simp [h4'], HM.out.2.2⟩
      · have h4' : ¬ out.length ≤ 400 := by omega
        go_wp2
        go_ret2
        have h1 : madeS _ _ _ _ _ = _ := hfin
        refine ⟨hB, ?_⟩
        rw [h1]
        exact ⟨_, by simp [h4'], HM.out.2.2⟩
end Go.Proofs.Ytgjobbapnileiaa
set_option linter.unusedVariables false
set_option linter.unusedSimpArgs false
namespace Go.Proofs.Ytgjobbapnileiaa
open Go.RowKit Gk

def isN (out : List Bool) (k : Int) : Bool := decide (k < 0) && (out[(-1 - k).toNat]?).getD false
def emptyP (out : List Bool) (a : List Int) : Bool := a.all (isN out)
def NulI (c : Cfg) (out : List Bool) : Prop := out.length = c.alts.length ∧ ∀ r : Nat, out[r]? = some true → ∃ al a, c.alts[r]? = some al ∧ a ∈ al ∧ Gen c a []
def NulC (c : Cfg) (out : List Bool) : Prop := ∀ (r : Nat) al a, c.alts[r]? = some al → a ∈ al → emptyP out a = true → out[r]? = some true
theorem isN_at {out : List Bool} {k : Int} (h : isN out k = true) : k < 0 ∧ out[(-1 - k).toNat]? = some true := by
  unfold isN at h
  rw [Bool.and_eq_true, decide_eq_true_eq] at h
  refine ⟨h.1, ?_⟩
  cases e : out[(-1 - k).toNat]? with
  | none => rw [e] at h; simp at h
  | some b => rw [e] at h; simpa using h.2
theorem empty_sound {c : Cfg} {out : List Bool} (h : NulI c out) : ∀ a : List Int, emptyP out a = true → Gen c a [] := by
  intro a
  induction a with
  | nil => intro _; exact .nil
  | cons k a ih =>
    intro he
    unfold emptyP at he
    rw [List.all_cons, Bool.and_eq_true] at he
    obtain ⟨hk, hr⟩ := isN_at he.1
    obtain ⟨al, a', h1, h2, h3⟩ := h.2 _ hr
    have := Gen.rule hk h1 h2 h3 (ih he.2)
    simpa using this
theorem empty_complete {c : Cfg} {out : List Bool} (h : NulC c out) {s x : List Int} (hg : Gen c s x) : x = [] → emptyP out s = true := by
  induction hg with
  | nil => intro _; rfl
  | tok _ _ _ => intro e; cases e
  | @rule k s x y a al h1 h2 h3 _ _ ih1 ih2 =>
    intro e
    obtain ⟨e1, e2⟩ := List.append_eq_nil_iff.1 e
    have h4 := h _ al a h2 h3 (ih1 e1)
    unfold emptyP
    rw [List.all_cons, Bool.and_eq_true]
    refine ⟨?_, ih2 e2⟩
    unfold isN
    rw [h4]; simp [h1]
theorem nul_iff {c : Cfg} {out : List Bool} (h : NulI c out) (hc : NulC c out) {r : Nat} (hr : r < c.alts.length) : Gen c [-1 - (r : Int)] [] ↔ out[r]? = some true := by
  have hk : (-1 - (-1 - (r : Int))).toNat = r := by omega
  constructor
  · intro hg
    have := empty_complete hc hg rfl
    unfold emptyP at this
    rw [List.all_cons, Bool.and_eq_true] at this
    have := (isN_at this.1).2
    rwa [hk] at this
  · intro ho
    refine empty_sound h _ ?_
    unfold emptyP isN
    rw [List.all_cons, hk, ho]
    simp; omega
def cntT (out : List Bool) : Nat := out.countP id
theorem cnt_le (out : List Bool) : cntT out ≤ out.length := List.countP_le_length
theorem cnt_all {out : List Bool} (h : out.length ≤ cntT out) : ∀ r : Nat, r < out.length → out[r]? = some true := by
  have h2 : cntT out = out.length := Nat.le_antisymm (cnt_le out) h
  have h3 := List.countP_eq_length.1 h2
  intro r hr
  have := h3 out[r] (List.getElem_mem hr)
  rw [List.getElem?_eq_getElem hr]; simpa using this
theorem cnt_set : ∀ (out : List Bool) (r : Nat), out[r]? = some false → cntT (out.set r true) = cntT out + 1 := by
  intro out
  induction out with
  | nil => intro r h; simp at h
  | cons b out ih =>
    intro r h
    cases r with
    | zero => simp at h; subst h; simp [cntT]
    | succ r =>
      have := ih r (by simpa using h)
      unfold cntT at this ⊢
      rw [List.set_cons_succ, List.countP_cons, List.countP_cons, this]; omega
/-- one step -/
def nulStep (out : List Bool) (r : Nat) (a : List Int) : List Bool := out.set r ((out[r]?).getD false || emptyP out a)
theorem nulStep_inv {c : Cfg} {out : List Bool} (h : NulI c out) {r : Nat} {al : List (List Int)} {a : List Int} (hal : c.alts[r]? = some al) (ha : a ∈ al) : NulI c (nulStep out r a) := by
  have hr : r < out.length := by rw [h.1]; exact (List.getElem?_eq_some_iff.1 hal).1
  refine ⟨by unfold nulStep; simpa using h.1, fun r' hr' => ?_⟩
  unfold nulStep at hr'
  by_cases e : r' = r
  · subst e
    rw [List.getElem?_set_self hr] at hr'
    injection hr' with hr'
    rw [Bool.or_eq_true] at hr'
    rcases hr' with h1 | h1
    · rw [List.getElem?_eq_getElem hr] at h1
      exact h.2 r' (by rw [List.getElem?_eq_getElem hr]; simpa using h1)
    · exact ⟨al, a, hal, ha, empty_sound h a h1⟩
  · rw [List.getElem?_set_ne (fun e' => e e'.symm)] at hr'
    exact h.2 r' hr'
/-- a step that finds nothing leaves all, a step that finds something counts -/
theorem nulStep_cases {out : List Bool} {r : Nat} {a : List Int} (hr : r < out.length) : (nulStep out r a = out ∧ (emptyP out a = true → out[r]? = some true)) ∨ cntT (nulStep out r a) = cntT out + 1 := by
  unfold nulStep
  have hg := List.getElem?_eq_getElem hr
  cases hb : out[r] with
  | true =>
    refine .inl ⟨?_, fun _ => by rw [hg, hb]⟩
    rw [hg, hb]
    apply List.ext_getElem?
    intro i
    by_cases e : i = r
    · subst e; rw [List.getElem?_set_self hr, hg, hb]; rfl
    · rw [List.getElem?_set_ne (fun e' => e e'.symm)]
  | false =>
    rw [hg, hb]
    cases he : emptyP out a with
    | true => exact .inr (cnt_set out r (by rw [hg, hb]))
    | false =>
      refine .inl ⟨?_, fun h => by cases h⟩
      apply List.ext_getElem?
      intro i
      by_cases e : i = r
      · subst e; rw [List.getElem?_set_self hr, hg, hb]; rfl
      · rw [List.getElem?_set_ne (fun e' => e e'.symm)]
theorem gen_toks {c : Cfg} : ∀ (s : List Int), (∀ k ∈ s, 0 ≤ k) → ∀ x, Gen c s x ↔ x = s := by
  intro s
  induction s with
  | nil =>
    intro _ x
    constructor
    · intro h; cases h; rfl
    · rintro rfl; exact .nil
  | cons k s ih =>
    intro h x
    have hk := h k (by simp)
    constructor
    · intro hg
      cases hg with
      | tok _ h2 => rw [(ih (fun k hk => h k (by simp [hk])) _).1 h2]
      | rule h1 _ _ _ _ => omega
    · rintro rfl
      exact .tok hk ((ih (fun k hk => h k (by simp [hk])) s).2 rfl)
end Go.Proofs.Ytgjobbapnileiaa
set_option linter.unusedVariables false
set_option linter.unusedSimpArgs false
namespace Go.Proofs.Ytgjobbapnileiaa
open Go.RowKit Gk

def rule9 (n : Nat) (k : Int) : Int := if k < 0 ∧ -1 - k < n then -1 - k else -1
set_option maxHeartbeats 1000000 in
theorem rule9_calls (A1 A2 A3 : Option Addr) (n1 n2 n c1 c2 c3 : Nat) (k : Int) (w : World) (hk : Ty.i64 k) (hn : n ≤ 1000000) :
    Calls Try.prog 41 #[.agg #[.slice A1 n1 c1, .slice A2 n2 c2, .slice A3 n c3], .int .i64 k] w fun e w' => e = .returned (.int .i64 (rule9 n k)) ∧ Below w.heap.size w w' := by
  have hb := Box.new w #[.slice A1 n1 c1, .slice A2 n2 c2, .slice A3 n c3] 25
  have hbb : Below w.heap.size w (w.alloc (.cells #[.slice A1 n1 c1, .slice A2 n2 c2, .slice A3 n c3] 25)) := (Below.refl _ _).alloc (Nat.le_refl _) _
  have hc := hb.cell 2 (v := .slice A3 n c3) rfl
  have hk1 := hk.1
  have hk2 := hk.2
  clear hb
  by_cases hk0 : k < 0
  · have hw : IntKind.i64.wrap (-1 - k) = -1 - k := by rw [IntKind.wrap_i64]; omega
    by_cases hr : -1 - k < (n : Int)
    · have e : rule9 n k = -1 - k := if_pos ⟨hk0, hr⟩
      rw [e]
      clear e
      go_enter Try.func41, Try.ntmps41
      go_wp2
      go_ret
      exact ⟨rfl, hbb⟩
    · have e : rule9 n k = -1 := if_neg (fun h => hr h.2)
      rw [e]
      clear e
      have hd : decide (-1 - k < (n : Int)) = false := decide_eq_false hr
      go_enter Try.func41, Try.ntmps41
      go_wp2
      go_ret
      exact ⟨rfl, hbb⟩
  · have e : rule9 n k = -1 := if_neg (fun h => hk0 h.1)
    rw [e]
    clear e
    go_enter Try.func41, Try.ntmps41
    go_wp2
    go_ret
    exact ⟨rfl, hbb⟩
theorem rule9_cases (out : List Bool) (k : Int) : (rule9 out.length k = -1 ∧ isN out k = false) ∨ ∃ (r : Nat) (b : Bool), rule9 out.length k = r ∧ r < out.length ∧ out[r]? = some b ∧ isN out k = b := by
  unfold rule9 isN
  by_cases hk : k < 0
  · by_cases hr : -1 - k < (out.length : Int)
    · obtain ⟨r, hr'⟩ : ∃ r : Nat, -1 - k = r := ⟨(-1 - k).toNat, by omega⟩
      have hl : r < out.length := by omega
      refine .inr ⟨r, out[r], by rw [if_pos ⟨hk, hr⟩]; exact hr', hl, List.getElem?_eq_getElem hl, ?_⟩
      rw [show (-1 - k).toNat = r by omega, List.getElem?_eq_getElem hl]; simp [hk]
    · refine .inl ⟨if_neg fun h => hr h.2, ?_⟩
      rw [List.getElem?_eq_none (by omega)]; simp
  · exact .inl ⟨if_neg fun h => hk h.1, by simp [hk]⟩
set_option maxRecDepth 100000 in
set_option maxHeartbeats 2000000 in
theorem empty_calls (c : Cfg) (s : List Int) (out : List Bool) (v u o : Value) (w : World) (h : CfgV w v c) (hu : Sl Ty.int w u s) (ho : Sl Ty.bool w o out) (hl : out.length = c.alts.length) (hal : c.alts.length ≤ 1000) :
    Calls Try.prog 25 #[v, u, o] w fun e w' => e = .returned (.bool (emptyP out s)) ∧ Below w.heap.size w w' := by
  obtain ⟨a0, b0, d0, rfl, h1, h2, h3⟩ := id h
  obtain ⟨A1, c1, rfl, hc1, hm1, hl1, hr1⟩ := id h1
  obtain ⟨A2, c2, rfl, hc2, hm2, hl2, hr2⟩ := id h2
  obtain ⟨A3, c3, rfl, hc3, hm3, hl3, hr3⟩ := id h3
  obtain ⟨AU, cU, rfl, ku1, ku2, ku3, ku4⟩ := id hu
  obtain ⟨AO, cO, rfl, ko1, ko2, ko3, ko4⟩ := id ho
  unfold LB at ku3 ko3
  have hB1 := Box.new w #[.slice A1 c.toks.length c1, .slice A2 c.names.length c2, .slice A3 c.alts.length c3] 25
  have hb1 : Below w.heap.size w (w.alloc (.cells #[.slice A1 c.toks.length c1, .slice A2 c.names.length c2, .slice A3 c.alts.length c3] 25)) := (Below.refl _ _).alloc (Nat.le_refl _) _
  have hsz1 : (w.alloc (.cells #[.slice A1 c.toks.length c1, .slice A2 c.names.length c2, .slice A3 c.alts.length c3] 25)).heap.size = w.heap.size + 1 := by simp
  have HLEN := Lib.hid hl
  clear h h1 h2 h3 hu ho hr1 hr2 hr3 hl
  go_enter Try.func25, Try.ntmps25
  go_wp2
  generalize w.alloc (.cells #[.slice A1 c.toks.length c1, .slice A2 c.names.length c2, .slice A3 c.alts.length c3] 25) = wb at *
  go_loopw [12] (fun i wr => (∃ n : Nat, n ≤ s.length ∧ i = .int .i64 n ∧ Hid (emptyP out (s.take n) = true)) ∧ Below wb.heap.size wb wr) (fun i _ => s.length - (intOf i).toNat)
  case atStart => exact ⟨⟨0, Nat.zero_le _, rfl, rfl⟩, Below.refl _ _⟩
  case round =>
    obtain ⟨⟨n, hn, rfl, hE⟩, hB⟩ := hrel
    have HB := Lib.hid (And.intro hE hB)
    have hwr := below2 hb1 hB
    have ku4r := ku4.below hwr
    have hbr := hB1.below hB
    have x0 := hbr.cell 0 (v := .slice A1 c.toks.length c1) rfl
    have x1 := hbr.cell 1 (v := .slice A2 c.names.length c2) rfl
    have x2 := hbr.cell 2 (v := .slice A3 c.alts.length c3) rfl
    have HWR := Lib.hid hwr
    clear hE hB hbr hwr
    by_cases hlt : n < s.length
    · obtain ⟨k, hk⟩ := at_lt s hlt
      obtain ⟨ad, rfl, hk64, hcell⟩ := ku4r.int hk
      have hstep : Hid (emptyP out (s.take (n + 1)) = (emptyP out (s.take n) && isN out k)) := by
        show _ = _
        unfold emptyP
        rw [take_next hk, List.all_append]; simp
      have hfull : Hid (isN out k = false → emptyP out s = false) := fun hf => by
        unfold emptyP
        rw [List.all_eq_false]
        exact ⟨k, List.mem_of_getElem? hk, by simp [hf]⟩
      have hrule := rule9_calls A1 A2 A3 c.toks.length c.names.length c.alts.length c1 c2 c3 k wr hk64 (by omega)
      rw [← HLEN.out] at hrule
      clear hk
      rcases rule9_cases out k with ⟨e1, e2⟩ | ⟨r, b, e1, hrl, hrb, e2⟩
      · rw [e1, HLEN.out] at hrule
        have HR := Lib.hid hrule
        have E2 := Lib.hid e2
        clear hrule e1 e2
        go_wp2_with (go_at_call 41; refine HR.out.mono ?_; rintro e w3 ⟨rfl, hb3⟩)
        go_ret
        exact ⟨ret_bool (by rw [hfull E2.out]), below2 HWR.out hb3⟩
      · rw [e1, HLEN.out] at hrule
        have HR := Lib.hid hrule
        have E2 := Lib.hid e2
        have hrl2 : r < c.alts.length := by have := HLEN.out; omega
        clear hrule e1 e2
        have HRB := Lib.hid hrb
        clear hrb
        have hcellb : Hid (∀ w' : World, Below w.heap.size w w' → ∃ ad, AO = some ad ∧ w'.cell? (ad.add r) = some (.bool b)) := fun w' hb => (ko4.below hb).bool HRB.out
        obtain ⟨ado, hao, _⟩ := hcellb.out w (Below.refl _ _)
        subst hao
        have HCB : Hid (∀ w' : World, Below w.heap.size w w' → w'.cell? (ado.add r) = some (.bool b)) := fun w' hb => by
          obtain ⟨ad', e', hc⟩ := hcellb.out w' hb
          injection e' with e'; subst e'; exact hc
        cases b with
        | true =>
          go_wp2_with (go_at_call 41; refine HR.out.mono ?_; rintro e w3 ⟨rfl, hb3⟩; have hcb := HCB.out w3 (below2 HWR.out hb3))
          refine ⟨⟨⟨n + 1, by omega, by simp, ?_⟩, below2 HB.out.2 hb3⟩, by simp [intOf]; omega⟩
          have h : emptyP out _ = _ := hstep
          show _ = _
          rw [h, E2.out, show emptyP out (s.take n) = true from HB.out.1]; rfl
        | false =>
          go_wp2_with (go_at_call 41; refine HR.out.mono ?_; rintro e w3 ⟨rfl, hb3⟩; have hcb := HCB.out w3 (below2 HWR.out hb3))
          go_ret
          exact ⟨ret_bool (by rw [hfull E2.out]), below2 HWR.out hb3⟩
    · go_wp2
      go_ret
      have h : emptyP out _ = true := HB.out.1
      rw [List.take_of_length_le (by omega)] at h
      exact ⟨ret_bool (by rw [h]), HWR.out⟩
end Go.Proofs.Ytgjobbapnileiaa
