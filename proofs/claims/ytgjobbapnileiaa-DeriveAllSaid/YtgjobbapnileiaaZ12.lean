/- maker.made: the walk; within: the walk; The chapter's example, without a program; bits.Mul, slices.Repeat of one number: the walks. -/
import Derived.Test.YtgjobbapnileiaaZ11
import Derived.Test.YtgjobbapnileiaaZ10
import Derived.Test.YtgjobbapnileiaaZ06
import Derived.Test.YtgjobbapnileiaaZ08
import Derived.Test.YtgjobbapnileiaaZ09
import Derived.Shelf.Bits.Mul64
set_option linter.unusedVariables false
set_option linter.unusedSimpArgs false
namespace Go.Proofs.Ytgjobbapnileiaa
open Go.RowKit Gk

/-- what is known of the rules, in a row of bags -/
def RulesAt (w : World) (R : Nat) (cells : Array Value) (rules : List Sents) : Prop :=
  Box w R cells 50 ∧ cells.size = rules.length ∧ ∀ (s : Nat) l, rules[s]? = some l → ∃ v, cells[s]? = some v ∧ Bag 0 w v l
theorem RulesAt.below {w w' : World} {R : Nat} {cells : Array Value} {rules : List Sents} (h : RulesAt w R cells rules) (hb : Below w.heap.size w w') : RulesAt w' R cells rules :=
  ⟨h.1.below hb, h.2.1, fun s l hl => by obtain ⟨v, hv, hB⟩ := h.2.2 s l hl; exact ⟨v, hv, hB.below hb⟩⟩
theorem Sl.tail {w : World} {ad : Addr} {s : List Int} {cU n : Nat} (h : Sl Ty.int w (.slice (some ad) s.length cU) s) (hn : n < s.length) : Sl Ty.int w (.slice (if cU = n + 1 then some ad else some ⟨ad.block, ad.off + (n + 1), none⟩) (s.length - (n + 1)) (cU - (n + 1))) (s.drop (n + 1)) := by
  obtain ⟨A, c, e, h1, h2, h3, h4⟩ := h
  injection e with e1 e2 e3
  subst e1 e3
  refine ⟨_, _, by rw [List.length_drop], by rw [List.length_drop]; omega, by omega, by rw [List.length_drop]; omega, ?_⟩
  split
  · have : s.drop (n + 1) = [] := List.drop_eq_nil_of_le (by omega)
    rw [this]; exact Row.nil _ _ _
  · have h5 := h4.drop (n + 1)
    have e : ad.add ((n + 1) * Ty.int.sz) = ⟨ad.block, ad.off + (n + 1), none⟩ := by
      show Addr.add _ ((n + 1) * 1) = _
      rw [Addr.add, if_neg (by omega)]; simp
    rw [e] at h5; exact h5
theorem Bag.at_ {B : Nat} {w : World} {A : Option Addr} {n c : Nat} {xs : List (List Int)} (h : Bag B w (.slice A n c) xs) {i : Nat} {x : List Int} (hx : xs[i]? = some x) :
    ∃ ad U cu, A = some ad ∧ w.cell? (ad.add i) = some (.slice U x.length cu) ∧ IL w (.slice U x.length cu) x ∧ x.length ≤ cu ∧ cu ≤ maxLen ∧ x.length ≤ 140737488355328 := by
  obtain ⟨us, ho, h2, h3⟩ := h
  obtain ⟨u, hu, hi⟩ := h3 i x hx
  have hcells := ho
  rcases ho.2 with ⟨e, h0⟩ | ⟨g, cap, cur, e, r1, r2, r3, r4, r5, r6⟩
  · have := (List.getElem?_eq_some_iff.1 hx).1; omega
  · injection e with e1 e2 e3
    subst e1
    obtain ⟨U, cu, rfl, i1, i2, i3, i4⟩ := hi.sl
    exact ⟨_, U, cu, rfl, hcells.cells (g := g) rfl _ _ hu, hi, i1, i2, i3⟩
theorem drop_at {α : Type} {l : List α} {n : Nat} {x : α} (h : l[n]? = some x) : l.drop n = x :: l.drop (n + 1) := by
  obtain ⟨h1, e⟩ := List.getElem?_eq_some_iff.1 h
  rw [List.drop_eq_getElem_cons h1, e]
def madeEnd (res : Option Sents) (w : World) (e : Ending) (w' : World) : Prop :=
  Below w.heap.size w w' ∧ match res with
    | none => e = .returned (.tuple #[.slice none 0 0, .bool false])
    | some out => ∃ v, e = .returned (.tuple #[v, .bool (decide (out.length ≤ 400))]) ∧ Bag w.heap.size w' v out
/-- loop 0: the first n numbers are done -/
def Made0 (short : List Int) (rules : List Sents) (long : Int) (s : List Int) (w : World) (i o : Value) (wr : World) : Prop :=
  ∃ (n : Nat) (out : Sents), n ≤ s.length ∧ i = .int .i64 n ∧ Bag w.heap.size wr o out ∧ Below w.heap.size w wr ∧ Hid (madeS (leastP short) rules long s [[]] = madeS (leastP short) rules long (s.drop n) out) ∧ Shrt long out ∧ out.length ≤ 3600
/-- loop 3: the first n of what was made before are done -/
def Made3 (long rest : Int) (parts out : Sents) (w1 : World) (i : Value) (wr : World) : Prop :=
  ∃ (n : Nat) (nv : Value) (next : Sents), n ≤ out.length ∧ i = .int .i64 n ∧ Box wr w1.heap.size #[nv] 50 ∧ Bag (w1.heap.size + 1) wr nv next ∧ Below w1.heap.size w1 wr ∧ Hid (stepX rest long parts out [] = stepX rest long parts (out.drop n) next) ∧ Hid (Srt next) ∧ Shrt long next ∧ next.length ≤ 3600
def Made5 (long rest : Int) (x : List Int) (parts next0 : Sents) (w1 : World) (i : Value) (wr : World) : Prop :=
  ∃ (n : Nat) (nv : Value) (next : Sents), n ≤ parts.length ∧ i = .int .i64 n ∧ Box wr w1.heap.size #[nv] 50 ∧ Bag (w1.heap.size + 1) wr nv next ∧ Below w1.heap.size w1 wr ∧ Hid (stepY rest long x parts next0 = stepY rest long x (parts.drop n) next) ∧ Hid (Srt next) ∧ Shrt long next ∧ next.length ≤ 3600 + n
set_option maxRecDepth 100000 in
set_option maxHeartbeats 4000000 in
theorem made_calls (X R : Nat) (a b d sv u : Value) (long : Int) (cells : Array Value) (short s : List Int) (rules : List Sents) (w : World) (hX : Box w X #[a, b, d, .int .i64 long, sv, .slice (some ⟨R, 0, none⟩) rules.length rules.length] 49) (hs : Sl Ty.int w sv short) (hu : Sl Ty.int w u s) (hnn : ∀ x ∈ short, 0 ≤ x)
    (hR : RulesAt w R cells rules) (hl1 : 0 ≤ long) (hl2 : long ≤ 8) (hsl : s.length ≤ 1000) (hrl : rules.length ≤ 1000) (hfew : ∀ l ∈ rules, l.length ≤ 400) (hsh : ∀ l ∈ rules, Shrt long l) (hin : ∀ k ∈ s, k < 0 → -1 - k < rules.length) :
    Calls Try.prog 19 #[.pointer (some ⟨X, 0, none⟩), u] w (madeEnd (madeS (leastP short) rules long s [[]]) w) := by
  have HS := Lib.hid (And.intro hX (And.intro hs (And.intro hu (And.intro hnn (And.intro hR (And.intro hfew hsh))))))
  obtain ⟨AU, cU, rfl, ku1, ku2, ku3, ku4⟩ := id hu
  unfold LB at ku3
  clear hX hs hu hnn hR hfew hsh
  go_enter Try.func19, Try.ntmps19
  go_wp2
  go_loopw [19, 6] (fun i o wr => Made0 short rules long s w i o wr) (fun i _ _ => s.length - (intOf i).toNat)
  case atStart =>
    exact ⟨0, [[]], Nat.zero_le _, rfl, Bag.lit1 (IL.nil w) (Nat.le_refl _), (Below.refl _ _).alloc (Nat.le_refl _) _, by simp [Hid], by intro x hx; simp at hx; subst hx; simpa using hl1, by simp⟩
  case round =>
    obtain ⟨n, out, hn, rfl, hO, hB, hM, hSh, hol⟩ := hrel
    obtain ⟨wo, rfl⟩ : ∃ wo : World, wo = wr := ⟨_, rfl⟩
    have HM := Lib.hid (And.intro hM (And.intro hSh hO))
    have hosl := hO.sl
    obtain ⟨AO, cO, rfl, o1, o2, o3, o4⟩ := hosl
    unfold LB at o3
    clear hM hSh hO
    have ku4r := ku4.below hB
    have hsB := hB.size
    by_cases hlt : n < s.length
    · obtain ⟨k, hk⟩ := at_lt s hlt
      obtain ⟨ad, rfl, hk64, hcell⟩ := ku4r.int hk
      have HK := Lib.hid hk; clear hk
      have hXo := Lib.hid (HS.out.1.below hB)
      have hx3 := hXo.out.cell 3 (v := .int .i64 long) rfl
      have hx5 := hXo.out.cell 5 (v := .slice (some ⟨R, 0, none⟩) rules.length rules.length) rfl
      obtain ⟨TL, hTL⟩ : ∃ TL, (if cU = n + 1 then some ad else some (⟨ad.block, ad.off + (n + 1), none⟩ : Addr)) = TL := ⟨_, rfl⟩
      have htl0 := Sl.tail (HS.out.2.2.1.below hB) hlt
      rw [hTL] at htl0
      have htl := Lib.hid htl0; clear htl0
      have hrest := leastP_nn HS.out.2.2.2.1 (s.drop (n + 1))
      have hstep : Hid (madeS (leastP short) rules long (s.drop n) out = match stepX (leastP short (s.drop (n + 1))) long (partsP rules k) out [] with | none => none | some nx => madeS (leastP short) rules long (s.drop (n + 1)) nx) := by
        rw [drop_at HK.out]; rfl
      obtain ⟨PX, hPX⟩ : ∃ p, Hid (p = partsP rules k) := ⟨_, rfl⟩
      have hpar : (0 ≤ k ∧ PX.length = 1 ∧ Hid (PX = [[k]])) ∨ (k < 0 ∧ ∃ (r : Nat) (AP : Option Addr) (cP : Nat), bits .xor .i64 (-1) k = r ∧ bits .xor .i64 (if IntKind.i64.signed = true then -1 else 9223372036854775807) k = r ∧ r < rules.length ∧ PX.length ≤ 400 ∧ wo.cell? ⟨R, r, none⟩ = some (.slice AP PX.length cP) ∧ PX.length ≤ cP ∧ cP ≤ maxLen ∧ Hid (Bag 0 wo (.slice AP PX.length cP) PX)) := by
        have e : PX = _ := hPX
        by_cases hk0 : 0 ≤ k
        · exact .inl ⟨hk0, by rw [e, partsP, if_pos hk0]; rfl, by rw [e, partsP, if_pos hk0]; rfl⟩
        · obtain ⟨r, hr, hxor⟩ := notOf hk64 (by omega)
          have hrl : r < rules.length := by have := hin k (List.mem_of_getElem? HK.out) (by omega); omega
          obtain ⟨l, hl⟩ := at_lt rules hrl
          obtain ⟨v, hv, hbag⟩ := (HS.out.2.2.2.2.1.below hB).2.2 r l hl
          have el : PX = l := by rw [e, partsP, if_neg hk0, show (-1 - k).toNat = r by omega, hl]; rfl
          subst el
          obtain ⟨AP, cP, rfl, p1, p2, _, _⟩ := hbag.sl
          exact .inr ⟨by omega, r, AP, cP, hxor, hxor, hrl, HS.out.2.2.2.2.2.1 _ (List.mem_of_getElem? hl), (HS.out.2.2.2.2.1.below hB).1.cell r hv, p1, p2, hbag⟩
      have hPl : PX.length ≤ 400 := by rcases hpar with h | ⟨_, _, _, _, _, _, _, h, _⟩ <;> omega
      have hmain : ∀ (AP : Option Addr) (cP : Nat) (wp : World), True := fun _ _ _ => trivial
      rcases hpar with ⟨hk0, hp1, hp2⟩ | ⟨hk0, r, AP, cP, hxor, hxor2, hrl, hp1, hp2, hp3, hp4, hp5⟩
      case' inl =>
        have hk0' : decide (k ≥ 0) = true := decide_eq_true hk0
        have hba : Below wo.heap.size wo ((wo.alloc (.cells #[.int .i64 k] 3)).alloc (.cells #[.slice (some ⟨wo.heap.size, 0, none⟩) 1 1] 34)) := ((Below.refl _ _).alloc (Nat.le_refl _) _).alloc (by simp) _
        have hpb : Hid (Bag 0 ((wo.alloc (.cells #[.int .i64 k] 3)).alloc (.cells #[.slice (some ⟨wo.heap.size, 0, none⟩) 1 1] 34)) (.slice (some ⟨wo.heap.size + 1, 0, none⟩) PX.length 1) PX) := by
          rw [hp1, show PX = [[k]] from hp2]
          unfold Hid
          have h := Bag.lit1 (B := 0) (w := wo.alloc (.cells #[.int .i64 k] 3)) (u := .slice (some ⟨wo.heap.size, 0, none⟩) 1 1) (x := [k]) (IL.of (Own.lit1 (B := 0) (D := fun _ => True) (int_far _ _ _ hk64) (Nat.zero_le _) trivial)) (Nat.zero_le _)
          simpa using h
        go_wp2_with (go_at_call 33; refine (least_calls X a b d sv _ _ long short (s.drop (n + 1)) _ (hXo.out.below hba) (HS.out.2.1.below (below2 hB hba)) (Sl.below htl.out hba) HS.out.2.2.2.1).mono ?_; rintro e w1 ⟨rfl, hD1⟩)
        rw [show (Value.slice (some ⟨wo.heap.size + 1, 0, none⟩) 1 1) = Value.slice (some ⟨wo.heap.size + 1, 0, none⟩) PX.length 1 by rw [hp1]]
        have hW1 : Below wo.heap.size wo w1 := below2 hba hD1.below
        have hP1 := Lib.hid (hpb.out.below hD1.below)
        have HPS : Hid (∀ y ∈ PX, y.length ≤ 8) := fun y hy => by rw [show PX = [[k]] from hp2] at hy; simp at hy; subst hy; simp
        clear hpb hp1
        have hAo : (some ⟨wo.heap.size + 1, 0, none⟩ : Option Addr) = some ⟨wo.heap.size + 1, 0, none⟩ := rfl
        generalize (some ⟨wo.heap.size + 1, 0, none⟩ : Option Addr) = AP at hP1 hAo ⊢
        clear hAo
      case' inr =>
        have hk0' : decide (k ≥ 0) = false := decide_eq_false (by omega)
        go_wp2_with (go_at_call 33; refine (least_calls X a b d sv _ _ long short (s.drop (n + 1)) _ hXo.out (HS.out.2.1.below hB) htl.out HS.out.2.2.2.1).mono ?_; rintro e w1 ⟨rfl, hD1⟩)
        have hW1 : Below wo.heap.size wo w1 := hD1.below
        have hP1 := Lib.hid (hp5.out.below hD1.below)
        have HPS : Hid (∀ y ∈ PX, y.length ≤ 8) := fun y hy => by
          have e : PX = _ := hPX
          have h1 : PX ∈ rules := by
            rw [e, partsP, if_neg (by omega)]
            have hr : r = (-1 - k).toNat := by have := i64_notneg k hk64.1 hk0; omega
            rw [← hr, List.getElem?_eq_getElem hrl]; exact List.getElem_mem _
          have := HS.out.2.2.2.2.2.2 _ h1 y hy; omega
      all_goals
          have hXw1 := Lib.hid (hXo.out.below hW1)
          have hOut1 := Lib.hid (HM.out.2.2.below hW1)
          clear hcell hx3 hx5 ku4r o4
          go_loopw [55] (fun i wr => Made3 long (leastP short (s.drop (n + 1))) PX out w1 i wr) (fun i _ => out.length - (intOf i).toNat)
          case atStart => exact ⟨0, .slice none 0 0, [], Nat.zero_le _, rfl, Box.new _ _ _, Bag.nil _ _, (Below.refl _ _).alloc (Nat.le_refl _) _, by simp [Hid], List.Pairwise.nil, (by intro x hx; simp at hx), by simp⟩
          case round =>
            obtain ⟨m, nv, next, hm, rfl, hN, hbag, hB3, hstX, hsrt, hsh3, hnl⟩ := hrel
            have H3 := Lib.hid (And.intro hN (And.intro hbag (And.intro hB3 (And.intro hstX (And.intro hsrt hsh3)))))
            have hsz3 := hB3.size
            clear hN hbag hB3 hstX hsrt hsh3
            by_cases hlt3 : m < out.length
            · obtain ⟨x, hx⟩ := at_lt out hlt3
              obtain ⟨adO, UX, cx, eA, hcx, hILx, hx1, hx2, hx3⟩ := (hOut1.out.below H3.out.2.2.1).at_ hx
              subst eA
              have hxl : x.length ≤ 8 := by have := HM.out.2.1 x (List.mem_of_getElem? hx); omega
              have HX := Lib.hid hx; clear hx
              have HIX := Lib.hid hILx; clear hILx
              obtain ⟨w3, rfl⟩ : ∃ w3 : World, w3 = wr := ⟨_, rfl⟩
              go_wp2
              go_loopw [61] (fun i wr => Made5 long (leastP short (s.drop (n + 1))) x PX next w1 i wr) (fun i _ => PX.length - (intOf i).toNat)
              case atStart => exact ⟨0, nv, next, Nat.zero_le _, rfl, H3.out.1, H3.out.2.1, H3.out.2.2.1, by simp [Hid], H3.out.2.2.2.2.1, H3.out.2.2.2.2.2, by omega⟩
              case round =>
                obtain ⟨q, nv5, nx5, hq, rfl, hN5, hbag5, hB5, hst5, hsrt5, hsh5, hnl5⟩ := hrel
                have hsz5 := hB5.size
                have hN5c := hN5.cell 0 (v := nv5) rfl
                obtain ⟨A5, c5, rfl, k1, k2, k3, _⟩ := hbag5.sl
                unfold LB at k3
                have hX5 := (hXw1.out.below hB5).cell 3 (v := .int .i64 long) rfl
                have H5 := Lib.hid (And.intro hN5 (And.intro hbag5 (And.intro hB5 (And.intro hst5 (And.intro hsrt5 hsh5)))))
                clear hN5 hbag5 hB5 hst5 hsrt5 hsh5
                by_cases hlt5 : q < PX.length
                · obtain ⟨y, hy⟩ := at_lt PX hlt5
                  obtain ⟨ady, UY, cy, eP, hcy, hILy, hy1, hy2, hy3⟩ := (hP1.out.below H5.out.2.2.1).at_ hy
                  subst eP
                  have hyl : y.length ≤ 8 := HPS.out y (List.mem_of_getElem? hy)
                  have HY := Lib.hid hy; clear hy
                  have HIY := Lib.hid hILy; clear hILy
                  obtain ⟨w5, rfl⟩ : ∃ w5 : World, w5 = wr := ⟨_, rfl⟩
                  have hILx5 : Hid (IL w5 (.slice UX x.length cx) x) := by
                    obtain ⟨adO', UX', cx', eA', hcx', hIL', _, _, _⟩ := (hOut1.out.below H5.out.2.2.1).at_ HX.out
                    injection eA' with eA'
                    subst eA'
                    have hkeep := (hOut1.out).at_ HX.out
                    obtain ⟨ad0, U0, c0, e0, hc0, hIL0, _, _, _⟩ := hkeep
                    injection e0 with e0
                    subst e0
                    have q1 := cell_far hc0 H3.out.2.2.1.block
                    rw [hcx] at q1; injection q1 with q1; rw [q1]
                    exact hIL0.ki (KI.below H5.out.2.2.1)
                  by_cases hcond : (x.length : Int) + y.length + leastP short (s.drop (n + 1)) ≤ long
                  · have hCC := concat_calls w5.heap.size (.slice UX x.length cx) (.slice UY y.length cy) x y _ (Box.new w5 _ _) (hILx5.out.ki (KI.below ((Below.refl _ _).alloc (Nat.le_refl _) _))) (HIY.out.ki (KI.below ((Below.refl _ _).alloc (Nat.le_refl _) _))) (by omega) (by omega)
                    have hlt1 := H5.out.1.lt
                    have hAdd : ∀ (v6 : Value) (w6 : World), Below w5.heap.size w5 w6 → IL w6 v6 (x ++ y) → Calls Try.prog 20 #[.pointer (some ⟨w1.heap.size, 0, none⟩), v6] w6 (addEnd (w1.heap.size + 1) nx5 (x ++ y) w1.heap.size 0 #[.slice A5 nx5.length c5] 50 (.slice A5 nx5.length c5) w6) := fun v6 w6 hb56 hIL6 =>
                      add_calls (w1.heap.size + 1) w1.heap.size 0 _ _ _ _ nx5 (x ++ y) w6 (H5.out.1.below hb56) (by decide) rfl (H5.out.2.1.below hb56) hIL6 H5.out.2.2.2.2.1 (fun e => by have := (H5.out.2.1.lt _ e).1; omega) (by omega) (by have := hb56.size; omega)
                    obtain ⟨z, hz⟩ : ∃ z, z = x ++ y := ⟨_, rfl⟩
                    rw [← hz] at hCC hAdd
                    have HZ := Lib.hid hz; clear hz
                    have HADD := Lib.hid hAdd; clear hAdd
                    have HCC := Lib.hid hCC; clear hCC
                    go_wp2_with (first | (go_at_call 34; refine HCC.out.mono ?_; rintro e w6 ⟨v6, rfl, hIL6, hb6⟩; obtain ⟨A6, c6, rfl, j1, j2, j3, j4⟩ := id hIL6.sl; clear j4; have hb56 : Below w5.heap.size w5 w6 := below2 ((Below.refl _ _).alloc (Nat.le_refl _) _) hb6; have HI6 := Lib.hid hIL6; clear hIL6) | (go_at_call 20; refine (HADD.out _ w6 hb56 HI6.out).mono ?_; rintro e w7 ⟨v7, rfl, hbx7, hbag7, hE7, hat7⟩))
                    have hb6s := hb56.size
                    have hz : z = x ++ y := HZ.out
                    subst hz
                    refine ⟨⟨q + 1, v7, insS nx5 (x ++ y), by omega, by simp, hbx7, hbag7, ?_, ?_, srt_insS H5.out.2.2.2.2.1 _, fun z hz => ?_, ?_⟩, by simp [intOf]; omega⟩
                    · have hb16 := below2 H5.out.2.2.1 hb56
                      refine ⟨hE7.os.trans hb16.os, hE7.tape.trans hb16.tape, hE7.output.trans hb16.output, Nat.le_trans hb16.size hE7.ki.size, fun c hc => ?_⟩
                      rw [hE7.block c (by omega) (by omega) (fun e => by have := (H5.out.2.1.lt c e.symm).1; omega), hb16.block c hc]
                    · have h5 : stepY _ _ _ _ _ = _ := H5.out.2.2.2.1
                      show _ = _
                      rw [h5, drop_at HY.out, stepY_cons, if_pos hcond]
                    · rcases mem_insS.1 hz with hz | rfl
                      · exact H5.out.2.2.2.2.2 z hz
                      · have := leastP_nn HS.out.2.2.2.1 (s.drop (n + 1)); simp only [List.length_append]; omega
                    · have := insS_ge (l := nx5) (x := x ++ y); omega
                  · go_wp2
                    refine ⟨⟨q + 1, _, nx5, by omega, by simp, H5.out.1, H5.out.2.1, H5.out.2.2.1, ?_, H5.out.2.2.2.2.1, H5.out.2.2.2.2.2, by omega⟩, by simp [intOf]; omega⟩
                    have h5 : stepY _ _ _ _ _ = _ := H5.out.2.2.2.1
                    show _ = _
                    rw [h5, drop_at HY.out, stepY_cons, if_neg hcond]
                · have hqe : q = PX.length := by omega
                  have hfin : Hid (stepY (leastP short (s.drop (n + 1))) long x PX next = nx5) := by
                    have h5 : stepY _ _ _ _ _ = _ := H5.out.2.2.2.1
                    show _ = _
                    rw [h5, hqe, List.drop_length]; rfl
                  have HQE := Lib.hid hqe; clear hqe
                  by_cases h36 : 3600 < nx5.length
                  · go_wp2
                    go_ret2
                    have h1 : madeS _ _ _ _ _ = _ := HM.out.1
                    have h2 : madeS _ _ _ _ _ = _ := hstep
                    have h3 : stepX _ _ _ _ _ = _ := H3.out.2.2.2.1
                    have h4 : stepY _ _ _ _ _ = _ := hfin
                    have h5 : PX = _ := hPX
                    refine ⟨below2 (below2 hB hW1) H5.out.2.2.1, ?_⟩
                    rw [h1, h2, ← h5, h3, drop_at HX.out, stepX, h4, if_pos h36]
                    rfl
                  · go_wp2
                    refine ⟨⟨m + 1, _, nx5, by omega, by simp, H5.out.1, H5.out.2.1, H5.out.2.2.1, ?_, H5.out.2.2.2.2.1, H5.out.2.2.2.2.2, by omega⟩, by simp [intOf]; omega⟩
                    have h3 : stepX _ _ _ _ _ = _ := H3.out.2.2.2.1
                    have h4 : stepY _ _ _ _ _ = _ := hfin
                    show _ = _
                    rw [h3, drop_at HX.out, stepX, h4, if_neg h36]
            · have hme : m = out.length := by omega
              have HME := Lib.hid hme; clear hme
              obtain ⟨A5, c5, rfl, k1, k2, k3, _⟩ := H3.out.2.1.sl
              unfold LB at k3
              have hN5c := H3.out.1.cell 0 (v := .slice A5 next.length c5) rfl
              go_wp2
              refine ⟨⟨n + 1, next, by omega, by simp, H3.out.2.1.mono (fun k hk => by have := (H3.out.2.1.lt k hk).1; have := hW1.size; omega), below2 (below2 hB hW1) H3.out.2.2.1, ?_, H3.out.2.2.2.2.2, hnl⟩, by simp [intOf]; omega⟩
              have h1 : madeS _ _ _ _ _ = _ := HM.out.1
              have h2 : madeS _ _ _ _ _ = _ := hstep
              have h3 : stepX _ _ _ _ _ = _ := H3.out.2.2.2.1
              have h5 : PX = _ := hPX
              show _ = _
              rw [h1, h2, ← h5, h3, HME.out, List.drop_length]
              rfl
    · have hne : n = s.length := by omega
      have HNE := Lib.hid hne; clear hne
      have hfin : Hid (madeS (leastP short) rules long s [[]] = some out) := by
        have h1 : madeS _ _ _ _ _ = _ := HM.out.1
        show _ = _
        rw [h1, HNE.out, List.drop_length]; rfl
      by_cases h4 : (out.length : Int) ≤ 400
      · have h4' : out.length ≤ 400 := by omega
        go_wp2
        go_ret2
        have h1 : madeS _ _ _ _ _ = _ := hfin
        refine ⟨hB, ?_⟩
        rw [h1]
        exact ⟨_, by simp [h4'], HM.out.2.2⟩
      · have h4' : ¬ out.length ≤ 400 := by omega
        go_wp2
        go_ret2
        have h1 : madeS _ _ _ _ _ = _ := hfin
        refine ⟨hB, ?_⟩
        rw [h1]
        exact ⟨_, by simp [h4'], HM.out.2.2⟩
end Go.Proofs.Ytgjobbapnileiaa
set_option linter.unusedVariables false
set_option linter.unusedSimpArgs false
namespace Go.Proofs.Ytgjobbapnileiaa
open Go.RowKit Gk

def isOf (c : Cfg) (k : Int) : Bool := decide ((k < 0 ∧ -1 - k < c.alts.length) ∨ (0 ≤ k ∧ k < c.toks.length))
def withinEnd (c : Cfg) (s : List Int) (w : World) (e : Ending) (w' : World) : Prop := ∃ v, e = .returned v ∧ OwnI w.heap.size w' v (s.filter (isOf c)) ∧ Below w.heap.size w w'
set_option maxRecDepth 100000 in
set_option maxHeartbeats 4000000 in
theorem within_calls (c : Cfg) (s : List Int) (v u : Value) (w : World) (h : CfgV w v c) (hu : Sl Ty.int w u s) (hsl : s.length ≤ 1000) (hal : c.alts.length ≤ 1000) (htk : c.toks.length ≤ 1000) :
    Calls Try.prog 14 #[v, u] w (withinEnd c s w) := by
  obtain ⟨a0, b0, d0, rfl, h1, h2, h3⟩ := id h
  obtain ⟨A1, c1, rfl, hc1, hm1, hl1, hr1⟩ := id h1
  obtain ⟨A2, c2, rfl, hc2, hm2, hl2, hr2⟩ := id h2
  obtain ⟨A3, c3, rfl, hc3, hm3, hl3, hr3⟩ := id h3
  obtain ⟨AU, cU, rfl, ku1, ku2, ku3, ku4⟩ := id hu
  unfold LB at hl1 hl3 ku3
  clear h h1 h2 h3 hu hr1 hr2 hr3
  go_enter Try.func14, Try.ntmps14
  have hbx := Box.new w #[.slice A1 c.toks.length c1, .slice A2 c.names.length c2, .slice A3 c.alts.length c3] 25
  have hba : Below w.heap.size w (w.alloc (.cells #[.slice A1 c.toks.length c1, .slice A2 c.names.length c2, .slice A3 c.alts.length c3] 25)) := (Below.refl _ _).alloc (Nat.le_refl _) _
  have hszb : (w.alloc (.cells #[.slice A1 c.toks.length c1, .slice A2 c.names.length c2, .slice A3 c.alts.length c3] 25)).heap.size = w.heap.size + 1 := by simp
  go_wp2
  generalize w.alloc (.cells #[.slice A1 c.toks.length c1, .slice A2 c.names.length c2, .slice A3 c.alts.length c3] 25) = wb at *
  go_loopw [10, 5] (fun i o wr => (∃ n : Nat, n ≤ s.length ∧ i = .int .i64 n ∧ OwnI (w.heap.size + 1) wr o ((s.take n).filter (isOf c))) ∧ Below wb.heap.size wb wr) (fun i _ _ => s.length - (intOf i).toNat)
  case atStart => exact ⟨⟨0, Nat.zero_le _, rfl, Own.nil _ _ _ _ _⟩, Below.refl _ _⟩
  case round =>
    obtain ⟨⟨n, hn, rfl, hO⟩, hB⟩ := hrel
    have HB := Lib.hid (And.intro hO hB)
    have hwr := below2 hba hB
    have ku4r := ku4.below hwr
    have hbr := hbx.below hB
    have x0 := hbr.cell 0 (v := .slice A1 c.toks.length c1) rfl
    have x2 := hbr.cell 2 (v := .slice A3 c.alts.length c3) rfl
    have hszr := hB.size
    clear hO hB hwr
    by_cases hlt : n < s.length
    · obtain ⟨k, hk⟩ := at_lt s hlt
      obtain ⟨ad, rfl, hk64, hcell⟩ := ku4r.int hk
      have HK := Lib.hid hk; clear hk
      have hk1 := hk64.1
      have hk2 := hk64.2
      have hyes : isOf c k = true → Hid ((s.take (n + 1)).filter (isOf c) = (s.take n).filter (isOf c) ++ [k]) := fun h => by
        show _ = _; rw [take_next HK.out, List.filter_append]; simp [h]
      have hno : isOf c k = false → Hid ((s.take (n + 1)).filter (isOf c) = (s.take n).filter (isOf c)) := fun h => by
        show _ = _; rw [take_next HK.out, List.filter_append]; simp [h]
      have HY := Lib.hid (And.intro hyes hno)
      have hO' := Lib.hid HB.out.1
      clear hyes hno
      have hfl : ((s.take n).filter (isOf c)).length ≤ 1000 := Nat.le_trans (List.length_filter_le _ _) (by simp; omega)
      obtain ⟨A5, c5, o5, _, _, _, _⟩ := HB.out.1.sl
      obtain ⟨fl, hfe⟩ : ∃ fl, fl = (s.take n).filter (isOf c) := ⟨_, rfl⟩
      rw [← hfe] at hfl
      have HFE := Lib.hid hfe; clear hfe
      have hO2 : Hid (OwnI (w.heap.size + 1) wr u5 fl) := by rw [HFE.out]; exact HB.out.1
      clear o5
      by_cases hk0 : k < 0
      · have hwp : IntKind.i64.wrap (-1 - k) = -1 - k := by rw [IntKind.wrap_i64]; omega
        by_cases hr : -1 - k < (c.alts.length : Int)
        · have hy : isOf c k = true := decide_eq_true (.inl ⟨hk0, hr⟩)
          have hd : decide (-1 - k < (c.alts.length : Int)) = true := decide_eq_true hr
          obtain ⟨wo, rfl⟩ : ∃ wo : World, wo = wr := ⟨_, rfl⟩
          go_wp2_with (at_builtin; refine wpList_app (T := Ty.int) (xs := fl) (w0 := wb) (W := wo) (B := w.heap.size + 1) (D := fun _ => True) rfl (.tmp 35) (.tmp 37) 34 3 8 rfl elemInt rfl k #[.int .i64 k] _ rfl rfl hO2 (fun _ _ => trivial) (fun _ _ _ => ⟨rfl, hk64⟩) (HB.out.2.mono (by omega)) (by omega) (by omega) ?_; intro v3 w3 hO3 hB3 _ _)
          refine ⟨⟨⟨n + 1, by omega, by simp, ?_⟩, by rw [hszb]; exact hB3⟩, by simp [intOf]; omega⟩
          have h := HY.out.1 hy
          rw [show List.filter _ _ = _ from h, ← HFE.out]; exact hO3
        · have hy : isOf c k = false := decide_eq_false (fun h => by omega)
          have hd : decide (-1 - k < (c.alts.length : Int)) = false := decide_eq_false hr
          go_wp2
          refine ⟨⟨⟨n + 1, by omega, by simp, ?_⟩, HB.out.2⟩, by simp [intOf]; omega⟩
          have h := HY.out.2 hy
          rw [show List.filter _ _ = _ from h]; exact HB.out.1
      · by_cases hr : k < (c.toks.length : Int)
        · have hy : isOf c k = true := decide_eq_true (.inr ⟨by omega, hr⟩)
          obtain ⟨wo, rfl⟩ : ∃ wo : World, wo = wr := ⟨_, rfl⟩
          go_wp2_with (at_builtin; refine wpList_app (T := Ty.int) (xs := fl) (w0 := wb) (W := wo) (B := w.heap.size + 1) (D := fun _ => True) rfl (.tmp 35) (.tmp 37) 34 3 8 rfl elemInt rfl k #[.int .i64 k] _ rfl rfl hO2 (fun _ _ => trivial) (fun _ _ _ => ⟨rfl, hk64⟩) (HB.out.2.mono (by omega)) (by omega) (by omega) ?_; intro v3 w3 hO3 hB3 _ _)
          refine ⟨⟨⟨n + 1, by omega, by simp, ?_⟩, by rw [hszb]; exact hB3⟩, by simp [intOf]; omega⟩
          have h := HY.out.1 hy
          rw [show List.filter _ _ = _ from h, ← HFE.out]; exact hO3
        · have hy : isOf c k = false := decide_eq_false (fun h => by omega)
          go_wp2
          refine ⟨⟨⟨n + 1, by omega, by simp, ?_⟩, HB.out.2⟩, by simp [intOf]; omega⟩
          have h := HY.out.2 hy
          rw [show List.filter _ _ = _ from h]; exact HB.out.1
    · have hne : n = s.length := by omega
      have HNE := Lib.hid hne; clear hne
      obtain ⟨A5, c5, o5, _, _, _, _⟩ := HB.out.1.sl
      clear o5
      go_wp2
      go_ret
      refine ⟨_, rfl, ?_, below2 hba HB.out.2⟩
      have h := HB.out.1
      rw [HNE.out, List.take_length] at h
      obtain ⟨css, ⟨g1, g2⟩, q2, q3, q5, q4⟩ := h
      refine ⟨css, ⟨g1, ?_⟩, q2, q3, q5, q4⟩
      rcases g2 with g2 | ⟨g, cap, cur, e, r1, r2⟩
      · exact .inl g2
      · exact .inr ⟨g, cap, cur, e, by omega, r2⟩
end Go.Proofs.Ytgjobbapnileiaa
set_option linter.unusedVariables false
set_option linter.unusedSimpArgs false
namespace Go.Proofs.Ytgjobbapnileiaa
open Go.RowKit Gk

def exAlts : List (List (List Int)) := [[[0, -1, 1], []]]
/-- tokens of one kind against the other -/
def bal (k : Int) : Int := if k = 0 then 1 else if k = 1 then -1 else 0
def balL (s : List Int) : Int := (s.map bal).sum
theorem bal_gen {c : Cfg} (hc : c.alts = exAlts) {s x : List Int} (h : Gen c s x) : balL x = balL s := by
  induction h with
  | nil => rfl
  | tok h1 _ ih => simp only [balL, List.map_cons, List.sum_cons] at ih ⊢; omega
  | @rule k s x y a al h1 h2 h3 _ _ ih1 ih2 =>
    rw [hc] at h2
    have hk : (-1 - k).toNat = 0 := by
      have := (List.getElem?_eq_some_iff.1 h2).1
      simp [exAlts] at this; omega
    rw [hk] at h2
    simp only [exAlts, List.getElem?_cons_zero, Option.some.injEq] at h2
    subst h2
    have ha : balL a = 0 := by
      simp only [List.mem_cons, List.not_mem_nil, or_false] at h3
      rcases h3 with rfl | rfl <;> decide
    have hb : bal k = 0 := by unfold bal; rw [if_neg (by omega), if_neg (by omega)]
    simp only [balL, List.map_cons, List.sum_cons, List.map_append, List.sum_append] at ih1 ih2 ha ⊢
    omega
theorem ex_not {c : Cfg} (hc : c.alts = exAlts) : ¬ Gen c [-1] [0, 0, 1] := fun h => by
  have := bal_gen hc h
  exact absurd this (by decide)
theorem ex_eps {c : Cfg} (hc : c.alts = exAlts) : Gen c [-1] [] := by
  have := Gen.rule (c := c) (k := -1) (s := []) (x := []) (y := []) (a := []) (al := [[0, -1, 1], []]) (by decide) (by rw [hc]; rfl) (by simp) .nil .nil
  simpa using this
theorem ex_more {c : Cfg} (hc : c.alts = exAlts) {x : List Int} (h : Gen c [-1] x) : Gen c [-1] (0 :: (x ++ [1])) := by
  have h1 : Gen c [0, -1, 1] (0 :: (x ++ [1])) := .tok (by decide) (by
    have := h.append (t := [1]) (y := [1]) (.tok (by decide) .nil)
    simpa using this)
  have := Gen.rule (c := c) (k := -1) (s := []) (y := []) (a := [0, -1, 1]) (al := [[0, -1, 1], []]) (by decide) (by rw [hc]; rfl) (by simp) h1 .nil
  simpa using this
theorem ex_is {c : Cfg} (hc : c.alts = exAlts) : Gen c [-1] [0, 0, 1, 1] := ex_more hc (ex_more hc (ex_eps hc))
theorem ex_short {c : Cfg} (hc : c.alts = exAlts) : ShortOk c [0] := by
  refine ⟨by rw [hc]; rfl, fun r m hm => ?_⟩
  have hr : r = 0 := by
    have := (List.getElem?_eq_some_iff.1 hm).1
    simp at this; exact this
  subst hr
  simp at hm; subst hm
  exact ⟨by omega, by unfold farI; omega, fun al a x _ _ _ => by omega, fun _ => ⟨[[0, -1, 1], []], [], [], by rw [hc]; rfl, by simp, .nil, rfl⟩⟩
theorem ex_loop : loopS (fun R a => madeS (leastP [0]) R 4 a [[]]) exAlts 10 [[]] = some (some [[[], [0, 1], [0, 0, 1, 1]]]) := by decide +kernel
end Go.Proofs.Ytgjobbapnileiaa
set_option linter.unusedVariables false
set_option linter.unusedSimpArgs false
namespace Go.Proofs.Ytgjobbapnileiaa
open Go.RowKit Gk Go.Shelf Go.Lib

set_option maxHeartbeats 2000000 in
theorem mul64_calls (x y : Nat) (hx : x < 18446744073709551616) (hy : y < 18446744073709551616) (w : World) :
    Calls Try.prog 62 #[.int .u64 x, .int .u64 y] w fun e w' => e = .returned (.tuple #[.int .u64 ((x * y / 18446744073709551616 : Nat) : Int), .int .u64 ((x * y % 18446744073709551616 : Nat) : Int)]) ∧ w' = w := by
  obtain ⟨bd, bt, bw, hhi⟩ := Lib.mul64_hi x y hx hy
  have ba := Lib.half_mul_le (a := x / 4294967296) (b := y / 4294967296) (by omega) (by omega)
  have bb := Lib.half_mul_le (a := x / 4294967296) (b := y % 4294967296) (by omega) (by omega)
  have bc := Lib.half_mul_le (a := x % 4294967296) (b := y / 4294967296) (by omega) (by omega)
  have ba' : x / 4294967296 * (y / 4294967296) < 18446744073709551616 := by omega
  have bb' : x / 4294967296 * (y % 4294967296) < 18446744073709551616 := by omega
  have bc' : x % 4294967296 * (y / 4294967296) < 18446744073709551616 := by omega
  have bh1 : x / 4294967296 * (y / 4294967296) + (x / 4294967296 * (y % 4294967296) + x % 4294967296 * (y % 4294967296) / 4294967296) / 4294967296 < 18446744073709551616 := by omega
  have bh : x / 4294967296 * (y / 4294967296) + (x / 4294967296 * (y % 4294967296) + x % 4294967296 * (y % 4294967296) / 4294967296) / 4294967296 + ((x / 4294967296 * (y % 4294967296) + x % 4294967296 * (y % 4294967296) / 4294967296) % 4294967296 + x % 4294967296 * (y / 4294967296)) / 4294967296 < 18446744073709551616 := by omega
  go_enter Try.func62, Try.ntmps62
  go_wp2
  simp only [Mul64.maskN x hx, Mul64.maskN y hy, Mul64.divN, Mul64.mulN, Mul64.addN, Mul64.wrapN _ bd, Mul64.wrapN _ bb', Mul64.wrapN _ bt, Mul64.maskN _ bt, Mul64.wrapN _ bc', Mul64.wrapN _ bw, Mul64.wrapN _ ba', Mul64.wrapN _ bh1, Mul64.wrapN _ bh, Mul64.wrapM (x * y)]
  rw [hhi]
  go_ret2
  exact ⟨rfl, rfl⟩
theorem mul_calls (x y : Nat) (hx : x < 18446744073709551616) (hy : y < 18446744073709551616) (w : World) :
    Calls Try.prog 49 #[.int .u64 x, .int .u64 y] w fun e w' => e = .returned (.tuple #[.int .u64 ((x * y / 18446744073709551616 : Nat) : Int), .int .u64 ((x * y % 18446744073709551616 : Nat) : Int)]) ∧ w' = w := by
  have c64 := mul64_calls x y hx hy w
  go_enter Try.func49, Try.ntmps49
  go_wp2_with (go_at_call 62; refine c64.mono ?_; rintro e w' ⟨rfl, hw⟩; rw [hw])
  go_ret2
  exact ⟨rfl, rfl⟩
theorem sizeInt : (Try.prog.info? 3).map (·.size) = some 1 := by kernel_rfl
theorem madeZero (n : Nat) : madeCells #[Value.int .i64 0] (n * 1) = Array.replicate n (.int .i64 0) := by
  apply Array.ext_getElem?
  intro j
  by_cases hj : j < n
  · simp [madeCells, hj, Nat.mod_one]
  · simp [madeCells, hj]
/-- the first m are v -/
def Fst (w : World) (O n m : Nat) (v : Value) : Prop := ∃ cs : Array Value, Box w O cs 3 ∧ cs.size = n ∧ ∀ j, j < m → cs[j]? = some v
set_option maxHeartbeats 4000000 in
set_option maxRecDepth 100000 in
theorem repeat_calls (N n : Nat) (z : Int) (w : World) (hN : Box w N #[.int .i64 z] 3) (hn0 : 0 < n) (hn : n ≤ 100000) :
    Calls Try.prog 29 #[.slice (some ⟨N, 0, none⟩) 1 1, .int .i64 n] w fun e w' => ∃ O, e = .returned (.slice (some ⟨O, 0, none⟩) n n) ∧ Box w' O (Array.replicate n (.int .i64 z)) 3 ∧ w.heap.size ≤ O ∧ Below w.heap.size w w' := by
  have hmul := mul_calls 1 n (by omega) (by omega) w
  rw [Nat.one_mul, show n / 18446744073709551616 = 0 by omega, show n % 18446744073709551616 = n by omega] at hmul
  have HN := Lib.hid hN
  have hNlt := hN.lt
  have hN' := hN
  have hw1 : IntKind.u64.wrap (n : Int) = n := by rw [IntKind.wrap_u64]; omega
  clear hN
  obtain ⟨i0, hi0, hz0, hzs, hzb⟩ := info_parts infoInt
  have hmk := run_makeSlice (P := Try.prog) w 34 3 i0 _ Try.underlying34 hi0 hz0 .i64 .i64 n n (by omega) (by omega) (by rw [hzs]; omega) (by rw [hzb]; omega) (by omega)
  have e0 : (madeCells (Value.int .i64 0).cells ((n : Int).toNat * i0.size)) = Array.replicate n (.int .i64 0) := by rw [hzs, Int.toNat_natCast]; exact madeZero n
  rw [e0, Int.toNat_natCast] at hmk
  have hO0 := Box.new w (Array.replicate n (Value.int .i64 0)) 3
  have hNa := hN'.alloc (.cells (Array.replicate n (Value.int .i64 0)) 3)
  have hba : Below w.heap.size w (w.alloc (.cells (Array.replicate n (Value.int .i64 0)) 3)) := (Below.refl _ _).alloc (Nat.le_refl _) _
  have hcp : ∀ ty, (Builtin.copy_ #[34, 34] ty #[.slice (some ⟨w.heap.size, 0, none⟩) n n, .slice (some ⟨N, 0, none⟩) 1 1]).run Try.prog (w.alloc (.cells (Array.replicate n (Value.int .i64 0)) 3)) = .ok (goInt [Value.int .i64 z].length) ((w.alloc (.cells (Array.replicate n (Value.int .i64 0)) 3)).setCells w.heap.size 0 [.int .i64 z]) := fun ty =>
    run_copy_cells _ _ _ ty 3 w.heap.size 0 n n ⟨N, 0, none⟩ 1 1 [.int .i64 z] Try.underlying34 sizeInt (by show 1 = Nat.min 1 n; simp only [Nat.min_def]; split <;> omega)
      (fun j v hj => by rw [Addr.add_lit]; simpa using hNa.cell j (by simpa using hj)) (fun j hj => by have e : j = 0 := Nat.lt_one_iff.1 hj; rw [e, hO0.cell 0 (v := .int .i64 0) (by rw [Array.getElem?_replicate, if_pos hn0])]; rfl) (fun j hj => hO0.frozen _) (fun v hv => by rw [List.mem_singleton.1 hv]; rfl)
  have hg0 := grown_setCells w.heap.size 0 [Value.int .i64 z] (w.alloc (.cells (Array.replicate n (Value.int .i64 0)) 3))
  obtain ⟨cur, hcur, hcurl⟩ := heap_setCells w.heap.size [Value.int .i64 z] 0 (w.alloc (.cells (Array.replicate n (Value.int .i64 0)) 3)) _ _ _ hO0
  have hF1 : Hid (Fst ((w.alloc (.cells (Array.replicate n (Value.int .i64 0)) 3)).setCells w.heap.size 0 [.int .i64 z]) w.heap.size n 1 (.int .i64 z)) := by
    rw [over_eq _ _ _ (by simp; omega)] at hcurl
    refine ⟨cur, hcur, ?_, fun j hj => ?_⟩
    · have := congrArg List.length hcurl; simp at this; omega
    · have : j = 0 := by omega
      subst this
      have := congrArg (fun l => l[0]?) hcurl; simpa using this
  have hb1 : Hid (Below w.heap.size w ((w.alloc (.cells (Array.replicate n (Value.int .i64 0)) 3)).setCells w.heap.size 0 [.int .i64 z])) := hba.grown hg0 (by simp) (fun k e => by injection e with e; omega)
  have mixed : Try.prog.follows .mixedOrders = true := by kernel_rfl
  clear hNa hba hg0 hcur hcurl hO0 hN' e0 hi0 hz0 hzs hzb
  go_enter Try.func29, Try.ntmps29
  go_wp2_with (first | (go_at_call 49; refine hmul.mono ?_; rintro e w' ⟨rfl, hw⟩; rw [hw]) | (at_builtin; refine Go.Proofs.wpList_copy_runI _ rfl _ _ 34 34 rfl _ _ rfl rfl (hcp _) ?_))
  generalize (w.alloc (.cells (Array.replicate n (Value.int .i64 0)) 3)).setCells w.heap.size 0 [.int .i64 z] = wc at *
  generalize Value.bool (decide ((n : Int) < 0)) = y1
  generalize Value.bool (decide (9223372036854775807 < (n : Int))) = y2
  clear hcp hmk hmul
  go_loopw [8] (fun i wr => ∃ m : Nat, 1 ≤ m ∧ m ≤ n ∧ i = .int .i64 m ∧ Hid (Fst wr w.heap.size n m (.int .i64 z)) ∧ Below w.heap.size w wr) (fun i _ => n - (RowKit.intOf i).toNat)
  case atStart => exact ⟨1, Nat.le_refl _, hn0, rfl, hF1, hb1⟩
  case round =>
    obtain ⟨m, hm1, hmn, rfl, hF, hB⟩ := hrel
    obtain ⟨cs, hcs, hcl, hcv⟩ := hF
    by_cases hlt : m < n
    · obtain ⟨k, hk⟩ : ∃ k, k = Nat.min m (n - m) := ⟨_, rfl⟩
      have hk1 : 1 ≤ k ∧ m + k ≤ n ∧ k ≤ m := by rw [hk]; simp only [Nat.min_def]; split <;> omega
      have hcp2 : ∀ ty, (Builtin.copy_ #[34, 34] ty #[.slice (some ⟨w.heap.size, m, none⟩) (n - m) (n - m), .slice (some ⟨w.heap.size, 0, none⟩) m n]).run Try.prog wr.drew = .ok (goInt (List.replicate k (Value.int .i64 z)).length) (wr.drew.setCells w.heap.size m (List.replicate k (.int .i64 z))) := fun ty =>
        run_copy_cells wr.drew _ _ ty 3 w.heap.size m (n - m) (n - m) ⟨w.heap.size, 0, none⟩ m n (List.replicate k (.int .i64 z)) Try.underlying34 sizeInt (by rw [List.length_replicate]; exact hk)
          (fun j v hj => by
            rw [List.getElem?_replicate] at hj
            split at hj
            · injection hj with hj; subst hj
              rw [Addr.add_lit]; simpa using hcs.cell j (hcv j (by omega))
            · cases hj)
          (fun j hj => by rw [List.length_replicate] at hj; rw [show wr.drew.cell? ⟨w.heap.size, m + j, none⟩ = some cs[m + j] from hcs.cell (m + j) (Array.getElem?_eq_getElem (by omega))]; rfl) (fun j hj => hcs.frozen _) (fun v hv => by rw [List.eq_of_mem_replicate hv]; rfl)
      have hHK := Lib.hid hk; clear hk
      have HC := Lib.hid (And.intro hcs (And.intro hcl hcv))
      clear hcs hcl hcv
      have hnm : ¬ n = m := by omega
      rw [List.length_replicate] at hcp2
      go_wp2
      go_region_law_o (refine Go.Proofs.step_copy_runI rfl _ _ 34 34 rfl _ _ (by simp [Act.eval, Act.put]) (by simp [Act.eval, Act.put]) (hcp2 _) ?_)
      simp [Act.put]
      go_wp2
      have hw2 : IntKind.i64.wrap ((m : Int) + (k : Int)) = ((m + k : Nat) : Int) := by rw [IntKind.wrap_i64]; omega
      obtain ⟨cur2, hc2, hl2⟩ := heap_setCells w.heap.size (List.replicate k (Value.int .i64 z)) m wr.drew cs _ _ HC.out.1
      have hcl := HC.out.2.1
      have hcsl : cs.toList.length = n := by simpa using hcl
      rw [over_eq _ _ _ (by simp; omega)] at hl2
      refine ⟨⟨m + k, by omega, by omega, by rw [hw2], ⟨cur2, hc2, ?_, fun j hj => ?_⟩, ?_⟩, by rw [hw2]; simp [RowKit.intOf]; omega⟩
      · have := congrArg List.length hl2
        simp only [List.length_append, List.length_take, List.length_drop, List.length_replicate, Array.length_toList] at this
        omega
      · have h := congrArg (fun l => l[j]?) hl2
        simp only [Array.getElem?_toList] at h
        rw [h]
        by_cases hjm : j < m
        · rw [List.append_assoc, List.getElem?_append_left (by simp; omega), List.getElem?_take, if_pos hjm]
          simpa using HC.out.2.2 j hjm
        · rw [List.getElem?_append_left (by simp; omega), List.getElem?_append_right (by simp; omega), List.getElem?_replicate, if_pos (by simp; omega)]
      · exact (show Below w.heap.size w wr.drew from below_drewN hB 1).grown (grown_setCells _ _ _ _) hB.size (fun k e => by injection e with e; omega)
    · have hme : m = n := by omega
      subst hme
      go_wp2
      go_ret
      refine ⟨w.heap.size, rfl, ?_, Nat.le_refl _, hB⟩
      have : cs = Array.replicate m (.int .i64 z) := by
        apply Array.ext_getElem?
        intro j
        rw [Array.getElem?_replicate]
        split
        · exact hcv j (by assumption)
        · exact Array.getElem?_eq_none (by omega)
      rw [← this]; exact hcs
end Go.Proofs.Ytgjobbapnileiaa
