/- maker.least: the walk. -/
import Derived.Test.YtgjobbapnileiaaSenM
import Derived.Test.YtgjobbapnileiaaCat
import Derived.Test.YtgjobbapnileiaaThr
set_option linter.unusedVariables false
set_option linter.unusedSimpArgs false
namespace Go.Proofs.Ytgjobbapnileiaa
open Go.RowKit Gk

/-- a number of a grammar: what not of it is -/
theorem notOf {k : Int} (h1 : Ty.i64 k) (h2 : k < 0) : ∃ r : Nat, -1 - k = r ∧ bits .xor .i64 (-1) k = r := by
  refine ⟨(-1 - k).toNat, by omega, ?_⟩
  rw [i64_notneg k h1.1 h2]; omega
set_option maxRecDepth 100000 in
set_option maxHeartbeats 2000000 in
theorem least_calls (X : Nat) (a b d sv rv u : Value) (long : Int) (short s : List Int) (w : World) (hX : Box w X #[a, b, d, .int .i64 long, sv, rv] 49) (hs : Sl Ty.int w sv short) (hu : Sl Ty.int w u s) (hnn : ∀ x ∈ short, 0 ≤ x) :
    Calls Try.prog 33 #[.pointer (some ⟨X, 0, none⟩), u] w fun e w' => e = .returned (.int .i64 (leastP short s)) ∧ Drawn w w' := by
  obtain ⟨AS, cS, rfl, s1, s2, s3, s4⟩ := hs
  obtain ⟨AU, cU, rfl, u1, u2, u3, u4⟩ := hu
  unfold LB at s3 u3
  have hc := hX.cell 4 (v := .slice AS short.length cS) rfl
  have HN := Lib.hid hnn; clear hnn
  clear hX
  go_enter Try.func33, Try.ntmps33
  go_wp2
  go_loopw [11, 5] (fun i o wr => (∃ n : Nat, ∃ q : Int, n ≤ s.length ∧ i = .int .i64 n ∧ o = .int .i64 q ∧ 0 ≤ q ∧ q ≤ 100 ∧ Hid (q = leastP short (s.take n))) ∧ Drawn w wr) (fun i _ _ => s.length - (intOf i).toNat)
  case atStart => exact ⟨⟨0, 0, Nat.zero_le _, rfl, rfl, by omega, by omega, by simp [leastP, Hid]⟩, Drawn.refl _⟩
  case round =>
    obtain ⟨⟨n, q, hn, rfl, rfl, hq0, hq1, hq⟩, hD⟩ := hrel
    have hcr := cell_far hc hD.below.block
    have s4r := s4.below hD.below
    have u4r := u4.below hD.below
    clear s4 u4 hc
    have HQ : Hid _ := hq
    clear hq
    by_cases hlt : n < s.length
    · obtain ⟨k, hk⟩ := at_lt s hlt
      obtain ⟨ad, rfl, hk64, hcell⟩ := u4r.int hk
      have hstep : Hid (leastP short (s.take (n + 1)) = min (leastP short (s.take n) + morP short k) 100) := by
        rw [take_next hk, leastP_snoc]; rfl
      clear hk
      by_cases hk0 : k < 0
      · obtain ⟨r, hr, hxor⟩ := notOf hk64 hk0
        have hx1 : decide (bits .xor .i64 (-1) k < (short.length : Int)) = decide (r < short.length) := by rw [hxor]; simp
        have hxor' : bits .xor .i64 (if IntKind.i64.signed = true then -1 else 9223372036854775807) k = r := hxor
        by_cases hrs : r < short.length
        · obtain ⟨x, hx⟩ := at_lt short hrs
          obtain ⟨ads, rfl, hx64, hcx⟩ := s4r.int hx
          have hx0 := HN.out x (List.mem_of_getElem? hx)
          have hmor : Hid (morP short k = min x 100) := by
            unfold morP; rw [if_pos hk0, show (-1 - k).toNat = r by omega, hx]; rfl
          clear hx
          have HR := Lib.hid hr; clear hr
          go_wp2
          have hm : morP short k = _ := hmor
          have hst : leastP short _ = _ := hstep
          refine ⟨⟨⟨n + 1, min (q + min x 100) 100, by omega, by simp, rfl, by omega, by omega, ?_⟩, hD⟩, by simp [intOf]; omega⟩
          show _ = _
          rw [hst, hm, ← (show q = _ from HQ)]
        · have hmor : Hid (morP short k = 1) := by
            unfold morP; rw [if_pos hk0, show (-1 - k).toNat = r by omega, List.getElem?_eq_none (by omega)]; rfl
          have HR := Lib.hid hr; clear hr
          go_wp2
          have hm : morP short k = _ := hmor
          have hst : leastP short _ = _ := hstep
          refine ⟨⟨⟨n + 1, min (q + 1) 100, by omega, by simp, rfl, by omega, by omega, ?_⟩, hD⟩, by simp [intOf]; omega⟩
          show _ = _
          rw [hst, hm, ← (show q = _ from HQ)]
      · have hmor : Hid (morP short k = 1) := by
          unfold morP; rw [if_neg hk0]; rfl
        go_wp2
        have hm : morP short k = _ := hmor
        have hst : leastP short _ = _ := hstep
        refine ⟨⟨⟨n + 1, min (q + 1) 100, by omega, by simp, rfl, by omega, by omega, ?_⟩, hD⟩, by simp [intOf]; omega⟩
        show _ = _
        rw [hst, hm, ← (show q = _ from HQ)]
    · have hne : n = s.length := by omega
      have HNE := Lib.hid hne; clear hne
      go_wp2
      go_ret
      have : q = _ := HQ
      exact ⟨ret_int (by rw [this, HNE.out, List.take_length]), hD⟩
end Go.Proofs.Ytgjobbapnileiaa
