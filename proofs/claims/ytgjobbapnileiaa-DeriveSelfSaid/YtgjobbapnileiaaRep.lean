/- bits.Mul, slices.Repeat of one number: the walks. -/
import Derived.Test.YtgjobbapnileiaaInsM
import Derived.Shelf.Bits.Mul64
set_option linter.unusedVariables false
set_option linter.unusedSimpArgs false
namespace Go.Proofs.Ytgjobbapnileiaa
open Go.RowKit Gk Go.Shelf Go.Lib

set_option maxHeartbeats 2000000 in
theorem mul64_calls (x y : Nat) (hx : x < 18446744073709551616) (hy : y < 18446744073709551616) (w : World) :
    Calls Try.prog 62 #[.int .u64 x, .int .u64 y] w fun e w' => e = .returned (.tuple #[.int .u64 ((x * y / 18446744073709551616 : Nat) : Int), .int .u64 ((x * y % 18446744073709551616 : Nat) : Int)]) ∧ w' = w := by
  obtain ⟨bd, bt, bw, hhi⟩ := Lib.mul64_hi x y hx hy
  have ba := Lib.half_mul_le (a := x / 4294967296) (b := y / 4294967296) (by omega) (by omega)
  have bb := Lib.half_mul_le (a := x / 4294967296) (b := y % 4294967296) (by omega) (by omega)
  have bc := Lib.half_mul_le (a := x % 4294967296) (b := y / 4294967296) (by omega) (by omega)
  have ba' : x / 4294967296 * (y / 4294967296) < 18446744073709551616 := by omega
  have bb' : x / 4294967296 * (y % 4294967296) < 18446744073709551616 := by omega
  have bc' : x % 4294967296 * (y / 4294967296) < 18446744073709551616 := by omega
  have bh1 : x / 4294967296 * (y / 4294967296) + (x / 4294967296 * (y % 4294967296) + x % 4294967296 * (y % 4294967296) / 4294967296) / 4294967296 < 18446744073709551616 := by omega
  have bh : x / 4294967296 * (y / 4294967296) + (x / 4294967296 * (y % 4294967296) + x % 4294967296 * (y % 4294967296) / 4294967296) / 4294967296 + ((x / 4294967296 * (y % 4294967296) + x % 4294967296 * (y % 4294967296) / 4294967296) % 4294967296 + x % 4294967296 * (y / 4294967296)) / 4294967296 < 18446744073709551616 := by omega
  go_enter Try.func62, Try.ntmps62
  go_wp2
  simp only [Mul64.maskN x hx, Mul64.maskN y hy, Mul64.divN, Mul64.mulN, Mul64.addN, Mul64.wrapN _ bd, Mul64.wrapN _ bb', Mul64.wrapN _ bt, Mul64.maskN _ bt, Mul64.wrapN _ bc', Mul64.wrapN _ bw, Mul64.wrapN _ ba', Mul64.wrapN _ bh1, Mul64.wrapN _ bh, Mul64.wrapM (x * y)]
  rw [hhi]
  go_ret2
  exact ⟨rfl, rfl⟩
theorem mul_calls (x y : Nat) (hx : x < 18446744073709551616) (hy : y < 18446744073709551616) (w : World) :
    Calls Try.prog 49 #[.int .u64 x, .int .u64 y] w fun e w' => e = .returned (.tuple #[.int .u64 ((x * y / 18446744073709551616 : Nat) : Int), .int .u64 ((x * y % 18446744073709551616 : Nat) : Int)]) ∧ w' = w := by
  have c64 := mul64_calls x y hx hy w
  go_enter Try.func49, Try.ntmps49
  go_wp2_with (go_at_call 62; refine c64.mono ?_; rintro e w' ⟨rfl, hw⟩; rw [hw])
  go_ret2
  exact ⟨rfl, rfl⟩
theorem sizeInt : (Try.prog.info? 3).map (·.size) = some 1 := by kernel_rfl
theorem madeZero (n : Nat) : madeCells #[Value.int .i64 0] (n * 1) = Array.replicate n (.int .i64 0) := by
  apply Array.ext_getElem?
  intro j
  by_cases hj : j < n
  · simp [madeCells, hj, Nat.mod_one]
  · simp [madeCells, hj]
/-- the first m are v -/
def Fst (w : World) (O n m : Nat) (v : Value) : Prop := ∃ cs : Array Value, Box w O cs 3 ∧ cs.size = n ∧ ∀ j, j < m → cs[j]? = some v
set_option maxHeartbeats 4000000 in
set_option maxRecDepth 100000 in
theorem repeat_calls (N n : Nat) (z : Int) (w : World) (hN : Box w N #[.int .i64 z] 3) (hn0 : 0 < n) (hn : n ≤ 100000) :
    Calls Try.prog 29 #[.slice (some ⟨N, 0, none⟩) 1 1, .int .i64 n] w fun e w' => ∃ O, e = .returned (.slice (some ⟨O, 0, none⟩) n n) ∧ Box w' O (Array.replicate n (.int .i64 z)) 3 ∧ w.heap.size ≤ O ∧ Below w.heap.size w w' := by
  have hmul := mul_calls 1 n (by omega) (by omega) w
  rw [Nat.one_mul, show n / 18446744073709551616 = 0 by omega, show n % 18446744073709551616 = n by omega] at hmul
  have HN := Lib.hid hN
  have hNlt := hN.lt
  have hN' := hN
  have hw1 : IntKind.u64.wrap (n : Int) = n := by rw [IntKind.wrap_u64]; omega
  clear hN
  obtain ⟨i0, hi0, hz0, hzs, hzb⟩ := info_parts infoInt
  have hmk := run_makeSlice (P := Try.prog) w 34 3 i0 _ Try.underlying34 hi0 hz0 .i64 .i64 n n (by omega) (by omega) (by rw [hzs]; omega) (by rw [hzb]; omega) (by omega)
  have e0 : (madeCells (Value.int .i64 0).cells ((n : Int).toNat * i0.size)) = Array.replicate n (.int .i64 0) := by rw [hzs, Int.toNat_natCast]; exact madeZero n
  rw [e0, Int.toNat_natCast] at hmk
  have hO0 := Box.new w (Array.replicate n (Value.int .i64 0)) 3
  have hNa := hN'.alloc (.cells (Array.replicate n (Value.int .i64 0)) 3)
  have hba : Below w.heap.size w (w.alloc (.cells (Array.replicate n (Value.int .i64 0)) 3)) := (Below.refl _ _).alloc (Nat.le_refl _) _
  have hcp : ∀ ty, (Builtin.copy_ #[34, 34] ty #[.slice (some ⟨w.heap.size, 0, none⟩) n n, .slice (some ⟨N, 0, none⟩) 1 1]).run Try.prog (w.alloc (.cells (Array.replicate n (Value.int .i64 0)) 3)) = .ok (goInt [Value.int .i64 z].length) ((w.alloc (.cells (Array.replicate n (Value.int .i64 0)) 3)).setCells w.heap.size 0 [.int .i64 z]) := fun ty =>
    run_copy_cells _ _ _ ty 3 w.heap.size 0 n n ⟨N, 0, none⟩ 1 1 [.int .i64 z] Try.underlying34 sizeInt (by show 1 = Nat.min 1 n; simp only [Nat.min_def]; split <;> omega)
      (fun j v hj => by rw [Addr.add_lit]; simpa using hNa.cell j (by simpa using hj)) (fun j hj => by have e : j = 0 := Nat.lt_one_iff.1 hj; rw [e, hO0.cell 0 (v := .int .i64 0) (by rw [Array.getElem?_replicate, if_pos hn0])]; rfl) (fun j hj => hO0.frozen _) (fun v hv => by rw [List.mem_singleton.1 hv]; rfl)
  have hg0 := grown_setCells w.heap.size 0 [Value.int .i64 z] (w.alloc (.cells (Array.replicate n (Value.int .i64 0)) 3))
  obtain ⟨cur, hcur, hcurl⟩ := heap_setCells w.heap.size [Value.int .i64 z] 0 (w.alloc (.cells (Array.replicate n (Value.int .i64 0)) 3)) _ _ _ hO0
  have hF1 : Hid (Fst ((w.alloc (.cells (Array.replicate n (Value.int .i64 0)) 3)).setCells w.heap.size 0 [.int .i64 z]) w.heap.size n 1 (.int .i64 z)) := by
    rw [over_eq _ _ _ (by simp; omega)] at hcurl
    refine ⟨cur, hcur, ?_, fun j hj => ?_⟩
    · have := congrArg List.length hcurl; simp at this; omega
    · have : j = 0 := by omega
      subst this
      have := congrArg (fun l => l[0]?) hcurl; simpa using this
  have hb1 : Hid (Below w.heap.size w ((w.alloc (.cells (Array.replicate n (Value.int .i64 0)) 3)).setCells w.heap.size 0 [.int .i64 z])) := hba.grown hg0 (by simp) (fun k e => by injection e with e; omega)
  have mixed : Try.prog.follows .mixedOrders = true := by kernel_rfl
  clear hNa hba hg0 hcur hcurl hO0 hN' e0 hi0 hz0 hzs hzb
  go_enter Try.func29, Try.ntmps29
  go_wp2_with (first | (go_at_call 49; refine hmul.mono ?_; rintro e w' ⟨rfl, hw⟩; rw [hw]) | (at_builtin; refine Go.Proofs.wpList_copy_runI _ rfl _ _ 34 34 rfl _ _ rfl rfl (hcp _) ?_))
  generalize (w.alloc (.cells (Array.replicate n (Value.int .i64 0)) 3)).setCells w.heap.size 0 [.int .i64 z] = wc at *
  generalize Value.bool (decide ((n : Int) < 0)) = y1
  generalize Value.bool (decide (9223372036854775807 < (n : Int))) = y2
  clear hcp hmk hmul
  go_loopw [8] (fun i wr => ∃ m : Nat, 1 ≤ m ∧ m ≤ n ∧ i = .int .i64 m ∧ Hid (Fst wr w.heap.size n m (.int .i64 z)) ∧ Below w.heap.size w wr) (fun i _ => n - (RowKit.intOf i).toNat)
  case atStart => exact ⟨1, Nat.le_refl _, hn0, rfl, hF1, hb1⟩
  case round =>
    obtain ⟨m, hm1, hmn, rfl, hF, hB⟩ := hrel
    obtain ⟨cs, hcs, hcl, hcv⟩ := hF
    by_cases hlt : m < n
    · obtain ⟨k, hk⟩ : ∃ k, k = Nat.min m (n - m) := ⟨_, rfl⟩
      have hk1 : 1 ≤ k ∧ m + k ≤ n ∧ k ≤ m := by rw [hk]; simp only [Nat.min_def]; split <;> omega
      have hcp2 : ∀ ty, (Builtin.copy_ #[34, 34] ty #[.slice (some ⟨w.heap.size, m, none⟩) (n - m) (n - m), .slice (some ⟨w.heap.size, 0, none⟩) m n]).run Try.prog wr.drew = .ok (goInt (List.replicate k (Value.int .i64 z)).length) (wr.drew.setCells w.heap.size m (List.replicate k (.int .i64 z))) := fun ty =>
        run_copy_cells wr.drew _ _ ty 3 w.heap.size m (n - m) (n - m) ⟨w.heap.size, 0, none⟩ m n (List.replicate k (.int .i64 z)) Try.underlying34 sizeInt (by rw [List.length_replicate]; exact hk)
          (fun j v hj => by
            rw [List.getElem?_replicate] at hj
            split at hj
            · injection hj with hj; subst hj
              rw [Addr.add_lit]; simpa using hcs.cell j (hcv j (by omega))
            · cases hj)
          (fun j hj => by rw [List.length_replicate] at hj; rw [show wr.drew.cell? ⟨w.heap.size, m + j, none⟩ = some cs[m + j] from hcs.cell (m + j) (Array.getElem?_eq_getElem (by omega))]; rfl) (fun j hj => hcs.frozen _) (fun v hv => by rw [List.eq_of_mem_replicate hv]; rfl)
      have hHK := Lib.hid hk; clear hk
      have HC := Lib.hid (And.intro hcs (And.intro hcl hcv))
      clear hcs hcl hcv
      have hnm : ¬ n = m := by omega
      rw [List.length_replicate] at hcp2
      go_wp2
      go_region_law_o (refine Go.Proofs.step_copy_runI rfl _ _ 34 34 rfl _ _ (by simp [Act.eval, Act.put]) (by simp [Act.eval, Act.put]) (hcp2 _) ?_)
      simp [Act.put]
      go_wp2
      have hw2 : IntKind.i64.wrap ((m : Int) + (k : Int)) = ((m + k : Nat) : Int) := by rw [IntKind.wrap_i64]; omega
      obtain ⟨cur2, hc2, hl2⟩ := heap_setCells w.heap.size (List.replicate k (Value.int .i64 z)) m wr.drew cs _ _ HC.out.1
      have hcl := HC.out.2.1
      have hcsl : cs.toList.length = n := by simpa using hcl
      rw [over_eq _ _ _ (by simp; omega)] at hl2
      refine ⟨⟨m + k, by omega, by omega, by rw [hw2], ⟨cur2, hc2, ?_, fun j hj => ?_⟩, ?_⟩, by rw [hw2]; simp [RowKit.intOf]; omega⟩
      · have := congrArg List.length hl2
        simp only [List.length_append, List.length_take, List.length_drop, List.length_replicate, Array.length_toList] at this
        omega
      · have h := congrArg (fun l => l[j]?) hl2
        simp only [Array.getElem?_toList] at h
        rw [h]
        by_cases hjm : j < m
        · rw [List.append_assoc, List.getElem?_append_left (by simp; omega), List.getElem?_take, if_pos hjm]
          simpa using HC.out.2.2 j hjm
        · rw [List.getElem?_append_left (by simp; omega), List.getElem?_append_right (by simp; omega), List.getElem?_replicate, if_pos (by simp; omega)]
      · exact (show Below w.heap.size w wr.drew from below_drewN hB 1).grown (grown_setCells _ _ _ _) hB.size (fun k e => by injection e with e; omega)
    · have hme : m = n := by omega
      subst hme
      go_wp2
      go_ret
      refine ⟨w.heap.size, rfl, ?_, Nat.le_refl _, hB⟩
      have : cs = Array.replicate m (.int .i64 z) := by
        apply Array.ext_getElem?
        intro j
        rw [Array.getElem?_replicate]
        split
        · exact hcv j (by assumption)
        · exact Array.getElem?_eq_none (by omega)
      rw [← this]; exact hcs
end Go.Proofs.Ytgjobbapnileiaa
