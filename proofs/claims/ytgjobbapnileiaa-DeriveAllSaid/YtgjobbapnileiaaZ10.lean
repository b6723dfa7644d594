/- Cells that are set one by one, as lists; slices.Insert of one sentence into a bag: the walk, after the library's worked instances; slices.BinarySearchFunc over sentences in order: the walk; bag.add: the walk; slices.Grow, slices.Concat of two lists of numbers: the walks. -/
import Derived.Test.YtgjobbapnileiaaZ09
import Derived.Shelf.Spec.SlicesInsertGrow
import Derived.Lib.AppendZeros
set_option linter.unusedVariables false
set_option linter.unusedSimpArgs false
namespace Go.Proofs.Ytgjobbapnileiaa
open Go.RowKit Gk

def over (l : List Value) : Nat → List Value → List Value
  | _, [] => l
  | o, v :: r => over (l.set o v) (o + 1) r
  termination_by _ vs => vs.length
theorem over_eq : ∀ (vs : List Value) (l : List Value) (o : Nat), o + vs.length ≤ l.length → over l o vs = l.take o ++ vs ++ l.drop (o + vs.length) := by
  intro vs
  induction vs with
  | nil => intro l o _; simp [over]
  | cons v r ih =>
    intro l o h
    simp only [List.length_cons] at h
    rw [over, ih (l.set o v) (o + 1) (by simp; omega)]
    have h1 : (l.set o v).take (o + 1) = l.take o ++ [v] := by
      rw [List.take_add_one, List.take_set_of_le (Nat.le_refl _)]
      rw [List.getElem?_set_self (by omega)]; rfl
    have h2 : (l.set o v).drop (o + 1 + r.length) = l.drop (o + (v :: r).length) := by
      rw [List.drop_set_of_lt (by omega)]; simp only [List.length_cons]; congr 1; omega
    rw [h1, h2]; simp
theorem heap_setCells (b : Nat) : ∀ (vs : List Value) (o : Nat) (w : World) (cur : Array Value) (e : TypeId) (fr : Nat × Nat), w.heap[b]? = some (Obj.cells cur e fr) → ∃ cur', (w.setCells b o vs).heap[b]? = some (Obj.cells cur' e fr) ∧ cur'.toList = over cur.toList o vs := by
  intro vs
  induction vs with
  | nil => intro o w cur e fr h; exact ⟨cur, h, by rw [over]⟩
  | cons v r ih =>
    intro o w cur e fr h
    rw [World.setCells]
    have h1 : (w.setCell ⟨b, o, none⟩ v).heap[b]? = some (Obj.cells (cur.setIfInBounds o v) e fr) := by
      simp only [World.setCell, Array.getElem?_modify, h]; simp
    obtain ⟨cur', h2, h3⟩ := ih (o + 1) _ _ _ _ h1
    exact ⟨cur', h2, by rw [h3, over]; simp⟩
theorem heap_setCells_other (b : Nat) : ∀ (vs : List Value) (o : Nat) (w : World) (c : Nat), c ≠ b → (w.setCells b o vs).heap[c]? = w.heap[c]? := by
  intro vs
  induction vs with
  | nil => intro o w c _; rfl
  | cons v r ih => intro o w c h; rw [World.setCells, ih (o + 1) _ c h]; exact Below.heap_setCell w ⟨b, o, none⟩ v c h
theorem size_setCells (b : Nat) : ∀ (vs : List Value) (o : Nat) (w : World), (w.setCells b o vs).heap.size = w.heap.size ∧ (w.setCells b o vs).os = w.os ∧ (w.setCells b o vs).tape = w.tape ∧ (w.setCells b o vs).output = w.output := by
  intro vs
  induction vs with
  | nil => intro o w; exact ⟨rfl, rfl, rfl, rfl⟩
  | cons v r ih =>
    intro o w; rw [World.setCells]
    obtain ⟨h1, h2, h3, h4⟩ := ih (o + 1) (w.setCell ⟨b, o, none⟩ v)
    exact ⟨by rw [h1]; simp [World.setCell], by rw [h2]; rfl, by rw [h3]; rfl, by rw [h4]; rfl⟩
theorem grown_setCells (b o : Nat) (vs : List Value) (w : World) : w.grownBy (w.setCells b o vs) (some b) := by
  obtain ⟨h1, h2, h3, h4⟩ := size_setCells b vs o w
  exact ⟨h2, h3, h4, by omega, fun k _ hk => heap_setCells_other b vs o w k (fun e => hk (by rw [e]))⟩
/-- a list with one more -/
def insAt {α : Type} (l : List α) (i : Nat) (x : α) : List α := l.take i ++ x :: l.drop i
theorem insAt_length {α : Type} {l : List α} {i : Nat} {x : α} (h : i ≤ l.length) : (insAt l i x).length = l.length + 1 := by
  unfold insAt; simp; omega
theorem insAt_get {α β : Type} {l : List α} {m : List β} {R : α → β → Prop} (hl : l.length = m.length) (h : ∀ (j : Nat) a, l[j]? = some a → ∃ b, m[j]? = some b ∧ R a b) {i : Nat} (hi : i ≤ l.length) {x : α} {y : β} (hx : R x y) :
    ∀ (j : Nat) a, (insAt l i x)[j]? = some a → ∃ b, (insAt m i y)[j]? = some b ∧ R a b := by
  intro j a ha
  unfold insAt at ha ⊢
  have ht : (l.take i).length = i := by simp; omega
  have ht' : (m.take i).length = i := by simp; omega
  rcases Nat.lt_trichotomy j i with h1 | h1 | h1
  · rw [List.getElem?_append_left (by omega), List.getElem?_take, if_pos h1] at ha
    obtain ⟨b, hb, hr⟩ := h j a ha
    exact ⟨b, by rw [List.getElem?_append_left (by omega), List.getElem?_take, if_pos h1]; exact hb, hr⟩
  · subst h1
    rw [List.getElem?_append_right (by omega), ht, Nat.sub_self] at ha
    injection ha with ha
    exact ⟨y, by rw [List.getElem?_append_right (by omega), ht', Nat.sub_self]; rfl, ha ▸ hx⟩
  · rw [List.getElem?_append_right (by omega), ht, show j - i = (j - i - 1) + 1 by omega, List.getElem?_cons_succ, List.getElem?_drop] at ha
    obtain ⟨b, hb, hr⟩ := h _ a ha
    exact ⟨b, by rw [List.getElem?_append_right (by omega), ht', show j - i = (j - i - 1) + 1 by omega, List.getElem?_cons_succ, List.getElem?_drop]; exact hb, hr⟩
theorem insAt_end {α : Type} (l : List α) (x : α) : insAt l l.length x = l ++ [x] := by simp [insAt]
end Go.Proofs.Ytgjobbapnileiaa
set_option linter.unusedVariables false
set_option linter.unusedSimpArgs false
namespace Go.Proofs.Ytgjobbapnileiaa
open Go.RowKit Gk Go.Shelf Go.Lib

theorem sizeInts : (Try.prog.info? 34).map (·.size) = some 1 := by kernel_rfl
theorem sizeOfInts (w : World) : (Go.sizeOf 34).run Try.prog w = .ok 1 w := by kernel_rfl
set_option maxHeartbeats 4000000 in
set_option maxRecDepth 100000 in
theorem ins_shift (b n c i N : Nat) (cur : Array Value) (cs : List Value) (u : Value) (w : World) (hg : w.heap[b]? = some (Obj.cells cur 34 (0, 0))) (hN : Box w N #[u] 34) (hNb : N ≠ b) (hi : i < n) (hroom : n + 1 ≤ c) (hcs : cur.size = c) (hc63 : c ≤ 9223372036854775807)
    (hcl : cs.length = n) (hcv : cur.toList.take n = cs) (h1c : ∀ v ∈ cs, v.oneCell' = true) (h1u : u.oneCell' = true) :
    Calls Try.prog 37 #[.slice (some ⟨b, 0, none⟩) n c, .int .i64 i, .slice (some ⟨N, 0, none⟩) 1 1] w fun e w' =>
      e = .returned (.slice (some ⟨b, 0, none⟩) (n + 1) c) ∧ w' = (w.drew.setCells b (i + 1) (cs.drop i)).setCells b i [u] := by
  have hget : ∀ j v, cur.toList[j]? = some v → w.cell? ⟨b, j, none⟩ = some v := fun j v hj => by rw [cell_of_row w b j cur _ (0, 0) hg]; simpa using hj
  have hcc : ∀ j v, cs[j]? = some v → w.cell? ⟨b, j, none⟩ = some v := fun j v hj => hget j v (by rw [← hcv, List.getElem?_take] at hj; split at hj <;> simp_all)
  have hsp : ∀ j, j < n + 1 → (w.cell? ⟨b, j, none⟩).isSome = true := fun j hj => by
    rw [cell_of_row w b j cur _ (0, 0) hg, Array.getElem?_eq_getElem (by omega)]; rfl
  have hfz : ∀ j, w.frozen? ⟨b, j, none⟩ = false := fun j => frozen_of_row w b j cur _ hg
  have hvs : ∀ j v, [u][j]? = some v → w.cell? ⟨N, j, none⟩ = some v := fun j v hj => hN.cell j (by simpa using hj)
  have hsa : w.shape? N = some (34, 1) := by unfold Box at hN; simp [World.shape?, hN]
  have hsb : w.shape? b = some (34, c) := by simp [World.shape?, hg, hcs]
  have hfa : w.frozen? ⟨N, 0, none⟩ = false := hN.frozen 0
  have hfe : w.frozen? ⟨N, 1, none⟩ = false := hN.frozen 1
  have h1v : ∀ v ∈ [u], v.oneCell' = true := fun v hv => by simp at hv; subst hv; exact h1u
  have hz2 : ¬ ((i : Int) = (n : Int)) := by omega
  have hov : ∀ lb cb, (callFunc 54 #[.slice (some ⟨N, 0, none⟩) 1 1, .slice (some ⟨b, i + 1, none⟩) lb cb]).run Try.prog w = .ok (.value (.bool false)) w := fun lb cb => by
    rw [run_callFunc_extern Try.func54 (by kernel_rfl) (by kernel_rfl) (by kernel_rfl) (e := Extern.SlicesOverlaps.overlaps #[28, 28] #[4]) (by kernel_rfl),
      Lib.run_overlaps_apart w 28 4 34 Try.underlying28 1 sizeOfInts ⟨N, 0, none⟩ ⟨b, i + 1, none⟩ 1 1 lb cb hNb _ _ _ _ hsa hsb (by omega) hfa hfe]
    rfl
  have mixed : Try.prog.follows .mixedOrders = true := by kernel_rfl
  have hdl : (cs.drop i).length = n - i := by rw [List.length_drop, hcl]
  have hin : i ≤ n := by omega
  have hb2 : ¬ (c = i + 1) := by omega
  have hb3 : (i : Int) ≤ (n : Int) + 1 := by omega
  have hb4 : ¬ (c = i) := by omega
  have hw1 : IntKind.i64.wrap ((i : Int) + 1) = (i : Int) + 1 := by rw [IntKind.wrap_i64]; omega
  have hb1 : (0 : Int) ≤ (i : Int) + 1 := by omega
  have htn : ((i : Int) + 1).toNat = i + 1 := by omega
  have hcp1 : ∀ t ty dc sc, Try.prog.underlying t = some (.slice 34) → (Builtin.copy_ #[t, t] ty #[.slice (some ⟨b, i + 1, none⟩) (n - i) dc, .slice (some ⟨b, i, none⟩) (n + 1 - i) sc]).run Try.prog w.drew = .ok (goInt (cs.drop i).length) (w.drew.setCells b (i + 1) (cs.drop i)) := fun t ty dc sc ht =>
    run_copy_cells w.drew _ _ ty 34 b (i + 1) (n - i) dc ⟨b, i, none⟩ (n + 1 - i) sc (cs.drop i) ht sizeInts (by rw [hdl]; simp only [Nat.min_def]; split <;> omega)
      (fun j v hj => by rw [Addr.add_lit]; exact hcc (i + j) v (by rwa [List.getElem?_drop] at hj))
      (fun j hj => hsp _ (by omega)) (fun j hj => hfz _) (fun v hv => h1c v (List.mem_of_mem_drop hv))
  obtain ⟨W1, hW1⟩ : ∃ W1, W1 = w.drew.setCells b (i + 1) (cs.drop i) := ⟨_, rfl⟩
  have hsp1 : ∀ k, k < n + 1 → (W1.cell? ⟨b, k, none⟩).isSome = true := fun k hk => by
    rw [hW1]
    exact isSome_setCells b (cs.drop i) (i + 1) w.drew (fun j hj => hsp (i + 1 + j) (by omega)) k (hsp k hk)
  have hcp2 : ∀ (W : World), (∀ x, W.cell? x = W1.cell? x) → (∀ x, W.frozen? x = W1.frozen? x) → ∀ t t' ty dc, Try.prog.underlying t = some (.slice 34) → (Builtin.copy_ #[t, t'] ty #[.slice (some ⟨b, i, none⟩) (n + 1 - i) dc, .slice (some ⟨N, 0, none⟩) 1 1]).run Try.prog W = .ok (goInt [u].length) (W.setCells b i [u]) := fun W hWc hWf t t' ty dc ht =>
    run_copy_cells W _ _ ty 34 b i (n + 1 - i) dc ⟨N, 0, none⟩ 1 1 [u] ht sizeInts (by show 1 = Nat.min 1 (n + 1 - i); simp only [Nat.min_def]; split <;> omega)
      (fun j v hj => by
        rw [Addr.add_lit, hWc, hW1, World.cell?_setCells_out b _ _ _ _ (fun h _ => absurd h hNb)]
        simpa using hvs j v hj)
      (fun j hj => by rw [hWc]; exact hsp1 _ (by simp at hj; omega)) (fun j hj => by rw [hWf, hW1, World.frozen?_setCells]; exact hfz _) h1v
  rw [← hW1] at hcp1
  go_enter Try.func37, Try.ntmps37
  go_wp2_with (simp only [hov])
  go_region_law_o (refine step_copy_runI rfl _ _ 50 50 rfl _ _ (by simp [Act.eval, Act.put]) (by simp [Act.eval, Act.put]) (hcp1 _ _ _ _ Try.underlying50) ?_)
  go_wp2_with (at_builtin; refine wpList_copy_runI _ rfl _ _ 50 28 rfl _ _ rfl rfl (hcp2 _ (fun _ => rfl) (fun _ => rfl) _ _ _ _ Try.underlying50) ?_)
  go_ret
  first | exact ⟨rfl, rfl⟩ | exact ⟨rfl, by rw [hW1]⟩

theorem app_types (ty : TypeId) (v u : Value) (w : World) : (Builtin.append_ #[50, 28] ty #[v, u]).run Try.prog w = (Builtin.append_ #[28, 28] ty #[v, u]).run Try.prog w := by
  unfold Builtin.append_
  simp only [List.getElem?_toArray, List.getElem?_cons_zero, List.getElem?_cons_succ, Sem.run_bind, run_underlying Try.underlying50, run_underlying Try.underlying28, Result.andThen_ok]
set_option maxHeartbeats 4000000 in
set_option maxRecDepth 100000 in
theorem ins_end (B N n : Nat) (v u : Value) (cs : List Value) (w : World) (hown : w.ownsRow B 34 1 v n cs) (hN : Box w N #[u] 34) (h1u : u.oneCell' = true) (hB : B ≤ w.heap.size) (hn : n ≤ 1000000) :
    Calls Try.prog 37 #[v, .int .i64 n, .slice (some ⟨N, 0, none⟩) 1 1] w fun e w' =>
      ∃ v', e = .returned v' ∧ w'.ownsRow B 34 1 v' (n + 1) (cs ++ [u]) ∧ w.grownBy w' v.ownBlock ∧ (v'.ownBlock = v.ownBlock ∨ v'.ownBlock = some w.heap.size) := by
  obtain ⟨i0, z, hi, hz0, hz1, hz2, hzs⟩ := elemInts.info
  have hnews : ∀ j x, [u][j]? = some x → w.cell? ((⟨N, 0, none⟩ : Addr).add j) = some x := fun j x hj => by rw [Addr.add_lit]; simpa using hN.cell j (by simpa using hj)
  have hrun := fun ty => run_append_own_at (P := Try.prog) w B 28 ty 34 i0 z 1 24 elemInts.ut hi hz0 hz1 hz2 hzs (by omega) v n cs hown ⟨N, 0, none⟩ 1 1 [u] rfl hnews (fun x hx => by simp at hx; subst hx; exact h1u) (by simp only [maxLen]; omega) (by omega) hB
  rcases hown.2 with ⟨rfl, rfl⟩ | ⟨g, cap, cur, rfl, r1, r2, r3, r4, r5, r6⟩
  · obtain ⟨v', w', h1, h2, h3, h4, h5⟩ := hrun 50
    rw [← app_types] at h1
    go_enter Try.func37, Try.ntmps37
    go_wp2_with (at_builtin; refine Lib.wpList_append_run _ rfl _ _ _ _ rfl _ _ rfl rfl _ _ h1 ?_)
    go_ret
    exact ⟨_, rfl, h2, h3, h5⟩
  · obtain ⟨v', w', h1, h2, h3, h4, h5⟩ := hrun 50
    rw [← app_types] at h1
    simp only [maxLen] at r4
    go_enter Try.func37, Try.ntmps37
    go_wp2_with (at_builtin; refine Lib.wpList_append_run _ rfl _ _ _ _ rfl _ _ rfl rfl _ _ h1 ?_)
    all_goals (go_ret; exact ⟨_, rfl, h2, h3, h5⟩)
set_option maxHeartbeats 4000000 in
set_option maxRecDepth 100000 in
theorem ins_grow (b n c i N : Nat) (cs : List Value) (u : Value) (w : World) (hbw : b < w.heap.size) (hNw : N < w.heap.size) (hi : i < n) (hnc : n ≤ c) (hroom : c < n + 1) (hbig : n ≤ 1000000) (hcl : cs.length = n)
    (hcc : ∀ j v, cs[j]? = some v → w.cell? ⟨b, j, none⟩ = some v) (hN : Box w N #[u] 34) (h1c : ∀ v ∈ cs, v.oneCell' = true) (h1u : u.oneCell' = true) :
    Calls Try.prog 37 #[.slice (some ⟨b, 0, none⟩) n c, .int .i64 i, .slice (some ⟨N, 0, none⟩) 1 1] w fun e w' =>
      e = .returned (.slice (some ⟨w.heap.size, 0, none⟩) (n + 1) (grownCap w (n + 1) c 34)) ∧
      w' = (((w.alloc (.cells ((cs.take i).toArray ++ Builtin.zeroCells (Value.slice none 0 0).cells (n + 1 - i) ++ Builtin.zeroCells (Value.slice none 0 0).cells (grownCap w (n + 1) c 34 - (n + 1))) 34)).drew.setCells w.heap.size i [u]).drew).setCells w.heap.size (i + 1) (cs.drop i) := by
  obtain ⟨i0, hi0, hz0, hzs, hzb⟩ := info_parts infoInts
  have mixed : Try.prog.follows .mixedOrders = true := by kernel_rfl
  have hz2 : ¬ ((i : Int) = (n : Int)) := by omega
  have hz3 : (c : Int) < (n : Int) + 1 := by omega
  have hvs : ∀ j v, [u][j]? = some v → w.cell? ⟨N, j, none⟩ = some v := fun j v hj => hN.cell j (by simpa using hj)
  have h1v : ∀ v ∈ [u], v.oneCell' = true := fun v hv => by simp at hv; subst hv; exact h1u
  have hkk : (n : Int) + 1 - (i : Int) = ((n + 1 - i : Nat) : Int) := by omega
  have hik : i + (n + 1 - i) = n + 1 := by omega
  have hold : (Builtin.firstCells i0.size i (.slice (some ⟨b, 0, none⟩) i c)).run Try.prog w.drew = .ok (cs.take i).toArray w.drew := by
    rw [hzs]
    exact run_firstCells_some w.drew 1 i ⟨b, 0, none⟩ i c (cs.take i) (by rw [List.length_take]; omega) (fun j v hj => by
      rw [Addr.add_lit]
      rw [List.getElem?_take] at hj
      split at hj
      · simpa using hcc j v hj
      · cases hj)
  have hrz : ∀ ty, (Builtin.append_ #[50, 3] ty #[.slice (some ⟨b, 0, none⟩) i c, .int .i64 ((n : Int) + 1 - (i : Int))]).run Try.prog w =
      .ok (.slice (some ⟨w.heap.size, 0, none⟩) (n + 1) (grownCap w (n + 1) c 34)) (w.drew.alloc (.cells ((cs.take i).toArray ++ Builtin.zeroCells (Value.slice none 0 0).cells (n + 1 - i) ++ Builtin.zeroCells (Value.slice none 0 0).cells (grownCap w (n + 1) c 34 - (n + 1))) 34)) := fun ty => by
    have h := Lib.run_append_grow_zeros w 50 3 ty 34 i0 _ .i64 .i64 Try.underlying50 Try.underlying3 hi0 hz0 (some ⟨b, 0, none⟩) i c (cs.take i) hold (n + 1 - i) (by omega) (by omega) (by omega) (by omega) (by rw [hzb]; omega) (by rw [hzb, hik]; exact growslice_fits hroom (by omega))
    rw [hik] at h
    rw [hkk]
    exact h
  obtain ⟨G, hG⟩ : ∃ G, G = grownCap w (n + 1) c 34 := ⟨_, rfl⟩
  obtain ⟨ROW, hROW⟩ : ∃ ROW : Array Value, ROW = (cs.take i).toArray ++ Builtin.zeroCells (Value.slice none 0 0).cells (n + 1 - i) ++ Builtin.zeroCells (Value.slice none 0 0).cells (G - (n + 1)) := ⟨_, rfl⟩
  rw [← hG] at hrz ⊢
  rw [← hROW] at hrz ⊢
  have hRl : n + 1 ≤ ROW.size := by
    rw [hROW]
    simp [Builtin.zeroCells, Value.cells]
    omega
  obtain ⟨W1, hW1⟩ : ∃ W1, W1 = w.drew.alloc (.cells ROW 34) := ⟨_, rfl⟩
  rw [← hW1] at hrz
  have hNs : ∀ j, j < n + 1 → (W1.cell? ⟨w.heap.size, j, none⟩).isSome = true := fun j hj => by
    rw [hW1, World.cell?_alloc_at (w := w.drew) ROW _ w.heap.size j rfl, Array.getElem?_eq_getElem (by omega)]; rfl
  have hNf : ∀ j, W1.frozen? ⟨w.heap.size, j, none⟩ = false := fun j => by rw [hW1]; exact World.frozen?_alloc_at (w := w.drew) ROW _ w.heap.size j rfl
  have hOb : ∀ j v, w.cell? ⟨b, j, none⟩ = some v → W1.cell? ⟨b, j, none⟩ = some v := fun j v h => by rw [hW1, World.cell?_alloc_past (w := w.drew) _ b j hbw]; exact h
  have hOv : ∀ j v, w.cell? ⟨N, j, none⟩ = some v → W1.cell? ⟨N, j, none⟩ = some v := fun j v h => by rw [hW1, World.cell?_alloc_past (w := w.drew) _ N j hNw]; exact h
  have hcpA : ∀ (W : World), (∀ x, W.cell? x = W1.cell? x) → (∀ x, W.frozen? x = W1.frozen? x) → ∀ ty dc, (Builtin.copy_ #[50, 28] ty #[.slice (some ⟨w.heap.size, i, none⟩) (n + 1 - i) dc, .slice (some ⟨N, 0, none⟩) 1 1]).run Try.prog W = .ok (goInt [u].length) (W.setCells w.heap.size i [u]) := fun W hWc hWf ty dc =>
    run_copy_cells W _ _ ty 34 w.heap.size i (n + 1 - i) dc ⟨N, 0, none⟩ 1 1 [u] Try.underlying50 sizeInts (by show 1 = Nat.min 1 (n + 1 - i); simp only [Nat.min_def]; split <;> omega)
      (fun j v hj => by rw [Addr.add_lit, hWc]; exact hOv _ v (by simpa using hvs j v hj))
      (fun j hj => by rw [hWc]; exact hNs _ (by simp at hj; omega)) (fun j hj => by rw [hWf]; exact hNf _) h1v
  have hGn : n + 1 ≤ G := by rw [hG]; exact grownCap_ge w _ _ _
  have hG63 : G ≤ 9223372036854775807 := by
    have := grownCap_le_maxLen w (n + 1) c 34 (by unfold maxLen; omega)
    rw [← hG] at this
    unfold maxLen at this
    omega
  have hGi : ¬ (G = i) := by omega
  have hGim : ¬ (G = i + 1) := by omega
  have hci : ¬ (c = i) := by omega
  have hbN : b ≠ w.heap.size := by omega
  have hdl : (cs.drop i).length = n - i := by rw [List.length_drop, hcl]
  have hcpB : ∀ (W : World), (∀ x, W.cell? x = (W1.setCells w.heap.size i [u]).cell? x) → (∀ x, W.frozen? x = (W1.setCells w.heap.size i [u]).frozen? x) → ∀ ty dc sc, (Builtin.copy_ #[50, 50] ty #[.slice (some ⟨w.heap.size, i + 1, none⟩) (n - i) dc, .slice (some ⟨b, i, none⟩) (n - i) sc]).run Try.prog W = .ok (goInt (cs.drop i).length) (W.setCells w.heap.size (i + 1) (cs.drop i)) := fun W hWc hWf ty dc sc =>
    run_copy_cells W _ _ ty 34 w.heap.size (i + 1) (n - i) dc ⟨b, i, none⟩ (n - i) sc (cs.drop i) Try.underlying50 sizeInts (by rw [hdl]; simp only [Nat.min_def]; split <;> omega)
      (fun j v hj => by
        rw [Addr.add_lit, hWc, World.cell?_setCells_out _ _ _ _ _ (fun h _ => absurd h hbN)]
        exact hOb _ v (hcc (i + j) v (by rwa [List.getElem?_drop] at hj)))
      (fun j hj => by rw [hWc]; exact isSome_setCells _ _ _ _ (fun t ht => hNs _ (by simp at ht; omega)) _ (hNs _ (by omega)))
      (fun j hj => by rw [hWf, World.frozen?_setCells]; exact hNf _) (fun v hv => h1c v (List.mem_of_mem_drop hv))
  subst hW1
  have hE1 : ∀ x, ((w.alloc (.cells ROW 34)).drew).cell? x = (w.drew.alloc (.cells ROW 34)).cell? x := fun x => rfl
  have hE2 : ∀ x, ((w.alloc (.cells ROW 34)).drew).frozen? x = (w.drew.alloc (.cells ROW 34)).frozen? x := fun x => rfl
  have hF1 : ∀ x, (((w.alloc (.cells ROW 34)).drew.setCells w.heap.size i [u]).drew).cell? x = ((w.drew.alloc (.cells ROW 34)).setCells w.heap.size i [u]).cell? x := fun x => rfl
  have hF2 : ∀ x, (((w.alloc (.cells ROW 34)).drew.setCells w.heap.size i [u]).drew).frozen? x = ((w.drew.alloc (.cells ROW 34)).setCells w.heap.size i [u]).frozen? x := fun x => rfl
  have hw1 : IntKind.i64.wrap ((i : Int) + 1) = (i : Int) + 1 := by rw [IntKind.wrap_i64]; omega
  have hb1 : (0 : Int) ≤ (i : Int) + 1 := by omega
  have hin : i ≤ n := by omega
  have htn : ((i : Int) + 1).toNat = i + 1 := by omega
  have hb3 : (i : Int) ≤ (n : Int) := by omega
  clear hkk hik hold hROW hG hRl
  go_enter Try.func37, Try.ntmps37
  go_wp2_with (first
    | (at_builtin; refine Lib.wpList_append_run _ rfl _ _ _ _ rfl _ _ rfl rfl _ _ (hrz _) ?_)
    | (at_builtin; refine wpList_copy_runI _ rfl _ _ 50 28 rfl _ _ rfl rfl (hcpA _ hE1 hE2 _ _) ?_))
  go_region_law_o (refine step_copy_runI rfl _ _ 50 50 rfl (.slice (some ⟨w.heap.size, i + 1, none⟩) (n - i) (G - (i + 1))) (.slice (some ⟨b, i, none⟩) (n - i) (c - i)) (by simp [Act.eval, Act.put]) (by simp [Act.eval, Act.put]) (hcpB _ hF1 hF2 3 (G - (i + 1)) (c - i)) ?_)
  go_wp2
  go_ret
  exact ⟨rfl, rfl⟩
end Go.Proofs.Ytgjobbapnileiaa
set_option linter.unusedVariables false
set_option linter.unusedSimpArgs false
namespace Go.Proofs.Ytgjobbapnileiaa
open Go.RowKit Gk

set_option maxHeartbeats 2000000 in
theorem bsearch_calls (v u : Value) (l : List (List Int)) (x : List Int) (w : World) (h : Sl (Ty.slice Ty.int) w v l) (h' : Sl Ty.int w u x) (hs : Srt l) (hl : l.length ≤ 1000000) :
    Calls Try.prog 35 #[v, u, .func (.func 36) #[] #[]] w fun e w' => e = .returned (.tuple #[.int .i64 (posP l x : Nat), .bool (decide (x ∈ l))]) ∧ Below w.heap.size w w' := by
  have hS := h'
  obtain ⟨A, c, rfl, hc, hcm, hlb, hr⟩ := h
  obtain ⟨B, d, rfl, hd, hdm, hlb', _⟩ := h'
  unfold LB at hlb hlb'
  have HS := Lib.hid hS; clear hS
  have HSRT := Lib.hid hs; clear hs
  go_enter Try.func35, Try.ntmps35
  go_wp2
  go_loopw [9, 10] (fun i j wr => (∃ lo hi : Nat, lo ≤ hi ∧ hi ≤ l.length ∧ i = .int .i64 lo ∧ j = .int .i64 hi ∧ Hid ((∀ t y, t < lo → l[t]? = some y → lessP y x = true) ∧ ∀ t y, hi ≤ t → l[t]? = some y → lessP y x = false)) ∧ Below w.heap.size w wr) (fun i j _ => (intOf j).toNat - (intOf i).toNat)
  case atStart => exact ⟨⟨0, l.length, Nat.zero_le _, Nat.le_refl _, rfl, rfl, ⟨fun t y h => by omega, fun t y h1 h2 => by have := (List.getElem?_eq_some_iff.1 h2).1; omega⟩⟩, Below.refl _ _⟩
  case round =>
    obtain ⟨⟨lo, hi, hlh, hin, rfl, rfl, hI⟩, hB⟩ := hrel
    have I : Hid _ := hI
    have hxr : Hid (Sl Ty.int wr (.slice B x.length d) x) := HS.out.below hB
    have hrr := hr.below hB
    by_cases hlt : lo < hi
    · obtain ⟨y, hy⟩ := at_lt l (show (lo + hi) / 2 < l.length by omega)
      obtain ⟨ad, Y, cy, rfl, hcell, y1, y2, y3, y4⟩ := hrr.slice hy
      have hyr : Hid (Sl Ty.int wr (.slice Y y.length cy) y) := ⟨Y, cy, rfl, y1, y2, y3, y4⟩
      have HY := Lib.hid hy
      clear hy y4
      by_cases hyx : ordP y x < 0
      · go_wp2_with (go_at_call 36; refine (order_calls _ _ y x _ hyr hxr).mono ?_; rintro e w' ⟨rfl, hb'⟩)
        go_roundw
        case rel =>
          refine ⟨⟨(lo + hi) / 2 + 1, hi, by omega, hin, by rw [show ((lo : Int) + (hi : Int)) / 2 + 1 = (((lo + hi) / 2 + 1 : Nat) : Int) by omega], rfl, ⟨fun t z ht hz => ?_, I.out.2⟩⟩, below2 hB hb'⟩
          have hyl : lessP y x = true := by simpa [lessP] using hyx
          rcases Nat.lt_or_eq_of_le (Nat.le_of_lt_succ ht) with h1 | h1
          · exact lessP_trans (srt_at HSRT.out h1 hz HY.out) hyl
          · subst h1; rw [HY.out] at hz; injection hz with hz; exact hz ▸ hyl
        case measure => simp [intOf]; omega
      · go_wp2_with (go_at_call 36; refine (order_calls _ _ y x _ hyr hxr).mono ?_; rintro e w' ⟨rfl, hb'⟩)
        go_roundw
        case rel =>
          refine ⟨⟨lo, (lo + hi) / 2, by omega, by omega, rfl, by rw [show ((lo : Int) + (hi : Int)) / 2 = (((lo + hi) / 2 : Nat) : Int) by omega], ⟨I.out.1, fun t z ht hz => ?_⟩⟩, below2 hB hb'⟩
          have hyl : lessP y x = false := by simpa [lessP] using hyx
          rcases Nat.lt_or_eq_of_le ht with h1 | h1
          · have h2 := srt_at HSRT.out h1 HY.out hz
            cases h3 : lessP z x with
            | false => rfl
            | true => rw [lessP_trans h2 h3] at hyl; cases hyl
          · subst h1; rw [HY.out] at hz; injection hz with hz; exact hz ▸ hyl
        case measure => simp [intOf]; omega
    · obtain rfl : hi = lo := by omega
      have hpos : posP l x = hi := pos_eq HSRT.out hin I.out.1 I.out.2
      have HP := Lib.hid hpos; clear hpos
      by_cases hn : hi < l.length
      · obtain ⟨y, hy⟩ := at_lt l hn
        obtain ⟨ad, Y, cy, rfl, hcell, y1, y2, y3, y4⟩ := hrr.slice hy
        have hyr : Hid (Sl Ty.int wr (.slice Y y.length cy) y) := ⟨Y, cy, rfl, y1, y2, y3, y4⟩
        have HY := Lib.hid hy
        clear hy y4
        by_cases hyx : ordP y x = 0
        · go_wp2_with (go_at_call 36; refine (order_calls _ _ y x _ hyr hxr).mono ?_; rintro e w' ⟨rfl, hb'⟩)
          go_ret2
          have hm : x ∈ l := by rw [mem_at HSRT.out, HP.out, HY.out, ordP_zero.1 hyx]
          exact ⟨by simp [HP.out, hm, hyx], below2 hB hb'⟩
        · go_wp2_with (go_at_call 36; refine (order_calls _ _ y x _ hyr hxr).mono ?_; rintro e w' ⟨rfl, hb'⟩)
          go_ret2
          have hm : x ∉ l := by
            rw [mem_at HSRT.out, HP.out, HY.out]; intro e; injection e with e; exact hyx (ordP_zero.2 e)
          exact ⟨by simp [HP.out, hm, hyx], below2 hB hb'⟩
      · go_wp2
        go_ret2
        have hm : x ∉ l := by
          rw [mem_at HSRT.out, HP.out]; intro e; have := (List.getElem?_eq_some_iff.1 e).1; omega
        exact ⟨by simp [HP.out, hm, hn], hB⟩
end Go.Proofs.Ytgjobbapnileiaa
set_option linter.unusedVariables false
set_option linter.unusedSimpArgs false
namespace Go.Proofs.Ytgjobbapnileiaa
open Go.RowKit Gk

theorem IL.one {w : World} {u : Value} {x : List Int} (h : IL w u x) : u.oneCell' = true := by
  obtain ⟨A, c, rfl, _⟩ := h.sl
  rfl
theorem IL.some {w : World} {u : Value} {x : List Int} (h : IL w u x) : u = .slice none 0 0 ∨ ∃ ad n c, u = .slice (some ad) n c := by
  obtain ⟨css, ⟨g1, g2⟩, _⟩ := h
  rcases g2 with ⟨rfl, _⟩ | ⟨g, cap, cur, rfl, _⟩
  · exact .inl rfl
  · exact .inr ⟨_, _, _, rfl⟩
theorem grown_drew (w : World) (row : Option Nat) : w.grownBy w.drew row := ⟨rfl, rfl, rfl, Nat.le_refl _, fun _ _ _ => rfl⟩
set_option maxHeartbeats 1000000 in
theorem insert_calls (B N i : Nat) (v u : Value) (l : List (List Int)) (x : List Int) (w : World) (h : Bag B w v l) (hi : i ≤ l.length) (hN : Box w N #[u] 34) (hx : IL w u x) (hvN : v.ownBlock ≠ some N) (hl : l.length ≤ 1000000) (hB : B ≤ w.heap.size) :
    Calls Try.prog 37 #[v, .int .i64 i, .slice (some ⟨N, 0, none⟩) 1 1] w fun e w' =>
      ∃ v', e = .returned v' ∧ Bag B w' v' (insAt l i x) ∧ w.grownBy w' v.ownBlock ∧ (v'.ownBlock = v.ownBlock ∨ ∃ k, v'.ownBlock = some k ∧ w.heap.size ≤ k) ∧ KI w w' := by
  have hni := h.notInt
  obtain ⟨us, ho, hlb, hel⟩ := h
  have hul : l.length = us.length := by have := ho.1; omega
  have h1u := hx.one
  have h1c : ∀ v ∈ us, v.oneCell' = true := fun v hv => by
    obtain ⟨j, hj, rfl⟩ := List.mem_iff_getElem.1 hv
    obtain ⟨u', hu', hi'⟩ := hel j l[j] (List.getElem?_eq_getElem (by omega))
    rw [List.getElem?_eq_getElem hj] at hu'; injection hu' with hu'; rw [hu']; exact hi'.one
  have hel' := insAt_get (R := fun a b => IL w b a) hul hel hi (x := x) (y := u) hx
  have hli := insAt_length (x := x) hi
  have hLB : (insAt l i x).length ≤ LB := by rw [hli]; unfold LB; omega
  by_cases hin : i = l.length
  · subst hin
    refine (ins_end B N l.length v u us w ho hN h1u hB hl).mono ?_
    rintro e w' ⟨v', rfl, ho', hg, hat⟩
    have hki := KI.grown hg hni
    refine ⟨v', rfl, ⟨insAt us l.length u, ?_, hLB, fun j a ha => ?_⟩, hg, ?_, hki⟩
    · rw [hli, hul, insAt_end]; rw [hul] at ho'; exact ho'
    · obtain ⟨b, hb, hr⟩ := hel' j a ha; exact ⟨b, hb, hr.ki hki⟩
    · rcases hat with hat | hat
      · exact .inl hat
      · exact .inr ⟨_, hat, Nat.le_refl _⟩
  · rcases ho.2 with ⟨rfl, h0⟩ | ⟨g, cap, cur, rfl, r1, r2, r3, r4, r5, r6⟩
    · omega
    · have hcc : ∀ j v, us[j]? = some v → w.cell? ⟨g, j, none⟩ = some v := fun j v hj => by
        rw [ho.cellAt j (by have := (List.getElem?_eq_some_iff.1 hj).1; omega)]; exact hj
      have hdl : (us.drop i).length = l.length - i := by rw [List.length_drop]; omega
      by_cases hroom : l.length + 1 ≤ cap
      · have hNg : N ≠ g := fun e => hvN (by simp [Value.ownBlock, e])
        refine (ins_shift g l.length cap i N cur us u w r2 hN hNg (by omega) hroom (by omega) (by simp only [maxLen] at r4; omega) hul.symm (by simpa using r6) h1c h1u).mono ?_
        rintro e w' ⟨rfl, rfl⟩
        obtain ⟨cur1, hc1, hl1⟩ := heap_setCells g (us.drop i) (i + 1) w.drew cur _ _ r2
        obtain ⟨cur2, hc2, hl2⟩ := heap_setCells g [u] i _ cur1 _ _ hc1
        have hg1 : w.grownBy ((w.drew.setCells g (i + 1) (us.drop i)).setCells g i [u]) (some g) := ((grown_drew w _).trans (grown_setCells g _ _ _)).trans (grown_setCells g _ _ _)
        have hki := KI.grown hg1 hni
        have hcurl : cur.toList.length = cap := by simp; omega
        have e1 : cur1.toList = cur.toList.take (i + 1) ++ us.drop i ++ cur.toList.drop (i + 1 + (us.drop i).length) := by rw [hl1, over_eq _ _ _ (by omega)]
        have e2 : cur2.toList = cur1.toList.take i ++ [u] ++ cur1.toList.drop (i + 1) := by
          rw [hl2, over_eq _ _ _ (by rw [e1]; simp only [List.length_append, List.length_take, List.length_drop, List.length_cons, List.length_nil]; omega)]; rfl
        have e3 : cur2.toList.length = cap := by
          rw [e2, e1]; simp only [List.length_append, List.length_take, List.length_drop, List.length_cons, List.length_nil, hcurl]; omega
        have hti : (cur.toList.take (i + 1)).length = i + 1 := by rw [List.length_take]; omega
        have e4 : cur1.toList.drop (i + 1) = us.drop i ++ cur.toList.drop (i + 1 + (us.drop i).length) := by rw [e1, List.append_assoc, List.drop_left' hti]
        have e5 : cur1.toList.take i = us.take i := by
          rw [e1, List.append_assoc, List.take_append_of_le_length (by omega), List.take_take, Nat.min_eq_left (by omega), ← r6, List.take_take, Nat.min_eq_left (by omega)]
        have e6 : cur2.toList.take (l.length + 1) = insAt us i u := by
          rw [e2, e4, e5]
          have : us.take i ++ [u] ++ (us.drop i ++ cur.toList.drop (i + 1 + (us.drop i).length)) = insAt us i u ++ cur.toList.drop (i + 1 + (us.drop i).length) := by simp [insAt]
          rw [this]
          exact List.take_left' (by rw [insAt_length (by omega)]; omega)
        refine ⟨_, rfl, ⟨insAt us i u, ⟨by rw [insAt_length (by omega)]; omega, .inr ⟨g, cap, cur2, by rw [hli], r1, hc2, by omega, r4, by rw [← e3]; simp, by rw [hli, Nat.mul_one]; exact e6⟩⟩, hLB, fun j a ha => ?_⟩, hg1, .inl rfl, hki⟩
        obtain ⟨b, hb, hr⟩ := hel' j a ha; exact ⟨b, hb, hr.ki hki⟩
      · have hgw := (Array.getElem?_eq_some_iff.1 r2).1
        refine (ins_grow g l.length cap i N us u w hgw hN.lt (by omega) r3 (by omega) hl hul.symm hcc hN h1c h1u).mono ?_
        rintro e w' ⟨rfl, rfl⟩
        have hge := grownCap_ge w (l.length + 1) cap 34
        have hle := grownCap_le_maxLen w (l.length + 1) cap 34 (by simp only [maxLen]; omega)
        generalize grownCap w (l.length + 1) cap 34 = G at hge hle
        generalize hROW : (us.take i).toArray ++ Builtin.zeroCells (Value.slice none 0 0).cells (l.length + 1 - i) ++ Builtin.zeroCells (Value.slice none 0 0).cells (G - (l.length + 1)) = ROW
        have hRs : ROW.size = G := by
          rw [← hROW]; simp only [Array.size_append, List.size_toArray, size_zeroCells, List.length_take, Value.cells]; simp; omega
        have hRt : ROW.toList.take i = us.take i := by
          rw [← hROW]; simp only [Array.toList_append, List.append_assoc]
          exact List.take_left' (by simp; omega)
        have hw0 : (w.alloc (.cells ROW 34)).drew.heap[w.heap.size]? = some (Obj.cells ROW 34 (0, 0)) := heap_alloc_new w _
        obtain ⟨cur1, hc1, hl1⟩ := heap_setCells w.heap.size [u] i _ ROW _ _ hw0
        obtain ⟨cur2, hc2, hl2⟩ := heap_setCells w.heap.size (us.drop i) (i + 1) (((w.alloc (.cells ROW 34)).drew.setCells w.heap.size i [u]).drew) cur1 _ _ hc1
        have hRl : ROW.toList.length = G := by simpa using hRs
        have e1 : cur1.toList = ROW.toList.take i ++ [u] ++ ROW.toList.drop (i + 1) := by rw [hl1, over_eq _ _ _ (by simp; omega)]; rfl
        have e10 : cur1.toList.length = G := by rw [e1]; simp only [List.length_append, List.length_take, List.length_drop, List.length_cons, List.length_nil, hRl]; omega
        have e2 : cur2.toList = cur1.toList.take (i + 1) ++ us.drop i ++ cur1.toList.drop (i + 1 + (us.drop i).length) := by rw [hl2, over_eq _ _ _ (by omega)]
        have e20 : cur2.toList.length = G := by rw [e2]; simp only [List.length_append, List.length_take, List.length_drop, e10]; omega
        have e3 : cur1.toList.take (i + 1) = us.take i ++ [u] := by
          rw [e1, hRt]; exact List.take_left' (by simp; omega)
        have e6 : cur2.toList.take (l.length + 1) = insAt us i u := by
          rw [e2, e3]
          have : us.take i ++ [u] ++ us.drop i = insAt us i u := by simp [insAt]
          rw [this]
          exact List.take_left' (by rw [insAt_length (by omega)]; omega)
        have hgr : w.grownBy (((w.alloc (.cells ROW 34)).drew.setCells w.heap.size i [u]).drew.setCells w.heap.size (i + 1) (us.drop i)) (Value.ownBlock (.slice (some ⟨g, 0, none⟩) l.length cap)) := by
          obtain ⟨s1, s2, s3, s4⟩ := size_setCells w.heap.size [u] i (w.alloc (.cells ROW 34)).drew
          obtain ⟨t1, t2, t3, t4⟩ := size_setCells w.heap.size (us.drop i) (i + 1) ((w.alloc (.cells ROW 34)).drew.setCells w.heap.size i [u]).drew
          refine ⟨by rw [t2]; exact s2, by rw [t3]; exact s3, by rw [t4]; exact s4, ?_, fun k hk _ => ?_⟩
          · rw [t1]; show _ ≤ (World.setCells _ _ _ _).heap.size; rw [s1]; simp [World.drew]
          · rw [heap_setCells_other _ _ _ _ k (by omega)]
            show (World.setCells _ _ _ _).heap[k]? = _
            rw [heap_setCells_other _ _ _ _ k (by omega)]
            exact heap_alloc_old w _ hk
        have hki := KI.grown hgr hni
        refine ⟨_, rfl, ⟨insAt us i u, ⟨by rw [insAt_length (by omega)]; omega, .inr ⟨w.heap.size, G, cur2, by rw [hli], hB, hc2, by omega, hle, by rw [← e20]; simp, by rw [hli, Nat.mul_one]; exact e6⟩⟩, hLB, fun j a ha => ?_⟩, hgr, .inr ⟨_, rfl, Nat.le_refl _⟩, hki⟩
        obtain ⟨b, hb, hr⟩ := hel' j a ha; exact ⟨b, hb, hr.ki hki⟩
/-- what add does to the heap -/
structure AddEff (w w' : World) (pb : Nat) (own : Option Nat) : Prop where
  os : w'.os = w.os
  tape : w'.tape = w.tape
  output : w'.output = w.output
  ki : KI w w'
  block : ∀ c, c < w.heap.size → c ≠ pb → some c ≠ own → w'.heap[c]? = w.heap[c]?
def addEnd (B : Nat) (l : List (List Int)) (x : List Int) (pb pi : Nat) (pcs : Array Value) (t : TypeId) (v : Value) (w : World) (e : Ending) (w' : World) : Prop :=
  ∃ v', e = .returned (.bool (decide (x ∉ l))) ∧ Box w' pb (pcs.setIfInBounds pi v') t ∧ Bag B w' v' (insS l x) ∧ AddEff w w' pb v.ownBlock ∧ (v'.ownBlock = v.ownBlock ∨ ∃ k, v'.ownBlock = some k ∧ w.heap.size ≤ k)
theorem set_same {α : Type} {a : Array α} {i : Nat} {v : α} (h : a[i]? = some v) : a.setIfInBounds i v = a := by
  apply Array.ext_getElem?
  intro j
  rw [Array.getElem?_setIfInBounds]
  split
  · rename_i e; subst e; rw [if_pos (Array.getElem?_eq_some_iff.1 h).1, h]
  · rfl
set_option maxHeartbeats 1000000 in
theorem add_calls (B pb pi : Nat) (pcs : Array Value) (t : TypeId) (v u : Value) (l : List (List Int)) (x : List Int) (w : World) (hp : Box w pb pcs t) (ht : t ≠ 3) (hv : pcs[pi]? = some v) (h : Bag B w v l) (hx : IL w u x) (hs : Srt l) (hvp : v.ownBlock ≠ some pb) (hl : l.length ≤ 1000000) (hB : B ≤ w.heap.size) :
    Calls Try.prog 20 #[.pointer (some ⟨pb, pi, none⟩), u] w (addEnd B l x pb pi pcs t v w) := by
  have hsl := h.sl
  have hxs := hx.sl
  have hcell := hp.cell pi hv
  have hfr := hp.frozen pi
  obtain ⟨A, c, rfl, hc, hcm, hlb, _⟩ := id hsl
  obtain ⟨A2, c2, rfl, hc2, hcm2, hlb2, _⟩ := id hxs
  unfold LB at hlb hlb2
  have HH := Lib.hid (And.intro hp (And.intro h (And.intro hx (And.intro hs (And.intro hsl hxs)))))
  clear hp h hx hs hsl hxs
  have hlt := HH.out.1.lt
  go_enter Try.func20, Try.ntmps20
  by_cases hm : x ∈ l
  · go_wp2_with (go_at_call 35; refine (bsearch_calls _ _ l x _ HH.out.2.2.2.2.1 HH.out.2.2.2.2.2 HH.out.2.2.2.1 hl).mono ?_; rw [decide_eq_true hm]; rintro e w1 ⟨rfl, hb⟩)
    go_ret
    refine ⟨_, by rw [decide_eq_false (fun h => h hm)]; rfl, by rw [set_same hv]; exact HH.out.1.below hb, by rw [insS_old hm]; exact HH.out.2.1.below hb, ⟨hb.os, hb.tape, hb.output, KI.below hb, fun c hc _ _ => hb.block c hc⟩, .inl rfl⟩
  · go_wp2_with (first | (go_at_call 35; refine (bsearch_calls _ _ l x _ HH.out.2.2.2.2.1 HH.out.2.2.2.2.2 HH.out.2.2.2.1 hl).mono ?_; rw [decide_eq_false hm]; rintro e w1 ⟨rfl, hb⟩; have hp1 := Lib.hid (HH.out.1.below hb); have hcell1 := hp1.out.cell pi hv; have hbs := hb.size; have hba := (Below.refl w1.heap.size w1).alloc (Nat.le_refl _) (.cells #[.slice A2 x.length c2] 34)) | (go_at_call 37; refine (insert_calls B w1.heap.size (posP l x) _ _ l x _ ((HH.out.2.1.below hb).below hba) (posP_le l x) (Box.new w1 _ _) ((HH.out.2.2.1.ki (KI.below hb)).ki (KI.below hba)) (fun e => by have := (HH.out.2.1.lt _ e).2; omega) hl (by have := hba.size; omega)).mono ?_; rintro e w3 ⟨v', rfl, hB3, hg3, hat3, hki3⟩; obtain ⟨A3, c3, rfl, _, _, _, _⟩ := id hB3.sl; have hp3 := Lib.hid ((hp1.out.below hba).grown hg3 (fun e => hvp e.symm)); have hcell3 := hp3.out.cell pi hv; have hfr3 := hp3.out.frozen pi))
    go_ret
    have hki : KI w w3 := (KI.below hb).trans ((KI.below hba).trans hki3)
    have hs3 := hg3.size
    have hsa := hba.size
    generalize hv' : Value.slice A3 (insAt l (posP l x) x).length c3 = v' at hat3 hB3 ⊢
    refine ⟨v', by rw [decide_eq_true hm]; rfl, hp3.out.set pi v', ?_, ⟨hg3.os.trans (hba.os.trans hb.os), hg3.tape.trans (hba.tape.trans hb.tape), hg3.output.trans (hba.output.trans hb.output), hki.trans (KI.set hp3.out ht pi v'), fun c hc h1 h2 => ?_⟩, ?_⟩
    · rw [insS_new hm]
      refine hB3.keep (KI.set hp3.out ht pi v') fun g hg => Below.heap_setCell w3 ⟨pb, pi, none⟩ v' g ?_
      rintro rfl
      rcases hat3 with h1 | ⟨k, h1, h2⟩
      · exact hvp (h1.symm.trans hg)
      · rw [hg] at h1; injection h1 with h1; omega
    · rw [Below.heap_setCell w3 ⟨pb, pi, none⟩ v' c h1, hg3.block c (by omega) h2, hba.block c (by omega), hb.block c hc]
    · rcases hat3 with h1 | ⟨k, h1, h2⟩
      · exact .inl h1
      · exact .inr ⟨k, h1, by omega⟩
end Go.Proofs.Ytgjobbapnileiaa
set_option linter.unusedVariables false
set_option linter.unusedSimpArgs false
namespace Go.Proofs.Ytgjobbapnileiaa
open Go.RowKit Gk

abbrev OwnI (B : Nat) (w : World) (v : Value) (x : List Int) : Prop := Own Ty.int 3 B (fun _ => True) w v x
set_option maxRecDepth 100000 in
set_option maxHeartbeats 1000000 in
theorem grow_calls (n : Nat) (w : World) (hn : n ≤ 1000000) :
    Calls Try.prog 50 #[.slice none 0 0, .int .i64 n] w fun e w' => ∃ v, e = .returned v ∧ OwnI w.heap.size w' v [] ∧ Below w.heap.size w w' := by
  obtain ⟨i0, hi0, hz0, hzs, hzb⟩ := info_parts infoInt
  by_cases h0 : n = 0
  · subst h0
    go_enter Try.func50, Try.ntmps50
    go_wp2
    go_ret
    exact ⟨_, rfl, Own.nil _ _ _ _ _, Below.refl _ _⟩
  · have h := fun ty => Lib.run_append_nil_zeros (P := Try.prog) w 34 3 ty 3 i0 _ .i64 .i64 Try.underlying34 Try.underlying3 hi0 hz0 n (by omega) (by omega) (by omega) (by rw [hzb]; omega)
    have hG1 := grownCap_ge w n 0 3
    have hG2 := grownCap_le_maxLen w n 0 3 (by simp only [maxLen]; omega)
    generalize grownCap w n 0 3 = G at h hG1 hG2
    generalize hROW : Builtin.zeroCells (Value.int .i64 0).cells n ++ Builtin.zeroCells (Value.int .i64 0).cells (G - n) = ROW at h
    have hRs : ROW.size = G := by rw [← hROW]; simp only [Array.size_append, size_zeroCells, Value.cells]; simp; omega
    clear hROW
    have hG3 := hG2
    simp only [maxLen] at hG3
    go_enter Try.func50, Try.ntmps50
    go_wp2_with (at_builtin; refine Lib.wpList_append_run _ rfl _ _ _ _ rfl _ _ rfl rfl _ _ (h _) ?_)
    go_ret
    refine ⟨_, rfl, ⟨[], ⟨by simp, .inr ⟨w.heap.size, G, ROW, rfl, Nat.le_refl _, heap_alloc_new w.drew _, Nat.zero_le _, hG2, by show ROW.size = G * 1; omega, by simp⟩⟩, rfl, by simp [LB], fun _ _ => trivial, by simp⟩, ?_⟩
    exact ⟨rfl, rfl, rfl, by simp [World.drew], fun c hc => heap_alloc_old w.drew _ hc⟩
/-- the first k of two -/
def two (x y : List Int) (k : Nat) : List Int := if k = 0 then [] else if k = 1 then x else x ++ y
set_option maxRecDepth 100000 in
set_option maxHeartbeats 2000000 in
theorem concat_calls (N : Nat) (u1 u2 : Value) (x y : List Int) (w : World) (hN : Box w N #[u1, u2] 34) (h1 : IL w u1 x) (h2 : IL w u2 y) (hl1 : x.length ≤ 1000) (hl2 : y.length ≤ 1000) :
    Calls Try.prog 34 #[.slice (some ⟨N, 0, none⟩) 2 2] w fun e w' => ∃ v, e = .returned v ∧ IL w' v (x ++ y) ∧ Below w.heap.size w w' := by
  have hs1 := h1.sl
  have hs2 := h2.sl
  have ho1 := h1.some
  have ho2 := h2.some
  obtain ⟨A1, c1, rfl, a1, a2, a3, _⟩ := id hs1
  obtain ⟨A2, c2, rfl, b1, b2, b3, _⟩ := id hs2
  unfold LB at a3 b3
  have hc0 := hN.cell 0 (v := .slice A1 x.length c1) rfl
  have hc1 := hN.cell 1 (v := .slice A2 y.length c2) rfl
  have HH := Lib.hid (And.intro hN (And.intro hs1 (And.intro hs2 (And.intro ho1 ho2))))
  clear hN h1 h2 hs1 hs2 ho1 ho2
  go_enter Try.func34, Try.ntmps34
  go_wp2
  go_loopw [11, 3] (fun i s wr => (∃ k q : Nat, k ≤ 2 ∧ i = .int .i64 k ∧ s = .int .i64 q ∧ Hid (q = (two x y k).length)) ∧ wr = w) (fun i _ _ => 2 - (intOf i).toNat)
  case atStart => exact ⟨⟨0, 0, Nat.zero_le _, rfl, rfl, rfl⟩, rfl⟩
  case round =>
    obtain ⟨⟨k, q, hk, rfl, rfl, hq⟩, rfl⟩ := hrel
    have : k = 0 ∨ k = 1 ∨ k = 2 := by omega
    rcases this with rfl | rfl | rfl
    · have e : q = 0 := hq
      subst e
      go_wp2
      go_roundw
      case rel => exact ⟨⟨1, x.length, by omega, by go_num, by go_num, by simp [Hid, two]⟩, by first | rfl | trivial⟩
      case measure => simp [intOf]
    · have e : q = x.length := hq
      subst e
      go_wp2
      go_roundw
      case rel => exact ⟨⟨2, x.length + y.length, by omega, by go_num, by go_num, by simp [Hid, two]⟩, by first | rfl | trivial⟩
      case measure => simp [intOf]
    · have e : q = x.length + y.length := by have h : q = _ := hq; rw [h]; simp [two]
      have hq2 : q ≤ 2000 := by omega
      clear e
      obtain ⟨wo, rfl⟩ : ∃ wo : World, wo = wr := ⟨_, rfl⟩
      have hg := grow_calls q wo (by omega)
      go_wp2_with (go_at_call 50; refine hg.mono ?_; rintro e w1 ⟨v1, rfl, hO1, hb1⟩)
      go_loopw [27, 6] (fun i o wr => ∃ k : Nat, k ≤ 2 ∧ i = .int .i64 k ∧ OwnI wo.heap.size wr o (two x y k) ∧ Below wo.heap.size wo wr) (fun i _ _ => 2 - (intOf i).toNat)
      case atStart => exact ⟨0, Nat.zero_le _, rfl, hO1, hb1⟩
      case round =>
        clear hO1 hb1
        obtain ⟨k, hk, rfl, hO, hb⟩ := hrel
        have hsz := hb.size
        have hN2 := HH.out.1.below hb
        have hd0 := hN2.cell 0 (v := .slice A1 x.length c1) rfl
        have hd1 := hN2.cell 1 (v := .slice A2 y.length c2) rfl
        have HB := Lib.hid (And.intro hO hb)
        clear hO hb hN2
        have : k = 0 ∨ k = 1 ∨ k = 2 := by omega
        rcases this with rfl | rfl | rfl
        · go_wp2_with (at_builtin; refine wpList_appAll (T := Ty.int) (xs := two x y 0) (w0 := wo) (B := wo.heap.size) (D := fun _ => True) rfl (.tmp 31) (.tmp 32) 34 3 8 rfl elemInt rfl rfl _ x rfl HB.out.1 (fun _ _ => trivial) (HH.out.2.1.below HB.out.2) (fun y u _ h => fun _ _ _ => h) HH.out.2.2.2.1 HB.out.2 hsz (by simp [two]; omega) ?_; intro v2 w3 hO3 hB3 _ _)
          go_roundw
          case rel => exact ⟨1, by omega, by go_num, by simpa [two] using hO3, hB3⟩
          case measure => simp [intOf]
        · go_wp2_with (at_builtin; refine wpList_appAll (T := Ty.int) (xs := two x y 1) (w0 := wo) (B := wo.heap.size) (D := fun _ => True) rfl (.tmp 31) (.tmp 32) 34 3 8 rfl elemInt rfl rfl _ y rfl HB.out.1 (fun _ _ => trivial) (HH.out.2.2.1.below HB.out.2) (fun y u _ h => fun _ _ _ => h) HH.out.2.2.2.2 HB.out.2 hsz (by simp [two]; omega) ?_; intro v2 w3 hO3 hB3 _ _)
          go_roundw
          case rel => exact ⟨2, by omega, by go_num, by simpa [two] using hO3, hB3⟩
          case measure => simp [intOf]
        · go_wp2
          go_ret
          exact ⟨_, rfl, by simpa [two] using IL.of HB.out.1, HB.out.2⟩
end Go.Proofs.Ytgjobbapnileiaa
