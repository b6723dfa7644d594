/- Number: it answers some grammar by numbers. -/
import Derived.Test.YtigbfankkmmnbaaZ04
set_option linter.unusedVariables false
set_option linter.unusedSimpArgs false
namespace Go.Proofs.Ytigbfankkmmnbaa
open Go.RowKit Gk

/-- the blocks that hold the new grammar's lists: not the grammar's own -/
def NumNB (S : Nat) (L : Nat → Bool) (val : Nat → Value) (c : Nat) : Prop := S ≤ c ∧ (L 5 = true → val 5 ≠ .pointer (some ⟨c, 0, none⟩))
/-- the region that makes the new grammar -/
structure NumI (w1 : World) (u g : Value) (ts ns : List ByteArray) (L : Nat → Bool) (val : Nat → Value) (w : World) : Prop where
  below : Below w1.heap.size w1 w
  v0 : L 0 = true → val 0 = u
  v1 : L 1 = true → Far (NumNB w1.heap.size L val) (fun w => Sl Ty.str w (val 1) ts) w
  v2 : L 2 = true → val 2 = g
  v3 : L 3 = true → Far (NumNB w1.heap.size L val) (fun w => Sl Ty.str w (val 3) ns) w
  v4 : L 4 = true → val 4 = .agg #[val 1, val 3, .slice none 0 0]
  c4 : L 4 = true → L 1 = true ∧ L 3 = true
  c6 : L 6 = true → L 4 = true ∧ L 5 = true
  v5 : L 5 = true → ∃ b, val 5 = .pointer (some ⟨b, 0, none⟩) ∧ w1.heap.size ≤ b ∧ b < w.heap.size ∧ (L 6 = false → Box w b #[.slice none 0 0, .slice none 0 0, .slice none 0 0] 25) ∧ (L 6 = true → Box w b #[val 1, val 3, .slice none 0 0] 25)

theorem NumI.ptr {w1 w2 : World} {u g : Value} {ts ns : List ByteArray} {L : Nat → Bool} {val : Nat → Value} (hI : NumI w1 u g ts ns L val w2) {c : Nat} (hc : w2.heap.size ≤ c) : L 5 = true → val 5 ≠ .pointer (some ⟨c, 0, none⟩) := fun h5 e => by
  obtain ⟨b', e', _, hb2, _⟩ := hI.v5 h5
  rw [e'] at e; injection e with e; injection e with e; injection e with e; omega
theorem NumI.v5' {w1 w2 w3 : World} {u g : Value} {ts ns : List ByteArray} {L : Nat → Bool} {val : Nat → Value} (hI : NumI w1 u g ts ns L val w2) (hB : Below w2.heap.size w2 w3) :
    L 5 = true → ∃ b, val 5 = .pointer (some ⟨b, 0, none⟩) ∧ w1.heap.size ≤ b ∧ b < w3.heap.size ∧ (L 6 = false → Box w3 b #[.slice none 0 0, .slice none 0 0, .slice none 0 0] 25) ∧ (L 6 = true → Box w3 b #[val 1, val 3, .slice none 0 0] 25) := fun h => by
  obtain ⟨b, e, hb1, hb2, hb3, hb4⟩ := hI.v5 h
  exact ⟨b, e, hb1, Nat.lt_of_lt_of_le hb2 hB.size, fun h => (hb3 h).below hB, fun h => (hb4 h).below hB⟩
theorem NumI.ext1 {w1 w2 w3 : World} {u g : Value} {ts ns : List ByteArray} {L : Nat → Bool} {val : Nat → Value} {v : Value} (hI : NumI w1 u g ts ns L val w2) (hB : Below w2.heap.size w2 w3)
    (hv : Far (fun b => w2.heap.size ≤ b) (fun w => Sl Ty.str w v ts) w3) (h4 : L 4 = false) (h6 : L 6 = false) : NumI w1 u g ts ns (up L 1) (upd val 1 v) w3 := by
  have hsz := hI.below.size
  have hp := fun (c : Nat) (hc : w2.heap.size ≤ c) => hI.ptr hc
  have h5 := hI.v5' hB
  obtain ⟨i0, i1, i2, i3, i4, i5, c4, c6, i6⟩ := hI
  refine ⟨below_then i0 hsz hB, i1, fun _ => hv.mono fun b _ hb => ⟨by omega, hp b hb⟩, i3, fun h => ((i4 h).on hB.size fun b hb _ => hB.block b hb).mono fun b _ hb => hb.1, fun h => ?_, fun h => ?_, fun h => ?_, fun h => ?_⟩
  · rw [show up L 1 4 = L 4 from rfl, h4] at h; cases h
  · rw [show up L 1 4 = L 4 from rfl, h4] at h; cases h
  · rw [show up L 1 6 = L 6 from rfl, h6] at h; cases h
  · obtain ⟨b, e, hb1, hb2, hb3, hb4⟩ := h5 h
    exact ⟨b, e, hb1, hb2, hb3, fun h => by rw [show up L 1 6 = L 6 from rfl, h6] at h; cases h⟩
theorem NumI.ext3 {w1 w2 w3 : World} {u g : Value} {ts ns : List ByteArray} {L : Nat → Bool} {val : Nat → Value} {v : Value} (hI : NumI w1 u g ts ns L val w2) (hB : Below w2.heap.size w2 w3)
    (hv : Far (fun b => w2.heap.size ≤ b) (fun w => Sl Ty.str w v ns) w3) (h4 : L 4 = false) (h6 : L 6 = false) : NumI w1 u g ts ns (up L 3) (upd val 3 v) w3 := by
  have hsz := hI.below.size
  have hp := fun (c : Nat) (hc : w2.heap.size ≤ c) => hI.ptr hc
  have h5 := hI.v5' hB
  obtain ⟨i0, i1, i2, i3, i4, i5, c4, c6, i6⟩ := hI
  refine ⟨below_then i0 hsz hB, i1, fun h => ((i2 h).on hB.size fun b hb _ => hB.block b hb).mono fun b _ hb => hb.1, i3, fun _ => hv.mono fun b _ hb => ⟨by omega, hp b hb⟩, fun h => ?_, fun h => ?_, fun h => ?_, fun h => ?_⟩
  · rw [show up L 3 4 = L 4 from rfl, h4] at h; cases h
  · rw [show up L 3 4 = L 4 from rfl, h4] at h; cases h
  · rw [show up L 3 6 = L 6 from rfl, h6] at h; cases h
  · obtain ⟨b, e, hb1, hb2, hb3, hb4⟩ := h5 h
    exact ⟨b, e, hb1, hb2, hb3, fun h => by rw [show up L 3 6 = L 6 from rfl, h6] at h; cases h⟩
theorem NumI.ext5 {w1 w2 : World} {u g : Value} {ts ns : List ByteArray} {L : Nat → Bool} {val : Nat → Value} (hI : NumI w1 u g ts ns L val w2) (h6 : L 6 = false) :
    NumI w1 u g ts ns (up L 5) (upd val 5 (.pointer (some ⟨w2.heap.size, 0, none⟩))) (w2.alloc (.cells #[.slice none 0 0, .slice none 0 0, .slice none 0 0] 25)) := by
  have hsz := hI.below.size
  have hB : Below w2.heap.size w2 (w2.alloc (.cells #[.slice none 0 0, .slice none 0 0, .slice none 0 0] 25)) := (Below.refl _ _).alloc (Nat.le_refl _) _
  obtain ⟨i0, i1, i2, i3, i4, i5, c4, c6, i6⟩ := hI
  have hnb : ∀ b, b < w2.heap.size → NumNB w1.heap.size L val b → NumNB w1.heap.size (up L 5) (upd val 5 (.pointer (some ⟨w2.heap.size, 0, none⟩))) b := fun b hb h => ⟨h.1, fun _ e => by
    have e : Value.pointer (some ⟨w2.heap.size, 0, none⟩) = _ := e
    injection e with e; injection e with e; injection e with e; omega⟩
  refine ⟨below_then i0 hsz hB, i1, fun h => ((i2 h).on hB.size fun b hb _ => hB.block b hb).mono fun b _ hb => hnb b hb.2 hb.1, i3, fun h => ((i4 h).on hB.size fun b hb _ => hB.block b hb).mono fun b _ hb => hnb b hb.2 hb.1, i5, c4, fun h => ⟨(c6 h).1, rfl⟩, fun _ => ⟨w2.heap.size, rfl, hsz, by simp, fun _ => Box.new _ _ _, fun h => by rw [show up L 5 6 = L 6 from rfl, h6] at h; cases h⟩⟩
theorem NumI.ext6 {w1 w2 : World} {u g : Value} {ts ns : List ByteArray} {L : Nat → Bool} {val : Nat → Value} {b : Nat} (hI : NumI w1 u g ts ns L val w2) (h5 : L 5 = true) (h4 : L 4 = true) (h6 : L 6 = false) (e5 : val 5 = .pointer (some ⟨b, 0, none⟩)) (v : Value) :
    NumI w1 u g ts ns (up L 6) (upd val 6 v) (((w2.setCell ⟨b, 0, none⟩ (val 1)).setCell ⟨b, 1, none⟩ (val 3)).setCell ⟨b, 2, none⟩ (.slice none 0 0)) := by
  have hsz := hI.below.size
  obtain ⟨b', e', hb1, hb2, hb3, hb4⟩ := hI.v5 h5
  have : b' = b := by rw [e5] at e'; injection e' with e; injection e with e; injection e with e; exact e.symm
  subst this
  obtain ⟨i0, i1, i2, i3, i4, i5, c4, c6, i6⟩ := hI
  have hkeep : ∀ c, c ≠ b' → (((w2.setCell ⟨b', 0, none⟩ (val 1)).setCell ⟨b', 1, none⟩ (val 3)).setCell ⟨b', 2, none⟩ (.slice none 0 0)).heap[c]? = w2.heap[c]? := fun c hc => by
    rw [Below.heap_setCell _ _ _ _ (by simpa using hc), Below.heap_setCell _ _ _ _ (by simpa using hc), Below.heap_setCell _ _ _ _ (by simpa using hc)]
  have hs2 : w2.heap.size ≤ (((w2.setCell ⟨b', 0, none⟩ (val 1)).setCell ⟨b', 1, none⟩ (val 3)).setCell ⟨b', 2, none⟩ (.slice none 0 0)).heap.size := by simp [World.setCell]
  have hne : ∀ c, NumNB w1.heap.size L val c → c ≠ b' := fun c hc e => hc.2 h5 (by rw [e5, e])
  refine ⟨((i0.setCell (by simpa using hb1) _).setCell (by simpa using hb1) _).setCell (by simpa using hb1) _, i1, fun h => ((i2 h).on hs2 fun c _ hc => hkeep c (hne c hc)).mono fun c _ hc => hc.1, i3, fun h => ((i4 h).on hs2 fun c _ hc => hkeep c (hne c hc)).mono fun c _ hc => hc.1, i5, c4, fun _ => ⟨h4, h5⟩, fun _ => ⟨b', e5, hb1, by omega, fun h => (by cases h), fun _ => (((hb3 h6).set 0 (val 1)).set 1 (val 3)).set 2 (.slice none 0 0)⟩⟩
theorem NumI.n4 {w1 w2 : World} {u g : Value} {ts ns : List ByteArray} {L : Nat → Bool} {val : Nat → Value} (hI : NumI w1 u g ts ns L val w2) (h : L 1 = false ∨ L 3 = false) : L 4 = false := by
  rcases h4 : L 4 with _ | _
  · rfl
  · have := hI.c4 h4; rcases h with h | h <;> simp [h] at this
theorem NumI.n6 {w1 w2 : World} {u g : Value} {ts ns : List ByteArray} {L : Nat → Bool} {val : Nat → Value} (hI : NumI w1 u g ts ns L val w2) (h : L 4 = false ∨ L 5 = false) : L 6 = false := by
  rcases h6 : L 6 with _ | _
  · rfl
  · have := hI.c6 h6; rcases h with h | h <;> simp [h] at this
theorem Sl.take {α : Type} {T : Ty α} {w w' : World} {A : Option Addr} {xs : List α} {n c : Nat} (h : Sl T w (.slice A n c) xs) (k : Nat) (hk : k ≤ xs.length) (hB : Below w.heap.size w w') : Sl T w' (.slice A k c) (xs.take k) := by
  obtain ⟨A', c', e, h1, h2, h3, h4⟩ := h
  cases e
  have : (xs.take k).length = k := by rw [List.length_take]; omega
  exact ⟨A, c, by rw [this], by omega, h2, by omega, (h4.below hB).take k⟩
theorem infoInt : (Try.prog.info? 3).map (fun i => (i.zero, i.size, i.bytes)) = some (some (.int .i64 0), 1, 8) := by kernel_rfl
theorem elemInt : ElemOk Try.prog Ty.int 35 3 8 := ElemOk.of Try.underlying35 infoInt rfl (by omega)
theorem infoInts : (Try.prog.info? 35).map (fun i => (i.zero, i.size, i.bytes)) = some (some (.slice none 0 0), 1, 24) := by kernel_rfl
theorem elemInts : ElemOk Try.prog (Ty.slice Ty.int) 32 35 24 := ElemOk.of Try.underlying32 infoInts rfl (by omega)
theorem infoIntss : (Try.prog.info? 32).map (fun i => (i.zero, i.size, i.bytes)) = some (some (.slice none 0 0), 1, 24) := by kernel_rfl
theorem elemIntss : ElemOk Try.prog rowsT 23 32 24 := ElemOk.of Try.underlying23 infoIntss rfl (by omega)
theorem int_far (D : Nat → Prop) (w : World) (y : Int) (h : Ty.i64 y) : Far D (fun w => Ty.int.R w y [.int .i64 y]) w := fun _ _ _ => ⟨rfl, h⟩
theorem place_range {xs : List ByteArray} {s : ByteArray} {r : Int} (h : PlaceIs xs s r) : -1 ≤ r ∧ r < xs.length := by
  rcases h with ⟨rfl, _⟩ | ⟨k, rfl, h, _⟩
  · omega
  · have := (List.getElem?_eq_some_iff.1 h).1; omega
theorem i64_of {r : Int} (h1 : -1 ≤ r) (h2 : r < 1001) : Ty.i64 r := by unfold Ty.i64; omega
theorem i64_neg {r : Int} (h1 : -1 ≤ r) (h2 : r < 1001) : Ty.i64 (-1 - r) := by unfold Ty.i64; omega
def NumL3 (a : List ByteArray) (wp : World) (i o : Value) (wr : World) : Prop :=
  ∃ (p : Nat) (zs : List Int), p ≤ a.length ∧ i = .int .i64 p ∧ zs.length = p ∧ Own Ty.int 3 wp.heap.size (fun b => wp.heap.size ≤ b) wr o zs ∧ Below wp.heap.size wp wr
def NumL2 (x : List (List ByteArray)) (wo : World) (i o : Value) (wr : World) : Prop :=
  ∃ (j : Nat) (zs : List (List Int)), j ≤ x.length ∧ i = .int .i64 j ∧ zs.length = j ∧ Own (Ty.slice Ty.int) 35 wo.heap.size (fun b => wo.heap.size ≤ b) wr o zs ∧ Below wo.heap.size wo wr
def NumL1 (rs : Rules) (ts ns : List ByteArray) (wf w7 : World) (b5 : Nat) (V1 V3 : Value) (i : Value) (wr : World) : Prop :=
  ∃ (k : Nat) (vA : Value) (xa : List (List (List Int))), k ≤ rs.length ∧ i = .int .i64 k ∧ xa.length = k ∧ Box wr b5 #[V1, V3, vA] 25 ∧ Own rowsT 32 w7.heap.size (fun b => w7.heap.size ≤ b) wr vA xa ∧
    Far (fun c => wf.heap.size ≤ c ∧ c ≠ b5 ∧ c < w7.heap.size) (fun w => Sl Ty.str w V1 ts) wr ∧ Far (fun c => wf.heap.size ≤ c ∧ c ≠ b5 ∧ c < w7.heap.size) (fun w => Sl Ty.str w V3 ns) wr ∧ Below wf.heap.size wf wr ∧ w7.heap.size ≤ wr.heap.size
def numEnd (rs : Rules) (w : World) (e : Ending) (w' : World) : Prop := ∃ v d r, e = .returned (.tuple #[v, .int .i64 r]) ∧ CfgV w' v d ∧ Below w.heap.size w w' ∧ (r = 0 → 0 < rs.length)
set_option maxRecDepth 100000 in
set_option maxHeartbeats 8000000 in
theorem number_calls (v u : Value) (rs : Rules) (ts : List ByteArray) (w : World) (h : Sl ruleT w v rs) (h' : Sl Ty.str w u ts) (hs : Short3 rs) (ht : ts.length ≤ 1000) (hu : u = .slice none 0 0 ∨ ∃ ad n c, u = .slice (some ad) n c) :
    Calls Try.prog 66 #[.agg #[v], u] w (numEnd rs w) := by
  have h0 := h
  obtain ⟨A, c, rfl, hc, hcm, hlb, hr⟩ := h
  have h0' := h'
  obtain ⟨AU, cu, rfl, hcu, hcum, hlbu, hru⟩ := h'
  unfold LB at hlb hlbu
  have hs1 := hs.1
  have HS := Lib.hid hs; clear hs
  have hWa : Below w.heap.size w ((w.alloc (.cells #[.slice A rs.length c] 82)).alloc (.cells #[.slice none 0 0, .slice none 0 0, .slice none 0 0] 25)) := ((Below.refl _ _).alloc (Nat.le_refl _) _).alloc (by simp) _
  have hbox := (Box.new w #[.slice A rs.length c] 82).alloc (.cells #[.slice none 0 0, .slice none 0 0, .slice none 0 0] 25)
  have hbox4 := Box.new (w.alloc (.cells #[.slice A rs.length c] 82)) #[.slice none 0 0, .slice none 0 0, .slice none 0 0] 25
  have hsa : (w.alloc (.cells #[.slice A rs.length c] 82)).heap.size = w.heap.size + 1 := by simp
  rw [hsa] at hbox4
  have HSA := Lib.hid hsa; clear hsa
  go_enter Try.func66, Try.ntmps66
  go_wp2_with (go_at_call 76; refine (check_calls _ rs _ (h0.below hWa)).mono ?_; rintro e wn ⟨r, rfl, hr0, hWn⟩; have HR0 := Lib.hid hr0; clear hr0; have hbn := (hbox.below hWn).cell 0 (v := .slice A rs.length c) rfl; have hb4n := hbox4.below hWn; have q0 := hb4n.cell 0 (v := .slice none 0 0) rfl; have q1 := hb4n.cell 1 (v := .slice none 0 0) rfl; have q2 := hb4n.cell 2 (v := .slice none 0 0) rfl; have p0 := hb4n.frozen 0; have p1 := hb4n.frozen 1; have p2 := hb4n.frozen 2; rcases icmp_any r 0 with ⟨y1, y2, y3⟩ | ⟨y1, y2, y3⟩)
  rotate_left
  ·
    have z := ((hb4n.set 0 (.slice none 0 0)).set 1 (.slice none 0 0)).set 2 (.slice none 0 0)
    have z0 := z.cell 0 (v := .slice none 0 0) rfl
    have z1 := z.cell 1 (v := .slice none 0 0) rfl
    have z2 := z.cell 2 (v := .slice none 0 0) rfl
    exact bodyPost_ret (v := .tuple #[.agg #[.slice none 0 0, .slice none 0 0, .slice none 0 0], .int .i64 r]) (by simp [results, Try.results66, go_sem, z0, z1, z2]) rfl
      ⟨_, ⟨[], [], []⟩, _, rfl, ⟨_, _, _, rfl, Sl.nil _ _, Sl.nil _ _, Sl.nil _ _⟩, (((below2 hWa hWn).setCell (by simp) _).setCell (by simp) _).setCell (by simp) _, fun h => HR0.out.2.2 h⟩
  have hW := below2 hWa hWn
  have hbx := hbox.below hWn
  have hszn : w.heap.size + 2 ≤ wn.heap.size := by have := hb4n.lt; omega
  clear hWa hWn hbox hbox4 q0 q1 q2 p0 p1 p2 hbn
  go_loopw [27] (fun i wr => (∃ k : Nat, k ≤ ts.length ∧ i = .int .i64 k) ∧ Below wn.heap.size wn wr) (fun i _ => ts.length - (intOf i).toNat)
  case atStart => exact ⟨⟨0, Nat.zero_le _, rfl⟩, Below.refl _ _⟩
  case round =>
    obtain ⟨⟨k, hk, rfl⟩, hB⟩ := hrel
    have hB' := below2 hW hB
    have hb4 := hb4n.below hB
    have q0 := hb4.cell 0 (v := .slice none 0 0) rfl
    have q1 := hb4.cell 1 (v := .slice none 0 0) rfl
    have q2 := hb4.cell 2 (v := .slice none 0 0) rfl
    have p0 := hb4.frozen 0
    have p1 := hb4.frozen 1
    have p2 := hb4.frozen 2
    by_cases hlt : k < ts.length
    case pos =>
      obtain ⟨t, ht'⟩ := at_lt ts hlt
      obtain ⟨at_, e, hts, hcellT⟩ := (hru.below hB').str ht'
      cases e
      clear ht'
      have q9 : k ≤ cu := by omega
      have HU := Lib.hid hu; clear hu
      have hhas : ∀ wd, Below wr.heap.size wr wd → Calls Try.prog 78 #[.slice (some at_) k cu, .string t] wd fun e w' => ∃ b, e = .returned (.bool b) ∧ wd = w' := fun wd hBd =>
        (has_calls _ (ts.take k) t _ (Sl.take h0' k hk (below2 hB' hBd))).mono fun e w' ⟨h1, h2⟩ => ⟨_, h1, h2⟩
      go_wp2_with (first | (go_at_call 77; refine (isName_calls t _ hts).mono ?_; rintro e wd ⟨b, rfl, hdr⟩; have hBd := hdr.below; have hb4d := hb4.below hBd; have p0 := hb4d.frozen 0; have p1 := hb4d.frozen 1; have p2 := hb4d.frozen 2; have q0 := hb4d.cell 0 (v := .slice none 0 0) rfl; have q1 := hb4d.cell 1 (v := .slice none 0 0) rfl; have q2 := hb4d.cell 2 (v := .slice none 0 0) rfl; cases b) | (go_at_call 78; (with_reducible refine (hhas wd hBd).mono ?_); rintro e w9 ⟨b2, rfl, rfl⟩; cases b2))
      all_goals first
        | (go_roundw
           case rel => exact ⟨⟨k + 1, by omega, by go_num⟩, below2 hB hBd⟩
           case measure => simp [intOf]; omega)
        | (have z := ((hb4d.set 0 (.slice none 0 0)).set 1 (.slice none 0 0)).set 2 (.slice none 0 0)
           have z0 := z.cell 0 (v := .slice none 0 0) rfl
           have z1 := z.cell 1 (v := .slice none 0 0) rfl
           have z2 := z.cell 2 (v := .slice none 0 0) rfl
           exact bodyPost_ret (v := .tuple #[.agg #[.slice none 0 0, .slice none 0 0, .slice none 0 0], .int .i64 1]) (by simp [results, Try.results66, go_sem, z0, z1, z2]) rfl
             ⟨_, ⟨[], [], []⟩, _, rfl, ⟨_, _, _, rfl, Sl.nil _ _, Sl.nil _ _, Sl.nil _ _⟩, (((below2 hB' hBd).setCell (by simp) _).setCell (by simp) _).setCell (by simp) _, fun h => by cases h⟩)
    case neg =>
      clear hk
      by_cases h60 : (ts.length : Int) > 60
      · go_wp2
        have z := ((hb4.set 0 (.slice none 0 0)).set 1 (.slice none 0 0)).set 2 (.slice none 0 0)
        have z0 := z.cell 0 (v := .slice none 0 0) rfl
        have z1 := z.cell 1 (v := .slice none 0 0) rfl
        have z2 := z.cell 2 (v := .slice none 0 0) rfl
        exact bodyPost_ret (v := .tuple #[.agg #[.slice none 0 0, .slice none 0 0, .slice none 0 0], .int .i64 2]) (by simp [results, Try.results66, go_sem, z0, z1, z2]) rfl
          ⟨_, ⟨[], [], []⟩, _, rfl, ⟨_, _, _, rfl, Sl.nil _ _, Sl.nil _ _, Sl.nil _ _⟩, (((hB').setCell (by simp) _).setCell (by simp) _).setCell (by simp) _, fun h => by cases h⟩
      have hbxr := hbx.below hB
      have hcx := hbxr.cell 0 (v := .slice A rs.length c) rfl
      clear q0 q1 q2 p0 p1 p2
      go_wp2_with (go_at_call 79; refine (flaws_calls _ (.slice AU ts.length cu) rs ts _ (h0.below hB') (h0'.below hB') HS.out ht hu).mono ?_; rintro e wf ⟨vF, fl, rfl, _, hF, hWf⟩; obtain ⟨AF, cF, rfl, f1, f2, f3, f4⟩ := hF.now; have hb4f := hb4.below hWf; have q0 := hb4f.cell 0 (v := .slice none 0 0) rfl; have q1 := hb4f.cell 1 (v := .slice none 0 0) rfl; have q2 := hb4f.cell 2 (v := .slice none 0 0) rfl; have p0 := hb4f.frozen 0; have p1 := hb4f.frozen 1; have p2 := hb4f.frozen 2; have hbxf := hbxr.below hWf)
      ·
        have z := ((hb4f.set 0 (.slice none 0 0)).set 1 (.slice none 0 0)).set 2 (.slice none 0 0)
        have z0 := z.cell 0 (v := .slice none 0 0) rfl
        have z1 := z.cell 1 (v := .slice none 0 0) rfl
        have z2 := z.cell 2 (v := .slice none 0 0) rfl
        exact bodyPost_ret (v := .tuple #[.agg #[.slice none 0 0, .slice none 0 0, .slice none 0 0], .int .i64 80]) (by simp [results, Try.results66, go_sem, z0, z1, z2]) rfl
          ⟨_, ⟨[], [], []⟩, _, rfl, ⟨_, _, _, rfl, Sl.nil _ _, Sl.nil _ _, Sl.nil _ _⟩, (((below_then hB' hB'.size hWf).setCell (by simp) _).setCell (by simp) _).setCell (by simp) _, fun h => by cases h⟩
      have hWF := below2 hB' hWf
      clear hlt q0 q1 q2 p0 p1 p2 hF f4
      have hszf : w.heap.size + 2 ≤ wf.heap.size := by have := hb4f.lt; omega
      have hcf := hbxf.cell 0 (v := .slice A rs.length c) rfl
      have hUf := h0'.below hWF
      rename_i KK hKK
      refine wp_region_inv (by kernel_rfl) (by kernel_rfl) (NumI wf (.slice AU ts.length cu) (.agg #[.slice A rs.length c]) ts (rs.map (·.1))) (fun _ => undef) ?_ ?_ ?_
      · exact ⟨below_drewN (Below.refl _ _) 1, by simp, by simp, by simp, by simp, by simp, by simp, by simp, by simp⟩
      · intro i hi
        have hi7 : i < 7 := hi
        have : i = 0 ∨ i = 1 ∨ i = 2 ∨ i = 3 ∨ i = 4 ∨ i = 5 ∨ i = 6 := by omega
        rcases this with rfl | rfl | rfl | rfl | rfl | rfl | rfl
        · refine StepOb.of rfl rfl fun L val w2 hI hL hd => ?_
          obtain ⟨i0, i1, i2, i3, i4, i5, c4, c6, i6⟩ := hI
          exact does_value (v := .slice AU ts.length cu) rfl ⟨i0, fun _ => rfl, i2, i3, i4, i5, c4, c6, i6⟩
        · refine StepOb.of rfl rfl fun L val w2 hI hL hd => ?_
          have e0 := hI.v0 (hd ⟨0, .data⟩ (by simp) rfl)
          obtain ⟨v1, wa, hrun, hown, hgr, hat⟩ := run_appAll (P := Try.prog) (T := Ty.str) (W := w2) (v := .slice none 0 0) (xs := []) (B := w2.heap.size) 22 9 16 22 elemStr rfl (.slice AU ts.length cu) ts (D := fun b => w2.heap.size ≤ b) (Own.nil _ _ _ _ _) (fun b hb => hb) (hUf.below hI.below) (fun y x _ h w3 _ _ => h) hu (Nat.le_refl _) (by simp; omega)
          refine does_value (exec_append rfl rfl e0 hrun) ?_
          have hBa : Below w2.heap.size w2 wa := ⟨hgr.os, hgr.tape, hgr.output, hgr.size, fun b hb => hgr.block b hb (by simp [Value.ownBlock])⟩
          have h4 := NumI.n4 hI (Or.inl hL)
          exact hI.ext1 hBa hown.far h4 (hI.n6 (Or.inl h4))
        · refine StepOb.of rfl rfl fun L val w2 hI hL hd => ?_
          have hc2 := cell_far hcf hI.below.block
          obtain ⟨i0, i1, i2, i3, i4, i5, c4, c6, i6⟩ := hI
          exact does_value (v := .agg #[.slice A rs.length c]) (w := w2) (exec_load rfl rfl (by go_simp)) ⟨i0, i1, i2, fun _ => rfl, i4, i5, c4, c6, i6⟩
        · refine StepOb.of rfl rfl fun L val w2 hI hL hd => ?_
          have e2 := hI.v2 (hd ⟨2, .data⟩ (by simp) rfl)
          refine does_enter (f := 80) (args := #[.agg #[.slice A rs.length c]]) (w := w2) (exec_call rfl rfl (by simp only [List.map_toArray, List.map_cons, List.map_nil]; exact congrArg (fun x => #[x]) e2) Try.func80 (by decide) rfl) ?_
          refine (names_calls _ rs _ (h0.below (below2 hWF hI.below)) (by omega)).mono ?_
          rintro e wm ⟨vN, ns, rfl, rfl, hN, hWm⟩
          have h4 := NumI.n4 hI (Or.inr hL)
          exact ⟨vN, rfl, hI.ext3 hWm hN h4 (hI.n6 (Or.inl h4))⟩
        · refine StepOb.of rfl rfl fun L val w2 hI hL hd => ?_
          have h1 := hd ⟨1, .data⟩ (by simp) rfl
          have h3 := hd ⟨3, .data⟩ (by simp) rfl
          obtain ⟨A1, c1, e1, _⟩ := (hI.v1 h1).now
          obtain ⟨A3, c3, e3, _⟩ := (hI.v3 h3).now
          obtain ⟨i0, i1, i2, i3, i4, i5, c4, c6, i6⟩ := hI
          refine does_value (v := .agg #[val 1, val 3, .slice none 0 0]) (w := w2) (exec_build (A := #[(0, val 1), (1, val 3)]) rfl (by simp; exact ⟨rfl, rfl⟩) (by rw [e1, e3]; go_simp)) ⟨i0, i1, i2, i3, i4, fun _ => rfl, fun _ => ⟨h1, h3⟩, fun h => ⟨rfl, (c6 h).2⟩, i6⟩
        · refine StepOb.of rfl rfl fun L val w2 hI hL hd => ?_
          exact does_value (exec_alloc (z := .agg #[.slice none 0 0, .slice none 0 0, .slice none 0 0]) rfl (by kernel_rfl)) (hI.ext5 (hI.n6 (Or.inr hL)))
        · refine StepOb.of rfl rfl fun L val w2 hI hL hd => ?_
          obtain ⟨b, e5, hb1, hb2, hb3, hb4⟩ := hI.v5 (hd ⟨5, .data⟩ (by simp) rfl)
          have h4 := hd ⟨4, .data⟩ (by simp) rfl
          have e4 := hI.v4 h4
          obtain ⟨A1, c1, e1, _⟩ := (hI.v1 (hI.c4 h4).1).now
          obtain ⟨A3, c3, e3, _⟩ := (hI.v3 (hI.c4 h4).2).now
          have hbx := hb3 hL
          have s0 := hbx.cell 0 (v := .slice none 0 0) rfl
          have s1 := hbx.cell 1 (v := .slice none 0 0) rfl
          have s2 := hbx.cell 2 (v := .slice none 0 0) rfl
          have r0 := hbx.frozen 0
          have r1 := hbx.frozen 1
          have r2 := hbx.frozen 2
          refine does_skip (exec_store rfl e5 e4 ?_) (hI.ext6 (hd ⟨5, .data⟩ (by simp) rfl) h4 hL e5 undef)
          rw [e1, e3]
          go_simp
      · rintro val w7 hI
        have hB7w := hI.below
        obtain ⟨b5, e5, hb51, hb52, _, hb5⟩ := hI.v5 rfl
        replace hb5 := hb5 rfl
        have hv1 : Far (fun c => wf.heap.size ≤ c ∧ c ≠ b5 ∧ c < w7.heap.size) (fun w => Sl Ty.str w (val 1) ts) w7 := (hI.v1 rfl).mono fun b hb h => ⟨h.1, fun e => h.2 rfl (by rw [e5, e]), hb⟩
        have hv3 : Far (fun c => wf.heap.size ≤ c ∧ c ≠ b5 ∧ c < w7.heap.size) (fun w => Sl Ty.str w (val 3) (rs.map (·.1))) w7 := (hI.v3 rfl).mono fun b hb h => ⟨h.1, fun e => h.2 rfl (by rw [e5, e]), hb⟩
        clear hI
        refine hKK _ _ ?_
        simp [fillAll, List.range, List.range.loop, dstOf, Act.put]
        rw [e5]
        clear e5
        generalize decide (0 < fl.length) = bz at *
        generalize val 1 = V1 at *
        generalize val 3 = V3 at *
        have hns := Lib.hid (show (rs.map (·.1)).length = rs.length by simp)
        have hnl : (rs.map (·.1)).length < 1001 := by simp; omega
        generalize rs.map (·.1) = ns at *
        clear hcf hUf hbxr hcx hru hr
        have hcf := (hbxf.below hB7w).cell 0 (v := .slice A rs.length c) rfl
        have hRW := Lib.hid (below2 hWF hB7w)
        obtain ⟨A1, c1, rfl, _⟩ := hv1.now
        obtain ⟨A3, c3, rfl, _⟩ := hv3.now
        go_wp2
        go_loopw [62] (fun i wr => NumL1 rs ts ns wf w7 b5 (.slice A1 ts.length c1) (.slice A3 ns.length c3) i wr) (fun i _ => rs.length - (intOf i).toNat)
        case atStart => exact ⟨0, _, [], Nat.zero_le _, rfl, rfl, hb5, Own.nil _ _ _ _ _, hv1, hv3, hB7w, Nat.le_refl _⟩
        case round =>
          clear hb5 hv1 hv3
          obtain ⟨k, vA, xa, hk, rfl, hxl, hb5, hA, hv1, hv3, hW, hsz⟩ := hrel
          have HXL := Lib.hid hxl
          have hxl' : xa.length ≤ 200 := by omega
          clear hxl
          have hb5lt := hb5.lt
          have hrw := h0.below (below2 hWF hW)
          by_cases hlt : k < rs.length
          · obtain ⟨x, hx⟩ := at_lt rs hlt
            have hrr : Row ruleT wr A rs := by obtain ⟨_, _, e, _, _, _, h⟩ := hrw; cases e; exact h
            obtain ⟨ad, B, c2, rfl, hcell0, hcell1, hx1, g1, g2, g3, g4⟩ := Row.rule hrr hx
            have hX2 := HS.out.2 x (List.mem_of_getElem? hx)
            have hx2 := hX2.1
            have HX2 := Lib.hid hX2.2
            clear hx hX2 hrr
            obtain ⟨wo, rfl⟩ : ∃ wo : World, wo = wr := ⟨_, rfl⟩
            go_wp2
            go_loopw [69, 12] (fun i o wr => NumL2 x.2 wo i o wr) (fun i _ _ => x.2.length - (intOf i).toNat)
            case atStart => exact ⟨0, [], Nat.zero_le _, rfl, rfl, Own.nil _ _ _ _ _, (Below.refl _ _).alloc (Nat.le_refl _) _⟩
            case round =>
              obtain ⟨j, ys, hj, rfl, hyl, hO, hW2⟩ := hrel
              have HYL := Lib.hid hyl
              have hyl' : ys.length ≤ 200 := by omega
              clear hyl
              have hsz2 := hW2.size
              replace g4 := g4.below hW2
              by_cases hlt2 : j < x.2.length
              · obtain ⟨a, ha⟩ := at_lt x.2 hlt2
                obtain ⟨ad2, Y, py, rfl, hcellB, g5, g6, g7, g8⟩ := g4.slice ha
                have ha2 := HX2.out a (List.mem_of_getElem? ha)
                clear ha
                obtain ⟨wp, rfl⟩ : ∃ wp : World, wp = wr := ⟨_, rfl⟩
                go_wp2
                go_loopw [75, 15] (fun i o wr => NumL3 a wp i o wr) (fun i _ _ => a.length - (intOf i).toNat)
                case atStart => exact ⟨0, [], Nat.zero_le _, rfl, rfl, Own.nil _ _ _ _ _, Below.refl _ _⟩
                case round =>
                  obtain ⟨p, zs, hp, rfl, hzl, hZ, hW3⟩ := hrel
                  have hsz3 := hW3.size
                  replace g8 := g8.below hW3
                  by_cases hlt3 : p < a.length
                  · obtain ⟨s, hs⟩ := at_lt a hlt3
                    obtain ⟨ad3, rfl, hsl, hcellC⟩ := g8.str hs
                    clear hs
                    have hb51 := (hb5.below hW2).below hW3
                    have hc51 := hb51.cell 1 (v := .slice A3 ns.length c3) rfl
                    have hp1 := place_calls _ ts s wr (h0'.below (below2 (below2 (below2 hWF hW) hW2) hW3))
                    have hp2 := place_calls _ ns s wr (((hv3.on hsz2 fun b hb _ => hW2.block b hb).on hsz3 fun b hb _ => hW3.block b hb).now)
                    have k1 : (zs.length + 1) * 8 ≤ 140737488355328 := by omega
                    have ht1 : (ts.length : Int) < 1001 := by omega
                    have hn1 : (ns.length : Int) < 1001 := by omega
                    have HZL := Lib.hid hzl
                    clear hzl
                    have k2 : ∀ b, wr.heap.size ≤ b → wp.heap.size ≤ b := fun b hb => by omega
                    go_wp2_with (first | (go_at_call 81; (with_reducible refine hp1.mono ?_); rintro e w9 ⟨r1, rfl, hpl1, rfl⟩; have hq1 := place_range hpl1; by_cases hneg : r1 < 0) | (go_at_call 81; (with_reducible refine hp2.mono ?_); rintro e w9 ⟨r2, rfl, hpl2, rfl⟩; have hq2 := place_range hpl2) | (at_builtin; first | (refine wpList_app (T := Ty.int) (v := u15) (xs := zs) (W := wr) (w0 := wp) (B := wp.heap.size) (D := fun b => wp.heap.size ≤ b) rfl (.tmp 89) (.tmp 91) 35 3 8 rfl elemInt rfl r1 #[.int .i64 r1] wr.heap.size rfl rfl hZ k2 (int_far _ _ r1 (i64_of hq1.1 (Int.lt_trans hq1.2 ht1))) hW3 hsz3 k1 ?_; intro v1 w1 hown hbel hgr hat) | (refine wpList_app (T := Ty.int) (v := u15) (xs := zs) (W := wr) (w0 := wp) (B := wp.heap.size) (D := fun b => wp.heap.size ≤ b) rfl (.tmp 89) (.tmp 91) 35 3 8 rfl elemInt rfl (-1 - r2) #[.int .i64 (-1 - r2)] wr.heap.size rfl rfl hZ k2 (int_far _ _ (-1 - r2) (i64_neg hq2.1 (Int.lt_trans hq2.2 hn1))) hW3 hsz3 k1 ?_; intro v1 w1 hown hbel hgr hat)))
                    all_goals
                      go_roundw
                      case rel =>
                        try refine ⟨_, _, _, _, ?_, rfl, rfl, rfl, rfl⟩
                        exact ⟨p + 1, _, by omega, by go_num, by simp [HZL.out], hown, hbel⟩
                      case measure => simp [intOf]; omega
                  · obtain ⟨Az, cz, rfl, hZs⟩ := hZ.sl
                    have hb51 := (hb5.below hW2).below hW3
                    have hO1 : Own (Ty.slice Ty.int) 35 wo.heap.size (fun b => wo.heap.size ≤ b) wr u12 ys := hO.below hW3
                    have hOlt := hO1.lt
                    have k1 : (ys.length + 1) * 24 ≤ 140737488355328 := by omega
                    clear hzl
                    have k2 : ∀ b, wr.heap.size ≤ b → wo.heap.size ≤ b := fun b hb => by omega
                    have k3 : Below wo.heap.size wp wr := hW3.mono (by omega)
                    have k4 : wo.heap.size ≤ wr.heap.size := by omega
                    have hOlt2 := hO.lt
                    have k5 : Far (fun b => wo.heap.size ≤ b ∧ some b ≠ u12.ownBlock) (fun w => (Ty.slice Ty.int).R w zs #[.slice Az zs.length cz].toList) wr :=
                      (hZ.far.mono (D' := fun b => wo.heap.size ≤ b ∧ some b ≠ u12.ownBlock) fun b _ hb => ⟨by omega, fun e => by have := hOlt2 b e.symm; omega⟩).imp fun w' h => ⟨_, rfl, h⟩
                    go_wp2_with (at_builtin; refine wpList_app (T := Ty.slice Ty.int) (v := u12) (xs := ys) (W := wr) (w0 := wp) (B := wo.heap.size) (D := fun b => wo.heap.size ≤ b) rfl (.tmp 94) (.tmp 96) 32 35 24 rfl elemInts rfl zs #[.slice Az zs.length cz] wr.heap.size rfl rfl hO1 k2 k5 k3 k4 k1 ?_; intro v1 w1 hown hbel hgr hat)
                    go_roundw
                    case rel =>
                      try refine ⟨_, _, _, _, _, _, ?_, rfl, rfl, rfl, rfl, rfl, rfl⟩
                      exact ⟨j + 1, _, by omega, by go_num, by simp [HYL.out], hown, hW2.trans hbel⟩
                    case measure => simp [intOf]; omega
              · obtain ⟨Az, cz, rfl, hOs⟩ := hO.sl
                have hb51 := hb5.below hW2
                have hcA := hb51.cell 2 (v := vA) rfl
                have hA1 : Own rowsT 32 w7.heap.size (fun b => w7.heap.size ≤ b) wr vA xa := hA.below hW2
                have hAlt := hA.lt
                have hb5lt7 : b5 < w7.heap.size := hb52
                have k1 : (xa.length + 1) * 24 ≤ 140737488355328 := by omega
                have k2 : ∀ b, wr.heap.size ≤ b → w7.heap.size ≤ b := fun b hb => by omega
                have k3 : Below w7.heap.size wo wr := hW2.mono hsz
                have k4 : w7.heap.size ≤ wr.heap.size := by omega
                have k5 : Far (fun b => w7.heap.size ≤ b ∧ some b ≠ vA.ownBlock) (fun w => rowsT.R w ys #[.slice Az ys.length cz].toList) wr :=
                  (hO.far.mono (D' := fun b => w7.heap.size ≤ b ∧ some b ≠ vA.ownBlock) fun b _ hb => ⟨by omega, fun e => by have := hAlt b e.symm; omega⟩).imp fun w' h => ⟨_, rfl, h⟩
                go_wp2_with (at_builtin; refine wpList_app (T := rowsT) (v := vA) (xs := xa) (W := wr) (w0 := wo) (B := w7.heap.size) (D := fun b => w7.heap.size ≤ b) rfl (.tmp 100) (.tmp 102) 23 32 24 rfl elemIntss rfl ys #[.slice Az ys.length cz] wr.heap.size rfl rfl hA1 k2 k5 k3 k4 k1 ?_; intro v1 w1 hown hbel hgr hat; obtain ⟨Av, cv, rfl, _⟩ := hown.sl; have hb52 := hb51.grown hgr (fun e => Nat.lt_irrefl _ (Nat.lt_of_lt_of_le hb5lt7 (hAlt _ e.symm).1)); have hc52 := hb52.cell 2 (v := vA) rfl; have hf52 := hb52.frozen 2)
                go_roundw
                case rel =>
                  have hgs := hgr.size
                  have hkeep : ∀ b, b < wo.heap.size → b ≠ b5 → b < w7.heap.size → (w1.setCell ⟨b5, 2, none⟩ (.slice Av (xa.length + 1) cv)).heap[b]? = wo.heap[b]? := fun b h1 h2 h3 => by
                    rw [Below.heap_setCell _ _ _ _ (by simpa using h2), hbel.block b h3]
                  have hs1 : wo.heap.size ≤ (w1.setCell ⟨b5, 2, none⟩ (.slice Av (xa.length + 1) cv)).heap.size := by simp [World.setCell]; omega
                  try refine ⟨_, _, _, _, _, _, _, ?_, rfl, rfl, rfl, rfl, rfl, rfl, rfl⟩
                  refine ⟨k + 1, _, xa ++ [ys], by omega, by go_num, by simp [HXL.out], hb52.set 2 _, (by simpa using hown.setCell (p := ⟨b5, 2, none⟩) (by simp; omega) (.slice Av (xa.length + 1) cv)), ?_, ?_, ?_, by omega⟩
                  · exact (hv1.on hs1 fun b h1 h2 => hkeep b h1 h2.2.1 h2.2.2).mono fun b _ h => h.1
                  · exact (hv3.on hs1 fun b h1 h2 => hkeep b h1 h2.2.1 h2.2.2).mono fun b _ h => h.1
                  · exact (hW.trans (hbel.mono (by omega))).setCell (by simp; omega) _
                case measure => simp [intOf]; omega
          · obtain ⟨Av, cv, rfl, hAs⟩ := hA.sl
            have q50 := hb5.cell 0 (v := .slice A1 ts.length c1) rfl
            have q51 := hb5.cell 1 (v := .slice A3 ns.length c3) rfl
            have q52 := hb5.cell 2 (v := .slice Av xa.length cv) rfl
            have hb4r := hb4f.below hW
            have q0 := hb4r.cell 0 (v := .slice none 0 0) rfl
            have q1 := hb4r.cell 1 (v := .slice none 0 0) rfl
            have q2 := hb4r.cell 2 (v := .slice none 0 0) rfl
            have p0 := hb4r.frozen 0
            have p1 := hb4r.frozen 1
            have p2 := hb4r.frozen 2
            go_wp2
            have z := ((hb4r.set 0 (.slice A1 ts.length c1)).set 1 (.slice A3 ns.length c3)).set 2 (.slice Av xa.length cv)
            have z0 := z.cell 0 (v := .slice A1 ts.length c1) rfl
            have z1 := z.cell 1 (v := .slice A3 ns.length c3) rfl
            have z2 := z.cell 2 (v := .slice Av xa.length cv) rfl
            have hkeep : ∀ b, wf.heap.size ≤ b → (((wr.setCell ⟨w.heap.size + 1, 0, none⟩ (.slice A1 ts.length c1)).setCell ⟨w.heap.size + 1, 1, none⟩ (.slice A3 ns.length c3)).setCell ⟨w.heap.size + 1, 2, none⟩ (.slice Av xa.length cv)).heap[b]? = wr.heap[b]? := fun b hb => by
              rw [Below.heap_setCell _ _ _ _ (by simp; omega), Below.heap_setCell _ _ _ _ (by simp; omega), Below.heap_setCell _ _ _ _ (by simp; omega)]
            have hs1 : wr.heap.size ≤ (((wr.setCell ⟨w.heap.size + 1, 0, none⟩ (.slice A1 ts.length c1)).setCell ⟨w.heap.size + 1, 1, none⟩ (.slice A3 ns.length c3)).setCell ⟨w.heap.size + 1, 2, none⟩ (.slice Av xa.length cv)).heap.size := by simp [World.setCell]
            exact bodyPost_ret (v := .tuple #[.agg #[.slice A1 ts.length c1, .slice A3 ns.length c3, .slice Av xa.length cv], .int .i64 0]) (by simp [results, Try.results66, go_sem, z0, z1, z2]) rfl
              ⟨_, ⟨ts, ns, xa⟩, _, rfl, ⟨_, _, _, rfl, (hv1.on hs1 fun b _ h => hkeep b h.1).now, (hv3.on hs1 fun b _ h => hkeep b h.1).now, (hA.far.on hs1 fun b _ h => hkeep b (Nat.le_trans hB7w.size h)).now⟩, (((below2 hWF hW).setCell (by simp) _).setCell (by simp) _).setCell (by simp) _, fun _ => HR0.out.2.2 y3.out⟩
end Go.Proofs.Ytigbfankkmmnbaa
