/- bag.add: the walk. -/
import Derived.Test.YtgjobbapnileiaaIns
import Derived.Test.YtgjobbapnileiaaBs
set_option linter.unusedVariables false
set_option linter.unusedSimpArgs false
namespace Go.Proofs.Ytgjobbapnileiaa
open Go.RowKit Gk

theorem IL.one {w : World} {u : Value} {x : List Int} (h : IL w u x) : u.oneCell' = true := by
  obtain ⟨A, c, rfl, _⟩ := h.sl
  rfl
theorem IL.some {w : World} {u : Value} {x : List Int} (h : IL w u x) : u = .slice none 0 0 ∨ ∃ ad n c, u = .slice (some ad) n c := by
  obtain ⟨css, ⟨g1, g2⟩, _⟩ := h
  rcases g2 with ⟨rfl, _⟩ | ⟨g, cap, cur, rfl, _⟩
  · exact .inl rfl
  · exact .inr ⟨_, _, _, rfl⟩
theorem grown_drew (w : World) (row : Option Nat) : w.grownBy w.drew row := ⟨rfl, rfl, rfl, Nat.le_refl _, fun _ _ _ => rfl⟩
set_option maxHeartbeats 1000000 in
theorem insert_calls (B N i : Nat) (v u : Value) (l : List (List Int)) (x : List Int) (w : World) (h : Bag B w v l) (hi : i ≤ l.length) (hN : Box w N #[u] 34) (hx : IL w u x) (hvN : v.ownBlock ≠ some N) (hl : l.length ≤ 1000000) (hB : B ≤ w.heap.size) :
    Calls Try.prog 37 #[v, .int .i64 i, .slice (some ⟨N, 0, none⟩) 1 1] w fun e w' =>
      ∃ v', e = .returned v' ∧ Bag B w' v' (insAt l i x) ∧ w.grownBy w' v.ownBlock ∧ (v'.ownBlock = v.ownBlock ∨ ∃ k, v'.ownBlock = some k ∧ w.heap.size ≤ k) ∧ KI w w' := by
  have hni := h.notInt
  obtain ⟨us, ho, hlb, hel⟩ := h
  have hul : l.length = us.length := by have := ho.1; omega
  have h1u := hx.one
  have h1c : ∀ v ∈ us, v.oneCell' = true := fun v hv => by
    obtain ⟨j, hj, rfl⟩ := List.mem_iff_getElem.1 hv
    obtain ⟨u', hu', hi'⟩ := hel j l[j] (List.getElem?_eq_getElem (by omega))
    rw [List.getElem?_eq_getElem hj] at hu'; injection hu' with hu'; rw [hu']; exact hi'.one
  have hel' := insAt_get (R := fun a b => IL w b a) hul hel hi (x := x) (y := u) hx
  have hli := insAt_length (x := x) hi
  have hLB : (insAt l i x).length ≤ LB := by rw [hli]; unfold LB; omega
  by_cases hin : i = l.length
  · subst hin
    refine (ins_end B N l.length v u us w ho hN h1u hB hl).mono ?_
    rintro e w' ⟨v', rfl, ho', hg, hat⟩
    have hki := KI.grown hg hni
    refine ⟨v', rfl, ⟨insAt us l.length u, ?_, hLB, fun j a ha => ?_⟩, hg, ?_, hki⟩
    · rw [hli, hul, insAt_end]; rw [hul] at ho'; exact ho'
    · obtain ⟨b, hb, hr⟩ := hel' j a ha; exact ⟨b, hb, hr.ki hki⟩
    · rcases hat with hat | hat
      · exact .inl hat
      · exact .inr ⟨_, hat, Nat.le_refl _⟩
  · rcases ho.2 with ⟨rfl, h0⟩ | ⟨g, cap, cur, rfl, r1, r2, r3, r4, r5, r6⟩
    · omega
    · have hcc : ∀ j v, us[j]? = some v → w.cell? ⟨g, j, none⟩ = some v := fun j v hj => by
        rw [ho.cellAt j (by have := (List.getElem?_eq_some_iff.1 hj).1; omega)]; exact hj
      have hdl : (us.drop i).length = l.length - i := by rw [List.length_drop]; omega
      by_cases hroom : l.length + 1 ≤ cap
      · have hNg : N ≠ g := fun e => hvN (by simp [Value.ownBlock, e])
        refine (ins_shift g l.length cap i N cur us u w r2 hN hNg (by omega) hroom (by omega) (by simp only [maxLen] at r4; omega) hul.symm (by simpa using r6) h1c h1u).mono ?_
        rintro e w' ⟨rfl, rfl⟩
        obtain ⟨cur1, hc1, hl1⟩ := heap_setCells g (us.drop i) (i + 1) w.drew cur _ _ r2
        obtain ⟨cur2, hc2, hl2⟩ := heap_setCells g [u] i _ cur1 _ _ hc1
        have hg1 : w.grownBy ((w.drew.setCells g (i + 1) (us.drop i)).setCells g i [u]) (some g) := ((grown_drew w _).trans (grown_setCells g _ _ _)).trans (grown_setCells g _ _ _)
        have hki := KI.grown hg1 hni
        have hcurl : cur.toList.length = cap := by simp; omega
        have e1 : cur1.toList = cur.toList.take (i + 1) ++ us.drop i ++ cur.toList.drop (i + 1 + (us.drop i).length) := by rw [hl1, over_eq _ _ _ (by omega)]
        have e2 : cur2.toList = cur1.toList.take i ++ [u] ++ cur1.toList.drop (i + 1) := by
          rw [hl2, over_eq _ _ _ (by rw [e1]; simp only [List.length_append, List.length_take, List.length_drop, List.length_cons, List.length_nil]; omega)]; rfl
        have e3 : cur2.toList.length = cap := by
          rw [e2, e1]; simp only [List.length_append, List.length_take, List.length_drop, List.length_cons, List.length_nil, hcurl]; omega
        have hti : (cur.toList.take (i + 1)).length = i + 1 := by rw [List.length_take]; omega
        have e4 : cur1.toList.drop (i + 1) = us.drop i ++ cur.toList.drop (i + 1 + (us.drop i).length) := by rw [e1, List.append_assoc, List.drop_left' hti]
        have e5 : cur1.toList.take i = us.take i := by
          rw [e1, List.append_assoc, List.take_append_of_le_length (by omega), List.take_take, Nat.min_eq_left (by omega), ← r6, List.take_take, Nat.min_eq_left (by omega)]
        have e6 : cur2.toList.take (l.length + 1) = insAt us i u := by
          rw [e2, e4, e5]
          have : us.take i ++ [u] ++ (us.drop i ++ cur.toList.drop (i + 1 + (us.drop i).length)) = insAt us i u ++ cur.toList.drop (i + 1 + (us.drop i).length) := by simp [insAt]
          rw [this]
          exact List.take_left' (by rw [insAt_length (by omega)]; omega)
        refine ⟨_, rfl, ⟨insAt us i u, ⟨by rw [insAt_length (by omega)]; omega, .inr ⟨g, cap, cur2, by rw [hli], r1, hc2, by omega, r4, by rw [← e3]; simp, by rw [hli, Nat.mul_one]; exact e6⟩⟩, hLB, fun j a ha => ?_⟩, hg1, .inl rfl, hki⟩
        obtain ⟨b, hb, hr⟩ := hel' j a ha; exact ⟨b, hb, hr.ki hki⟩
      · have hgw := (Array.getElem?_eq_some_iff.1 r2).1
        refine (ins_grow g l.length cap i N us u w hgw hN.lt (by omega) r3 (by omega) hl hul.symm hcc hN h1c h1u).mono ?_
        rintro e w' ⟨rfl, rfl⟩
        have hge := grownCap_ge w (l.length + 1) cap 34
        have hle := grownCap_le_maxLen w (l.length + 1) cap 34 (by simp only [maxLen]; omega)
        generalize grownCap w (l.length + 1) cap 34 = G at hge hle
        generalize hROW : (us.take i).toArray ++ Builtin.zeroCells (Value.slice none 0 0).cells (l.length + 1 - i) ++ Builtin.zeroCells (Value.slice none 0 0).cells (G - (l.length + 1)) = ROW
        have hRs : ROW.size = G := by
          rw [← hROW]; simp only [Array.size_append, List.size_toArray, size_zeroCells, List.length_take, Value.cells]; simp; omega
        have hRt : ROW.toList.take i = us.take i := by
          rw [← hROW]; simp only [Array.toList_append, List.append_assoc]
          exact List.take_left' (by simp; omega)
        have hw0 : (w.alloc (.cells ROW 34)).drew.heap[w.heap.size]? = some (Obj.cells ROW 34 (0, 0)) := heap_alloc_new w _
        obtain ⟨cur1, hc1, hl1⟩ := heap_setCells w.heap.size [u] i _ ROW _ _ hw0
        obtain ⟨cur2, hc2, hl2⟩ := heap_setCells w.heap.size (us.drop i) (i + 1) (((w.alloc (.cells ROW 34)).drew.setCells w.heap.size i [u]).drew) cur1 _ _ hc1
        have hRl : ROW.toList.length = G := by simpa using hRs
        have e1 : cur1.toList = ROW.toList.take i ++ [u] ++ ROW.toList.drop (i + 1) := by rw [hl1, over_eq _ _ _ (by simp; omega)]; rfl
        have e10 : cur1.toList.length = G := by rw [e1]; simp only [List.length_append, List.length_take, List.length_drop, List.length_cons, List.length_nil, hRl]; omega
        have e2 : cur2.toList = cur1.toList.take (i + 1) ++ us.drop i ++ cur1.toList.drop (i + 1 + (us.drop i).length) := by rw [hl2, over_eq _ _ _ (by omega)]
        have e20 : cur2.toList.length = G := by rw [e2]; simp only [List.length_append, List.length_take, List.length_drop, e10]; omega
        have e3 : cur1.toList.take (i + 1) = us.take i ++ [u] := by
          rw [e1, hRt]; exact List.take_left' (by simp; omega)
        have e6 : cur2.toList.take (l.length + 1) = insAt us i u := by
          rw [e2, e3]
          have : us.take i ++ [u] ++ us.drop i = insAt us i u := by simp [insAt]
          rw [this]
          exact List.take_left' (by rw [insAt_length (by omega)]; omega)
        have hgr : w.grownBy (((w.alloc (.cells ROW 34)).drew.setCells w.heap.size i [u]).drew.setCells w.heap.size (i + 1) (us.drop i)) (Value.ownBlock (.slice (some ⟨g, 0, none⟩) l.length cap)) := by
          obtain ⟨s1, s2, s3, s4⟩ := size_setCells w.heap.size [u] i (w.alloc (.cells ROW 34)).drew
          obtain ⟨t1, t2, t3, t4⟩ := size_setCells w.heap.size (us.drop i) (i + 1) ((w.alloc (.cells ROW 34)).drew.setCells w.heap.size i [u]).drew
          refine ⟨by rw [t2]; exact s2, by rw [t3]; exact s3, by rw [t4]; exact s4, ?_, fun k hk _ => ?_⟩
          · rw [t1]; show _ ≤ (World.setCells _ _ _ _).heap.size; rw [s1]; simp [World.drew]
          · rw [heap_setCells_other _ _ _ _ k (by omega)]
            show (World.setCells _ _ _ _).heap[k]? = _
            rw [heap_setCells_other _ _ _ _ k (by omega)]
            exact heap_alloc_old w _ hk
        have hki := KI.grown hgr hni
        refine ⟨_, rfl, ⟨insAt us i u, ⟨by rw [insAt_length (by omega)]; omega, .inr ⟨w.heap.size, G, cur2, by rw [hli], hB, hc2, by omega, hle, by rw [← e20]; simp, by rw [hli, Nat.mul_one]; exact e6⟩⟩, hLB, fun j a ha => ?_⟩, hgr, .inr ⟨_, rfl, Nat.le_refl _⟩, hki⟩
        obtain ⟨b, hb, hr⟩ := hel' j a ha; exact ⟨b, hb, hr.ki hki⟩
/-- what add does to the heap -/
structure AddEff (w w' : World) (pb : Nat) (own : Option Nat) : Prop where
  os : w'.os = w.os
  tape : w'.tape = w.tape
  output : w'.output = w.output
  ki : KI w w'
  block : ∀ c, c < w.heap.size → c ≠ pb → some c ≠ own → w'.heap[c]? = w.heap[c]?
def addEnd (B : Nat) (l : List (List Int)) (x : List Int) (pb pi : Nat) (pcs : Array Value) (t : TypeId) (v : Value) (w : World) (e : Ending) (w' : World) : Prop :=
  ∃ v', e = .returned (.bool (decide (x ∉ l))) ∧ Box w' pb (pcs.setIfInBounds pi v') t ∧ Bag B w' v' (insS l x) ∧ AddEff w w' pb v.ownBlock ∧ (v'.ownBlock = v.ownBlock ∨ ∃ k, v'.ownBlock = some k ∧ w.heap.size ≤ k)
theorem set_same {α : Type} {a : Array α} {i : Nat} {v : α} (h : a[i]? = some v) : a.setIfInBounds i v = a := by
  apply Array.ext_getElem?
  intro j
  rw [Array.getElem?_setIfInBounds]
  split
  · rename_i e; subst e; rw [if_pos (Array.getElem?_eq_some_iff.1 h).1, h]
  · rfl
set_option maxHeartbeats 1000000 in
theorem add_calls (B pb pi : Nat) (pcs : Array Value) (t : TypeId) (v u : Value) (l : List (List Int)) (x : List Int) (w : World) (hp : Box w pb pcs t) (ht : t ≠ 3) (hv : pcs[pi]? = some v) (h : Bag B w v l) (hx : IL w u x) (hs : Srt l) (hvp : v.ownBlock ≠ some pb) (hl : l.length ≤ 1000000) (hB : B ≤ w.heap.size) :
    Calls Try.prog 20 #[.pointer (some ⟨pb, pi, none⟩), u] w (addEnd B l x pb pi pcs t v w) := by
  have hsl := h.sl
  have hxs := hx.sl
  have hcell := hp.cell pi hv
  have hfr := hp.frozen pi
  obtain ⟨A, c, rfl, hc, hcm, hlb, _⟩ := id hsl
  obtain ⟨A2, c2, rfl, hc2, hcm2, hlb2, _⟩ := id hxs
  unfold LB at hlb hlb2
  have HH := Lib.hid (And.intro hp (And.intro h (And.intro hx (And.intro hs (And.intro hsl hxs)))))
  clear hp h hx hs hsl hxs
  have hlt := HH.out.1.lt
  go_enter Try.func20, Try.ntmps20
  by_cases hm : x ∈ l
  · go_wp2_with (go_at_call 35; refine (bsearch_calls _ _ l x _ HH.out.2.2.2.2.1 HH.out.2.2.2.2.2 HH.out.2.2.2.1 hl).mono ?_; rw [decide_eq_true hm]; rintro e w1 ⟨rfl, hb⟩)
    go_ret
    refine ⟨_, by rw [decide_eq_false (fun h => h hm)]; rfl, by rw [set_same hv]; exact HH.out.1.below hb, by rw [insS_old hm]; exact HH.out.2.1.below hb, ⟨hb.os, hb.tape, hb.output, KI.below hb, fun c hc _ _ => hb.block c hc⟩, .inl rfl⟩
  · go_wp2_with (first | (go_at_call 35; refine (bsearch_calls _ _ l x _ HH.out.2.2.2.2.1 HH.out.2.2.2.2.2 HH.out.2.2.2.1 hl).mono ?_; rw [decide_eq_false hm]; rintro e w1 ⟨rfl, hb⟩; have hp1 := Lib.hid (HH.out.1.below hb); have hcell1 := hp1.out.cell pi hv; have hbs := hb.size; have hba := (Below.refl w1.heap.size w1).alloc (Nat.le_refl _) (.cells #[.slice A2 x.length c2] 34)) | (go_at_call 37; refine (insert_calls B w1.heap.size (posP l x) _ _ l x _ ((HH.out.2.1.below hb).below hba) (posP_le l x) (Box.new w1 _ _) ((HH.out.2.2.1.ki (KI.below hb)).ki (KI.below hba)) (fun e => by have := (HH.out.2.1.lt _ e).2; omega) hl (by have := hba.size; omega)).mono ?_; rintro e w3 ⟨v', rfl, hB3, hg3, hat3, hki3⟩; obtain ⟨A3, c3, rfl, _, _, _, _⟩ := id hB3.sl; have hp3 := Lib.hid ((hp1.out.below hba).grown hg3 (fun e => hvp e.symm)); have hcell3 := hp3.out.cell pi hv; have hfr3 := hp3.out.frozen pi))
    go_ret
    have hki : KI w w3 := (KI.below hb).trans ((KI.below hba).trans hki3)
    have hs3 := hg3.size
    have hsa := hba.size
    generalize hv' : Value.slice A3 (insAt l (posP l x) x).length c3 = v' at hat3 hB3 ⊢
    refine ⟨v', by rw [decide_eq_true hm]; rfl, hp3.out.set pi v', ?_, ⟨hg3.os.trans (hba.os.trans hb.os), hg3.tape.trans (hba.tape.trans hb.tape), hg3.output.trans (hba.output.trans hb.output), hki.trans (KI.set hp3.out ht pi v'), fun c hc h1 h2 => ?_⟩, ?_⟩
    · rw [insS_new hm]
      refine hB3.keep (KI.set hp3.out ht pi v') fun g hg => Below.heap_setCell w3 ⟨pb, pi, none⟩ v' g ?_
      rintro rfl
      rcases hat3 with h1 | ⟨k, h1, h2⟩
      · exact hvp (h1.symm.trans hg)
      · rw [hg] at h1; injection h1 with h1; omega
    · rw [Below.heap_setCell w3 ⟨pb, pi, none⟩ v' c h1, hg3.block c (by omega) h2, hba.block c (by omega), hb.block c hc]
    · rcases hat3 with h1 | ⟨k, h1, h2⟩
      · exact .inl h1
      · exact .inr ⟨k, h1, by omega⟩
end Go.Proofs.Ytgjobbapnileiaa
