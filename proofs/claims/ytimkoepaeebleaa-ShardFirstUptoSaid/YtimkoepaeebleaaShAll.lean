/- A table's All: the names that have a value, in order, behind a closure. -/
import Derived.Test.YtimkoepaeebleaaShTold
import Derived.Test.YtimkoepaeebleaaShLay
import Derived.Test.YtimkoepaeebleaaShSort
namespace Go.Proofs.Ytimkoepaeebleaa
open Go.RowKit Go.Shelf Go.Maps
attribute [local go_sem] Oper.semAt_some

/-- The names of a map in order, each with its value. -/
def sortedOf (M : List (ByteArray × Int)) : List (ByteArray × Int) := ((M.map (fun p => p.1.data.toList)).mergeSort leB).map fun k => (⟨k.toArray⟩, (mget M ⟨k.toArray⟩).getD 0)
theorem sortedOf_len (M : List (ByteArray × Int)) : (sortedOf M).length = M.length := by simp [sortedOf]
theorem sortedOf_get {M : List (ByteArray × Int)} {p : ByteArray × Int} (hp : p ∈ sortedOf M) : mget M p.1 = some p.2 := by
  obtain ⟨k, hk, rfl⟩ := List.mem_map.1 hp
  have hk' : k ∈ M.map (fun p => p.1.data.toList) := (List.mergeSort_perm _ _).mem_iff.1 hk
  obtain ⟨q, hq, rfl⟩ := List.mem_map.1 hk'
  have e : (⟨q.1.data.toList.toArray⟩ : ByteArray) = q.1 := by simp
  simp only [e]
  cases h : mget M q.1 with
  | some v => rfl
  | none => exact absurd rfl (mget_none h q hq)
def AllPost (w : World) (M : List (ByteArray × Int)) (e : Ending) (w' : World) : Prop :=
  ∃ Bn Bv, e = .returned (.func (.func 50) #[] #[.pointer (some ⟨Bn, 0, none⟩), .pointer (some ⟨Bv, 0, none⟩)]) ∧ AllAt w'.heap.size w' Bn Bv (sortedOf M) ∧ Below w.heap.size w w'
theorem infoStr : (Try.prog.info? 9).map (fun i => (i.zero, i.size, i.bytes)) = some (some (.string ByteArray.empty), 1, 16) := by kernel_rfl

/-- What lies behind the sort: the closure has what it wants. -/
theorem allAt_mk {W : World} {base Bn Bv : Nat} {v : Value} {M : List (ByteArray × Int)} {ys : List (List UInt8)} (hperm : ys.Perm (M.map (fun p => p.1.data.toList))) (hv : Boxed W Bn 98 v) (hrow : W.ownsRow base 9 1 v ys.length ((ys.mergeSort leB).map encStr))
    (hV : M ≠ [] → ∃ b, b < W.heap.size ∧ W.cell? ⟨Bv, 0, none⟩ = some (.map (some b)) ∧ MapAt W b encK evI M) (hBv : Bv < W.heap.size) (hl : M.length ≤ 1000000) : AllAt W.heap.size W Bn Bv (sortedOf M) := by
  have hlen : ys.length = (sortedOf M).length := by rw [sortedOf_len, hperm.length_eq, List.length_map]
  obtain ⟨A, c, rfl⟩ := own_form hrow
  refine ⟨hv.lt, hBv, ⟨A, c, by rw [← hlen]; exact hv.cell, fun j p hp => ?_⟩, fun hne => ?_, by rw [sortedOf_len]; exact hl⟩
  · have hjl : j < ys.length := by rw [hlen]; exact (List.getElem?_eq_some_iff.1 hp).1
    rcases hrow.2 with ⟨_, h0⟩ | ⟨g, cap, cur, hvv, _, hb, hcap, _, hs, ht⟩
    · omega
    · simp only [Value.slice.injEq] at hvv
      obtain ⟨rfl, _, _⟩ := hvv
      refine ⟨g, 0, rfl, lt_of_heap hb, ?_⟩
      have hms : (ys.mergeSort leB) = (M.map (fun p => p.1.data.toList)).mergeSort leB := mergeSort_of_perm hperm
      have h1 : ((ys.mergeSort leB).map encStr)[j]? = some (.string p.1) := by
        rw [hms]
        have : ((M.map (fun p => p.1.data.toList)).mergeSort leB).map (fun k => (⟨k.toArray⟩, (mget M ⟨k.toArray⟩).getD 0)) = sortedOf M := rfl
        have h2 := congrArg (fun l => (l[j]?).map (fun q : ByteArray × Int => Value.string q.1)) this
        simp only [List.getElem?_map, hp, Option.map_map, Option.map_some] at h2
        rw [List.getElem?_map]
        exact h2
      rw [cell_of_heap hb, Nat.zero_add]
      rw [Nat.mul_one] at ht
      rw [← ht, List.getElem?_take, if_pos hjl] at h1
      simpa using h1
  · obtain ⟨b, hb, hc, hM⟩ := hV (fun e => hne (by rw [e]; simp [sortedOf]))
    exact ⟨b, M, hb, hc, hM, fun p hp => sortedOf_get hp⟩
set_option maxRecDepth 100000 in
set_option maxHeartbeats 2000000 in
theorem All_some (w : World) (bt b : Nat) (M : List (ByteArray × Int)) (hbt : bt < w.heap.size) (hc5 : w.cell? ⟨bt, 5, none⟩ = some (.map (some b))) (hM : MapAt w b encK evI M) (hk : ∀ p ∈ M, p.1.size ≤ 1048576) (hl : M.length ≤ 1000000) :
    Calls Try.prog 31 #[.pointer (some ⟨bt, 0, none⟩)] w (AllPost w M) := by
  obtain ⟨i0, hi, hz0, hz1, hz2⟩ := info_parts infoStr
  obtain ⟨es, clock, hb, hMr⟩ := hM
  have hbl : b < w.heap.size := lt_of_heap hb
  have hmm := @run_makeMap Try.prog
  have hcl : ∀ W : World, Below w.heap.size w W → CallsIn Fence.wide 5 Try.prog 47 #[.map (some b)] W fun e w' => e = .returned (.map (some W.heap.size)) ∧ w' = W.alloc (.map es clock) := fun W hW => callsIn_wide.2 (AnyW.maps_Clone cloneL b es clock W ((hW.block b hbl).trans hb))
  have hky : ∀ mb W, CallsIn Fence.wide 5 Try.prog 48 #[.map mb] W fun e w' => e = .returned (.func (.func 60) #[] #[.pointer (some ⟨W.heap.size, 0, none⟩)]) ∧ w' = W.alloc (.cells #[.map mb] 57) := fun mb W => AnyZ.keys_in keysL Fence.wide 5 trivial rfl mb W
  have hb2 : ∀ W : World, Below w.heap.size w W → W.cell? ⟨bt, 5, none⟩ = some (.map (some b)) := fun W hW => (hW.cell (p := ⟨bt, 5, none⟩) hbt).trans hc5
  have HCL := Lib.hid hcl
  have HKY := Lib.hid hky
  have HMR := Lib.hid hMr
  have hc6 : (((w.alloc (.cells #[.slice none 0 0] 98)).alloc (.map #[] 0)).alloc (.cells #[.map (some (w.heap.size + 1))] 57)).cell? ⟨bt, 5, none⟩ = some (.map (some b)) := hb2 _ (by (repeat (first | with_reducible exact Below.refl _ _ | (with_reducible refine bl_drew ?_) | (with_reducible refine bl_drewN ?_) | (with_reducible refine bl_alloc ?_ ?_; (focus (first | omega | (simp; done) | (simp; omega)))) | (with_reducible refine bl_set ?_ ?_; (focus (first | omega | (simp; done) | (simp; omega)))) | (with_reducible refine bl_trans ?_ (by assumption) ?_; (focus (first | omega | (simp; done) | (simp; omega)))))))
  clear hcl hky hMr hb2 hc5
  refine (callsIn_wide (n := 6)).1 ?_
  refine callsIn_of_wp_marks Try.func31 rfl trivial ?_ rfl
  simp only [Try.ntmps31, List.size_toArray, List.length_cons, List.length_nil, Nat.reduceAdd, Nat.reduceSub, Array.replicate_succ, Array.replicate_zero, List.push_toArray, List.append_toArray, List.nil_append, List.cons_append]
  gi_wp2
  refine ⟨trivial, ?_⟩
  refine (HCL.out _ (by (repeat (first | with_reducible exact Below.refl _ _ | (with_reducible refine bl_drew ?_) | (with_reducible refine bl_drewN ?_) | (with_reducible refine bl_alloc ?_ ?_; (focus (first | omega | (simp; done) | (simp; omega)))) | (with_reducible refine bl_set ?_ ?_; (focus (first | omega | (simp; done) | (simp; omega)))) | (with_reducible refine bl_trans ?_ (by assumption) ?_; (focus (first | omega | (simp; done) | (simp; omega)))))))).mono ?_
  rintro e w' ⟨rfl, rfl⟩
  gi_wp2
  refine ⟨trivial, ?_⟩
  refine (HKY.out _ _).mono ?_
  rintro e w' ⟨rfl, rfl⟩
  gi_wp2
  obtain ⟨W0, hW0⟩ : ∃ W0 : World, ((((w.alloc (.cells #[.slice none 0 0] 98)).alloc (.map #[] 0)).alloc (.cells #[.map (some (w.heap.size + 1 + 1 + 1))] 57)).alloc (.map es clock)).alloc (.cells #[.map (some (w.heap.size + 1 + 1 + 1))] 57) = W0 := ⟨_, rfl⟩
  have hz0w : W0.heap.size = w.heap.size + 5 := by rw [← hW0]; simp
  have hB0 : Below w.heap.size w W0 := by rw [← hW0]; (repeat (first | with_reducible exact Below.refl _ _ | (with_reducible refine bl_drew ?_) | (with_reducible refine bl_drewN ?_) | (with_reducible refine bl_alloc ?_ ?_; (focus (first | omega | (simp; done) | (simp; omega)))) | (with_reducible refine bl_set ?_ ?_; (focus (first | omega | (simp; done) | (simp; omega)))) | (with_reducible refine bl_trans ?_ (by assumption) ?_; (focus (first | omega | (simp; done) | (simp; omega))))))
  have bN : Boxed W0 w.heap.size 98 (.slice none 0 0) := by
    rw [← hW0]
    exact ((((Boxed.new w _ _).alloc _).alloc _).alloc _).alloc _
  have bV : Boxed W0 (w.heap.size + 2) 57 (.map (some (w.heap.size + 3))) := by
    rw [← hW0]
    have := ((Boxed.new ((w.alloc (.cells #[.slice none 0 0] 98)).alloc (.map #[] 0)) 57 (.map (some (w.heap.size + 3)))).alloc (.map es clock)).alloc (.cells #[.map (some (w.heap.size + 1 + 1 + 1))] 57)
    simpa using this
  have bK : Boxed W0 (w.heap.size + 4) 57 (.map (some (w.heap.size + 3))) := by
    rw [← hW0]
    have := Boxed.new ((((w.alloc (.cells #[.slice none 0 0] 98)).alloc (.map #[] 0)).alloc (.cells #[.map (some (w.heap.size + 1 + 1 + 1))] 57)).alloc (.map es clock)) 57 (.map (some (w.heap.size + 3)))
    simpa using this
  have hmp : W0.heap[w.heap.size + 3]? = some (.map es clock) := by
    rw [← hW0]
    have := World.alloc_heap_new (((w.alloc (.cells #[.slice none 0 0] 98)).alloc (.map #[] 0)).alloc (.cells #[.map (some (w.heap.size + 1 + 1 + 1))] 57)) (.map es clock)
    rw [World.size_alloc, World.size_alloc, World.size_alloc] at this
    exact (Below.heap_alloc _ _ _ (by simp)).trans this
  have hM0 : MapAt W0 (w.heap.size + 3) encK evI M := ⟨es, clock, hmp, HMR.out⟩
  obtain ⟨D0, hown, hperm, hsize⟩ := own_of_mapAt hM0 (fun p hp => by have := hk p hp; simp only [maxLen]; omega) (by simp only [maxLen]; omega)
  rw [hW0]
  refine wpIn_rangeFunc_ownF (F := Fence.wide) (n := 6) rfl (by omega) (gf := 60) (lb := #[.pointer (some ⟨w.heap.size + 4, 0, none⟩)]) rfl trivial (enters_of Try.func60 (by kernel_rfl) rfl)
    (AnyZ.keys_stops (ρ := keysL_ren) { keysL with } Fence.wide (6 - 1) trivial rfl (by omega) (w.heap.size + 4) (w.heap.size + 3) M.length D0 W0 (by omega) bK.cell hown) walksK_t walksK_b (Below.refl _ _) (fun _ => rfl)
    (fun pre W => (((∃ v, Boxed W w.heap.size 98 v ∧ W.ownsRow w.heap.size 9 1 v pre.length (pre.map encStr) ∧ True) ∧ Boxed W (w.heap.size + 2) 57 (.map (some (w.heap.size + 3)))) ∧ W.heap[w.heap.size + 3]? = some (.map es clock)) ∧ Below w.heap.size w W)
    (fun _ _ _ => False)
    (OwnFrom.and (OwnFrom.and (OwnFrom.and (Own.from (holdsRow_own w.heap.size w.heap.size 98 9 1 (fun pre : List (List UInt8) => pre.length) (fun pre : List (List UInt8) => pre.map encStr) (fun _ _ => True)) _) (Own.from (boxed_own _ _ _) _)) (fun s A B row hs hg hr => (hg.block _ (Array.getElem?_eq_some_iff.1 hs).1 (fun e => by have := (hr _ e.symm).1; omega)).trans hs)) (ownFrom_below (Nat.le_refl _) (by omega)))
    (fun _ _ _ _ _ hs _ _ => hs)
    ⟨⟨⟨⟨_, bN, World.ownsRow_nil _ _ _ _, trivial⟩, bV⟩, hmp⟩, hB0⟩
    (fun x => { tmps := #[.pointer (some ⟨bt, 0, none⟩), undef, .nilFunc, .pointer (some ⟨w.heap.size, 0, none⟩), .pointer (some ⟨w.heap.size + 1 + 1, 0, none⟩), encStr x, .map (some (w.heap.size + 1)), .pointer (some ⟨bt, 0, none⟩), .bool true, .pointer (some ⟨bt, 0, none⟩), .pointer (some ⟨bt, 0, none⟩), .pointer (some ⟨bt, 5, none⟩), .map (some b), .map (some (w.heap.size + 1 + 1 + 1)), .map (some (w.heap.size + 1 + 1 + 1)),
      .func (.func 60) #[] #[.pointer (some ⟨w.heap.size + 1 + 1 + 1 + 1, 0, none⟩)], encStr x, undef, undef, undef, undef, undef, undef, undef], defers := [] }) ?assign ?body ?done ?stop
  case assign =>
    intro l x W K hK
    gi_wp2
    exact hK
  case stop =>
    rintro D c pre W _ _ h _
    exact h.elim
  case body =>
    rintro l pre x W ⟨⟨⟨⟨v, hv, hrow, _⟩, hV⟩, hmW⟩, hB⟩ hlt
    have hc := hv.cell
    gi_wp2_with (gi_at_builtin; refine wpListIn_append_own _ rfl _ _ 98 rfl w.heap.size 9 i0 _ 1 16 Try.underlying98 hi hz0 hz1 hz2 rfl (by decide) _ _ _ rfl (hrow.alloc _) ⟨W.heap.size, 0, none⟩ 1 1 [encStr x] rfl rfl (cell_one_new _ _ _) (by simp [Value.oneCell']) (by simp only [maxLen]; omega) (by omega) (by have := hB.size; simp; omega) ?_; intro v' w1 hown' hgrow _; obtain ⟨g', cap', rfl⟩ := ownsRow_succ hown'; obtain ⟨hv1, hv2, hr2, hk2, hb2⟩ := hv.appended (by decide) hrow hB.size (Nat.le_refl _) hown' hgrow; have hc1 := hv1.cell; have hf1 := hv1.frozen)
    have hV2 : Boxed (w1.setCell ⟨w.heap.size, 0, none⟩ (.slice (some ⟨g', 0, none⟩) (pre.length + 1) cap')) (w.heap.size + 2) 57 (.map (some (w.heap.size + 3))) :=
      (((hV.alloc _).kept hgrow (hV.not_row (by decide) hrow))).other (by omega) _
    exact ⟨hk2, hk2.walks, ⟨⟨⟨⟨_, hv2, by simpa using hr2, trivial⟩, hV2⟩, hk2.same _ _ hmW rfl⟩, hB.trans hb2⟩⟩
  case done =>
    rintro D ys W hD ⟨hp2, _⟩ ⟨⟨⟨⟨v, hv, hrow, _⟩, hV⟩, hmW⟩, hB⟩ hK
    have hpy := hp2.trans hperm
    have hyl : ys.length = M.length := by rw [hpy.length_eq, List.length_map]
    have hc := hv.cell
    have HS := Lib.hid (callsIn_wide (n := 5).2 (Sort_own W w.heap.size v ys hrow (by omega)))
    gi_wp2
    refine ⟨trivial, ?_⟩
    refine HS.out.mono ?_
    rintro e W2 ⟨rfl, hrow2, hg2⟩
    have hKne : some D ≠ v.ownBlock := fun e => by
      obtain ⟨cur, hcur⟩ := own_type hrow D e.symm
      unfold Blk at hcur
      rw [hK] at hcur
      cases hcur
    have hK2 : W2.heap[D]? = some (.deferred (some [])) := (hg2.block D (Array.getElem?_eq_some_iff.1 hK).1 hKne).trans hK
    have hv2 := hv.kept hg2 (hv.not_row (by decide) hrow)
    have hV2 := hV.kept hg2 (hV.not_row (by decide) hrow)
    have hm2 : W2.heap[w.heap.size + 3]? = some (.map es clock) := (hg2.block _ (Array.getElem?_eq_some_iff.1 hmW).1 (fun e => by
      obtain ⟨cur, hcur⟩ := own_type hrow _ e.symm
      unfold Blk at hcur
      rw [hmW] at hcur
      cases hcur)).trans hmW
    have hB2 : Below w.heap.size w W2 := hB.grown hg2 hB.size (fun k e => (hrow.lt k e).1)
    gi_wp2
    refine ⟨by simp, .inl ⟨_, _, rfl, run_takeDeferred hK2, ?_⟩⟩
    refine ⟨_, results_tmp rfl _ _ _, w.heap.size, w.heap.size + 2, rfl, ?_, hB2.trans (belowK_b (w := W0) (by omega) W2 D _ _ hD hK2 rfl rfl)⟩
    have kp : ∀ k, k ≠ D → (W2.putObj D (.deferred none)).heap[k]? = W2.heap[k]? := fun k hk => World.putObj_heap_other hk
    refine allAt_mk hpy ((kp _ (by omega)).trans hv2) (ownsRow_putObj hrow2 _ hK2 rfl) (fun _ => ⟨w.heap.size + 3, ?_, ?_, es, clock, (kp _ (by omega)).trans hm2, HMR.out⟩) ?_ hl
    · have := lt_of_heap hm2
      simpa [World.putObj] using this
    · have hb : Boxed (W2.putObj D (.deferred none)) (w.heap.size + 2) 57 (.map (some (w.heap.size + 3))) := (kp _ (by omega)).trans hV2
      exact hb.cell
    · have := hV2.lt
      simpa [World.putObj] using this
end Go.Proofs.Ytimkoepaeebleaa
