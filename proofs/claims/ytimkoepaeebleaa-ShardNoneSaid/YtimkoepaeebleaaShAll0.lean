/- A table's All where there is no table, or none that a call made. -/
import Derived.Test.YtimkoepaeebleaaShAll
namespace Go.Proofs.Ytimkoepaeebleaa
open Go.RowKit Go.Shelf Go.Maps
attribute [local go_sem] Oper.semAt_some


set_option maxRecDepth 100000 in
set_option maxHeartbeats 2000000 in
theorem All_none (w : World) (bt : Nat) (hbt : bt < w.heap.size) (hc5 : w.cell? ⟨bt, 5, none⟩ = some (.map none)) :
    Calls Try.prog 31 #[.pointer (some ⟨bt, 0, none⟩)] w (AllPost w []) := by
  have hmm := @run_makeMap Try.prog
  have hcl : ∀ W : World, CallsIn Fence.wide 5 Try.prog 47 #[.map none] W fun e w' => e = .returned (.map none) ∧ w' = W := fun W => callsIn_wide.2 (AnyW.maps_Clone_nil cloneL W)
  have hky : ∀ mb W, CallsIn Fence.wide 5 Try.prog 48 #[.map mb] W fun e w' => e = .returned (.func (.func 60) #[] #[.pointer (some ⟨W.heap.size, 0, none⟩)]) ∧ w' = W.alloc (.cells #[.map mb] 57) := fun mb W => AnyZ.keys_in keysL Fence.wide 5 trivial rfl mb W
  have hb2 : ∀ W : World, Below w.heap.size w W → W.cell? ⟨bt, 5, none⟩ = some (.map none) := fun W hW => (hW.cell (p := ⟨bt, 5, none⟩) hbt).trans hc5
  have HCL := Lib.hid hcl
  have HKY := Lib.hid hky
  have hc6 : (((w.alloc (.cells #[.slice none 0 0] 98)).alloc (.map #[] 0)).alloc (.cells #[.map (some (w.heap.size + 1))] 57)).cell? ⟨bt, 5, none⟩ = some (.map none) := hb2 _ (by (repeat (first | with_reducible exact Below.refl _ _ | (with_reducible refine bl_drew ?_) | (with_reducible refine bl_drewN ?_) | (with_reducible refine bl_alloc ?_ ?_; (focus (first | omega | (simp; done) | (simp; omega)))) | (with_reducible refine bl_set ?_ ?_; (focus (first | omega | (simp; done) | (simp; omega)))) | (with_reducible refine bl_trans ?_ (by assumption) ?_; (focus (first | omega | (simp; done) | (simp; omega)))))))
  clear hcl hky hb2 hc5
  refine (callsIn_wide (n := 6)).1 ?_
  refine callsIn_of_wp_marks Try.func31 rfl trivial ?_ rfl
  simp only [Try.ntmps31, List.size_toArray, List.length_cons, List.length_nil, Nat.reduceAdd, Nat.reduceSub, Array.replicate_succ, Array.replicate_zero, List.push_toArray, List.append_toArray, List.nil_append, List.cons_append]
  gi_wp2
  refine ⟨trivial, ?_⟩
  refine (HCL.out _).mono ?_
  rintro e w' ⟨rfl, rfl⟩
  gi_wp2
  refine ⟨trivial, ?_⟩
  refine (HKY.out _ _).mono ?_
  rintro e w' ⟨rfl, rfl⟩
  gi_wp2
  (obtain ⟨W0, hW0⟩ : ∃ W0 : World, ((((w.alloc (.cells #[.slice none 0 0] 98)).alloc (.map #[] 0)).alloc (.cells #[.map none] 57)).alloc (.cells #[.map none] 57)) = W0 := ⟨_, rfl⟩)
  have hz0w : W0.heap.size = w.heap.size + 4 := by rw [← hW0]; simp
  have hB0 : Below w.heap.size w W0 := by rw [← hW0]; (repeat (first | with_reducible exact Below.refl _ _ | (with_reducible refine bl_drew ?_) | (with_reducible refine bl_drewN ?_) | (with_reducible refine bl_alloc ?_ ?_; (focus (first | omega | (simp; done) | (simp; omega)))) | (with_reducible refine bl_set ?_ ?_; (focus (first | omega | (simp; done) | (simp; omega)))) | (with_reducible refine bl_trans ?_ (by assumption) ?_; (focus (first | omega | (simp; done) | (simp; omega))))))
  have bN : Boxed W0 w.heap.size 98 (.slice none 0 0) := by
    rw [← hW0]
    exact (((Boxed.new w _ _).alloc _).alloc _).alloc _
  have bV : Boxed W0 (w.heap.size + 2) 57 (.map none) := by
    rw [← hW0]
    have := ((Boxed.new ((w.alloc (.cells #[.slice none 0 0] 98)).alloc (.map #[] 0)) 57 (.map none))).alloc (.cells #[.map none] 57)
    simpa using this
  have bK : Boxed W0 (w.heap.size + 3) 57 (.map none) := by
    rw [← hW0]
    have := Boxed.new (((w.alloc (.cells #[.slice none 0 0] 98)).alloc (.map #[] 0)).alloc (.cells #[.map none] 57)) 57 (.map none)
    simpa using this
  skip
  rw [hW0]
  refine wpIn_rangeFunc_ownF (F := Fence.wide) (n := 6) rfl (by omega) (gf := 60) (lb := #[.pointer (some ⟨w.heap.size + 3, 0, none⟩)]) rfl trivial (enters_of Try.func60 (by kernel_rfl) rfl)
    (AnyZ.keys_stops_nil (ρ := keysL_ren) { keysL with } Fence.wide (6 - 1) trivial rfl (w.heap.size + 3) W0 (by omega) bK.cell) walksK_t walksK_b (Below.refl _ _) (fun _ => rfl)
    (fun pre W => ((Boxed W w.heap.size 98 (.slice none 0 0) ∧ pre = []) ∧ Boxed W (w.heap.size + 2) 57 (.map none)) ∧ Below w.heap.size w W)
    (fun _ _ _ => False)
    (OwnFrom.and (OwnFrom.and (OwnFrom.and (Own.from (boxed_own _ _ _) _) (ownFrom_pure _ _)) (Own.from (boxed_own _ _ _) _)) (ownFrom_below (Nat.le_refl _) (by omega)))
    (fun _ _ _ _ _ hs _ _ => hs)
    ⟨⟨⟨bN, rfl⟩, bV⟩, hB0⟩
    (fun x => { tmps := #[.pointer (some ⟨bt, 0, none⟩), undef, .nilFunc, .pointer (some ⟨w.heap.size, 0, none⟩), .pointer (some ⟨w.heap.size + 1 + 1, 0, none⟩), encStr x, .map (some (w.heap.size + 1)), .pointer (some ⟨bt, 0, none⟩), .bool true, .pointer (some ⟨bt, 0, none⟩), .pointer (some ⟨bt, 0, none⟩), .pointer (some ⟨bt, 5, none⟩), .map none, .map none, .map none,
        .func (.func 60) #[] #[.pointer (some ⟨w.heap.size + 1 + 1 + 1, 0, none⟩)], encStr x, undef, undef, undef, undef, undef, undef, undef], defers := [] }) ?assign ?body ?done ?stop
  case assign =>
    intro l x W K hK
    gi_wp2
    exact hK
  case stop =>
    rintro D c pre W _ _ h _
    exact h.elim
  case body =>
    rintro l pre x W _ hlt
    omega
  case done =>
    rintro D ys W hD _ ⟨⟨⟨hv, rfl⟩, hV⟩, hB⟩ hK
    have hc := hv.cell
    have HS := Lib.hid (callsIn_wide (n := 5).2 (Sort_own W w.heap.size (.slice none 0 0) [] (World.ownsRow_nil _ _ _ _) (by simp)))
    gi_wp2
    refine ⟨trivial, ?_⟩
    refine HS.out.mono ?_
    rintro e W2 ⟨rfl, hrow2, hg2⟩
    have hK2 : W2.heap[D]? = some (.deferred (some [])) := (hg2.block D (Array.getElem?_eq_some_iff.1 hK).1 (by simp [Value.ownBlock])).trans hK
    have hv2 := hv.kept hg2 (by simp [Value.ownBlock])
    have hV2 := hV.kept hg2 (by simp [Value.ownBlock])
    have hB2 : Below w.heap.size w W2 := hB.grown hg2 hB.size (fun k e => by simp [Value.ownBlock] at e)
    gi_wp2
    refine ⟨by simp, .inl ⟨_, _, rfl, run_takeDeferred hK2, ?_⟩⟩
    refine ⟨_, results_tmp rfl _ _ _, w.heap.size, w.heap.size + 2, rfl, ?_, hB2.trans (belowK_b (w := W0) (by omega) W2 D _ _ hD hK2 rfl rfl)⟩
    have kp : ∀ k, k ≠ D → (W2.putObj D (.deferred none)).heap[k]? = W2.heap[k]? := fun k hk => World.putObj_heap_other hk
    refine allAt_mk (base := w.heap.size) (ys := []) (List.Perm.refl _) ((kp _ (by omega)).trans hv2) (by simpa using World.ownsRow_nil _ _ _ _) (fun h => absurd rfl h) ?_ (by simp)
    have := hV2.lt
    simpa [World.putObj] using this

set_option maxRecDepth 100000 in
set_option maxHeartbeats 2000000 in
theorem All_nil (w : World) : Calls Try.prog 31 #[.pointer none] w (AllPost w []) := by
  have hmm := @run_makeMap Try.prog
  refine (callsIn_wide (n := 6)).1 ?_
  refine callsIn_of_wp_marks Try.func31 rfl trivial ?_ rfl
  simp only [Try.ntmps31, List.size_toArray, List.length_cons, List.length_nil, Nat.reduceAdd, Nat.reduceSub, Array.replicate_succ, Array.replicate_zero, List.push_toArray, List.append_toArray, List.nil_append, List.cons_append]
  gi_wp2
  refine ⟨_, results_tmp rfl _ _ _, w.heap.size, w.heap.size + 2, rfl, ?_, (by (repeat (first | with_reducible exact Below.refl _ _ | (with_reducible refine bl_drew ?_) | (with_reducible refine bl_drewN ?_) | (with_reducible refine bl_alloc ?_ ?_; (focus (first | omega | (simp; done) | (simp; omega)))) | (with_reducible refine bl_set ?_ ?_; (focus (first | omega | (simp; done) | (simp; omega)))) | (with_reducible refine bl_trans ?_ (by assumption) ?_; (focus (first | omega | (simp; done) | (simp; omega)))))))⟩
  refine allAt_mk (base := w.heap.size) (ys := []) (List.Perm.refl _) (((Boxed.new w _ _).alloc _).alloc _) (by simpa using World.ownsRow_nil _ _ _ _) (fun h => absurd rfl h) (by simp) (by simp)
end Go.Proofs.Ytimkoepaeebleaa
