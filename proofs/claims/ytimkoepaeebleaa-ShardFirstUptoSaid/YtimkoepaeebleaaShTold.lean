/- told: the names that an iterator tells, and their values, at most so many. -/
import Derived.Test.YtimkoepaeebleaaShSeq
namespace Go.Proofs.Ytimkoepaeebleaa
open Go.RowKit Go.Shelf
attribute [local go_sem] Oper.semAt_some

def rowC (p : ByteArray × Int) : List Value := [.string p.1, .int .i64 p.2, .bool false]
theorem rowC_len (p : ByteArray × Int) : (rowC p).length = 3 := rfl
def ToldPost (w : World) (ps : List (ByteArray × Int)) (most : Nat) (e : Ending) (w' : World) : Prop :=
  ∃ v, e = .returned v ∧ w'.ownsRow w.heap.size 55 3 v (min most ps.length) ((ps.take most).flatMap rowC) ∧ Below w.heap.size w w'
theorem infoRow : (Try.prog.info? 55).map (fun i => (i.zero, i.size, i.bytes)) = some (some (.agg #[.string ByteArray.empty, .int .i64 0, .bool false]), 3, 32) := by kernel_rfl

set_option maxRecDepth 100000 in
set_option maxHeartbeats 2000000 in
theorem told_any (Bn Bv n₀ : Nat) (ps : List (ByteArray × Int)) (most : Nat) (w : World) (hn₀ : n₀ ≤ w.heap.size) (hA : AllAt n₀ w Bn Bv ps) (hm : most ≤ 1000000) :
    Calls Try.prog 30 #[.func (.func 50) #[] #[.pointer (some ⟨Bn, 0, none⟩), .pointer (some ⟨Bv, 0, none⟩)], .int .i64 most] w (ToldPost w ps most) := by
  obtain ⟨i0, hi, hz0, hz1, hz2⟩ := info_parts infoRow
  refine (callsIn_wide (n := 4)).1 ?_
  refine callsIn_of_wp_marks Try.func30 rfl trivial ?_ rfl
  simp only [Try.ntmps30, List.size_toArray, List.length_cons, List.length_nil, Nat.reduceAdd, Nat.reduceSub, Array.replicate_succ, Array.replicate_zero, List.push_toArray, List.append_toArray, List.nil_append, List.cons_append]
  have hq : ∀ W, (binOp .eql 52 (.func (.func 50) #[] #[.pointer (some ⟨Bn, 0, none⟩), .pointer (some ⟨Bv, 0, none⟩)]) .nilFunc).run Try.prog W = .ok (.bool false) W := fun W => by kernel_rfl
  gi_wp2
  have bO := Boxed.new w 3 (.int .i64 most)
  have bN := Boxed.new (w.alloc (.cells #[.int .i64 most] 3)) 48 (.slice none 0 0)
  rw [World.size_alloc] at bN
  have hB0 : Below w.heap.size w ((w.alloc (.cells #[.int .i64 most] 3)).alloc (.cells #[.slice none 0 0] 48)) := ((Below.refl _ w).alloc (Nat.le_refl _) _).alloc (by simp) _
  refine wpIn_rangeFunc_ownF (F := Fence.wide) (n := 4) rfl (by omega) (gf := 50) (lb := #[.pointer (some ⟨Bn, 0, none⟩), .pointer (some ⟨Bv, 0, none⟩)]) rfl trivial (enters_of Try.func50 (by kernel_rfl) rfl)
    (All1_stops Fence.wide (4 - 1) trivial rfl (by omega) Bn Bv n₀ ps _ (by simp; omega) (hA.below (hB0.mono hn₀))) belowK_t (belowK_b (by simp; omega)) (Below.refl _ _) (fun _ => rfl)
    (fun pre W => ((∃ v, Boxed W (w.heap.size + 1) 48 v ∧ W.ownsRow w.heap.size 55 3 v pre.length (pre.flatMap rowC) ∧ pre.length ≤ most) ∧ Boxed W w.heap.size 3 (.int .i64 most)) ∧ Below w.heap.size w W)
    (fun c pre W => (((∃ v, Boxed W (w.heap.size + 1) 48 v ∧ W.ownsRow w.heap.size 55 3 v (pre.length - 1) (pre.dropLast.flatMap rowC) ∧ (c = .exit 0 ∧ pre.length = most + 1)) ∧ Boxed W w.heap.size 3 (.int .i64 most)) ∧ Below w.heap.size w W))
    (OwnFrom.and (OwnFrom.and (Own.from (holdsRow_own w.heap.size (w.heap.size + 1) 48 55 3 (fun pre : List (ByteArray × Int) => pre.length) (fun pre : List (ByteArray × Int) => pre.flatMap rowC) (fun (pre : List (ByteArray × Int)) _ => pre.length ≤ most)) _) (Own.from (boxed_own _ _ _) _)) (ownFrom_below (Nat.le_refl _) (by simp; omega)))
    (fun c => OwnFrom.and (OwnFrom.and (Own.from (holdsRow_own w.heap.size (w.heap.size + 1) 48 55 3 (fun pre : List (ByteArray × Int) => pre.length - 1) (fun pre : List (ByteArray × Int) => pre.dropLast.flatMap rowC) (fun (pre : List (ByteArray × Int)) _ => c = .exit 0 ∧ pre.length = most + 1)) _) (Own.from (boxed_own _ _ _) _)) (ownFrom_below (Nat.le_refl _) (by simp; omega)))
    ⟨⟨⟨_, bN, World.ownsRow_nil _ _ _ _, by simp⟩, bO.alloc _⟩, hB0⟩
    (fun x => { tmps := #[.func (.func 50) #[] #[.pointer (some ⟨Bn, 0, none⟩), .pointer (some ⟨Bv, 0, none⟩)], .int .i64 most, undef, .pointer (some ⟨w.heap.size, 0, none⟩), .slice none 0 0, .pointer (some ⟨w.heap.size + 1, 0, none⟩), .string x.1, .int .i64 x.2,
      .func (.func 50) #[] #[.pointer (some ⟨Bn, 0, none⟩), .pointer (some ⟨Bv, 0, none⟩)], .bool false, .func (.func 50) #[] #[.pointer (some ⟨Bn, 0, none⟩), .pointer (some ⟨Bv, 0, none⟩)], .string x.1, .int .i64 x.2, undef, undef, undef, undef, undef, undef, undef, undef, undef, undef, undef], defers := [] }) ?assign ?body ?done ?stop
  case assign =>
    intro l x W K hK
    gi_wp2
    exact hK
  case body =>
    rintro l pre x W ⟨⟨⟨v, hv, hrow, hpm⟩, hm1⟩, hB⟩ hlt
    have hc := hv.cell
    have hcm := hm1.cell
    obtain ⟨A, c, hvf⟩ := own_form hrow
    subst hvf
    have hps := hA.len
    by_cases hge : most ≤ pre.length
    · have d1 : decide (most ≤ pre.length) = true := by simpa using hge
      gi_wp2
      exact ⟨KeepsOthers.refl _, ⟨⟨⟨_, hv, by simpa using hrow, rfl, by simp; omega⟩, hm1⟩, hB⟩⟩
    · have d1 : decide (most ≤ pre.length) = false := by simpa using hge
      have hnews : ∀ j u, ([Value.string x.1, .int .i64 x.2, .bool false])[j]? = some u → (W.alloc (.cells #[.string x.1, .int .i64 x.2, .bool false] 55)).cell? ((⟨W.heap.size, 0, none⟩ : Addr).add j) = some u := fun j u hj => by
        rw [show (⟨W.heap.size, 0, none⟩ : Addr).add j = ⟨W.heap.size, 0 + j, none⟩ by unfold Addr.add; split <;> simp_all, (bk_new rfl : Blk (W.alloc (.cells #[.string x.1, .int .i64 x.2, .bool false] 55)) W.heap.size 55 _).cell]
        simpa using hj
      gi_wp2_with (gi_at_builtin; refine wpListIn_append_own _ rfl _ _ 48 rfl w.heap.size 55 i0 _ 3 32 Try.underlying48 hi hz0 hz1 hz2 rfl (by decide) _ _ _ rfl (hrow.alloc _) ⟨W.heap.size, 0, none⟩ 1 1 [.string x.1, .int .i64 x.2, .bool false] rfl rfl hnews (by simp [Value.oneCell']) (by simp only [maxLen]; omega) (by omega) (by have := hB.size; simp; omega) ?_; intro v' w1 hown' hgrow _; obtain ⟨g', cap', rfl⟩ := ownsRow_succ hown'; obtain ⟨hv1, hv2, hr2, hk2, hb2⟩ := hv.appended (by decide) hrow hB.size (by omega) hown' hgrow; have hc1 := hv1.cell; have hf1 := hv1.frozen)
      have hm2 : Boxed (w1.setCell ⟨w.heap.size + 1, 0, none⟩ (.slice (some ⟨g', 0, none⟩) (pre.length + 1) cap')) w.heap.size 3 (.int .i64 most) :=
        (Below.heap_setCell _ _ _ _ (by show w.heap.size ≠ w.heap.size + 1; omega)).trans ((hm1.alloc _).kept hgrow (hm1.not_row (by decide) hrow))
      exact ⟨hk2, hb2.mono hn₀, ⟨⟨⟨_, hv2, by simpa [rowC] using hr2, by simp; omega⟩, hm2⟩, hB.trans hb2⟩⟩
  case done =>
    rintro D ys W hD rfl ⟨⟨⟨v, hv, hrow, hpm⟩, hm1⟩, hB⟩ hK
    have hc := hv.cell
    gi_wp2
    refine ⟨by simp, .inl ⟨_, _, rfl, run_takeDeferred hK, ?_⟩⟩
    refine ⟨_, results_tmp rfl _ _ _, v, rfl, ?_, hB.trans (belowK_b (w := w) (Nat.le_refl _) W D _ _ (by simp at hD; omega) hK rfl rfl)⟩
    rw [Nat.min_eq_right hpm, List.take_of_length_le hpm]
    exact ownsRow_putObj hrow _ hK rfl
  case stop =>
    rintro D c pre W hD hSp ⟨⟨⟨v, hv, hrow, rfl, hpl⟩, hm1⟩, hB⟩ hK
    have hc := hv.cell
    gi_wp2
    refine ⟨by simp, .inl ⟨_, _, rfl, run_takeDeferred hK, ?_⟩⟩
    refine ⟨_, results_tmp rfl _ _ _, v, rfl, ?_, hB.trans (belowK_b (w := w) (Nat.le_refl _) W D _ _ (by simp at hD; omega) hK rfl rfl)⟩
    have hle := hSp.length_le
    have e1 : pre.length - 1 = min most ps.length := by omega
    have e2 : pre.dropLast = ps.take most := by
      obtain ⟨r, rfl⟩ := hSp
      rw [List.take_append_of_le_length (by omega), List.dropLast_eq_take, show pre.length - 1 = most by omega]
    rw [← e1, ← e2]
    exact ownsRow_putObj hrow _ hK rfl
end Go.Proofs.Ytimkoepaeebleaa
