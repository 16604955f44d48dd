/- ShardFirst, its row: for every number of shards, all calls and all picks that hold together at most 1048576 values and letters, the law returns true and leaves its arguments as they were. -/
import Derived.Test.YtimkoepaeebleaaShLawF
import Derived.Test.YtimkoepaeebleaaShOpen
import Derived.JoinedCond
namespace Go.Proofs.Ytimkoepaeebleaa
open Go.ChangeShapes Go.WideShapes Go.ChangeAt Go.RowKit

namespace shardFirst
theorem laidOut : laidOutB Try.prog = true := by kernel_rfl
theorem own : ownKnob Try.prog.godebug = none := by kernel_rfl
set_option maxRecDepth 100000 in
theorem contract (H : Type) (enc : TypeId × Value → H) (W : World) (args : Array Value) (ds gs : List (DataW H)) (before : List MemPlace)
    (hval : ∀ (j : Nat) t v, Try.f5.params[j]? = some t → args[j]? = some v → Value.okWide Try.prog W .any 0 t v)
    (hW : DataW.Whole enc Try.prog Try.f5.params.toList Rows.shardFirstSpec.vars false W args.toList ds gs before) (hk : Rows.uptoBulkAll (ds ++ gs) ≤ 1048576) :
    Calls Try.prog 5 args W fun e W' => ∃ v, e = .returned v ∧ Rows.shardFirstSpec.post enc Try.prog Try.f5 false true false false W args v W' := by
  have hW' := hW
  obtain ⟨p, q, hA0, hV, rfl, hfz, hnd⟩ := hW
  have hA : DataW.TrodAll enc Try.prog W 0 (fun _ => true) true Try.f5.params.toList args.toList ds p := hA0
  rw [Try.params5] at hA hval
  obtain ⟨v0, vs0, d0, ds0, p0, q0, hargs, rfl, rfl, h0, r0⟩ := trodAll_cons hA
  obtain ⟨v1, vs1, d1, ds1, p1, q1, rfl, rfl, rfl, h1, r1⟩ := trodAll_cons r0
  obtain ⟨v2, vs2, d2, ds2, p2, q2, rfl, rfl, rfl, h2, r2⟩ := trodAll_cons r1
  obtain ⟨rfl, rfl, rfl⟩ := trodAll_nil r2
  obtain rfl : args = #[v0, v1, v2] := by cases args; simp_all
  obtain ⟨rfl, rfl⟩ := trodVars_none hV
  have b1 := Nat.le_trans (bulk_mem (d := d1) (l := [d0, d1, d2] ++ []) (by simp)) hk
  have b2 := Nat.le_trans (bulk_mem (d := d2) (l := [d0, d1, d2] ++ []) (by simp)) hk
  obtain ⟨n, rfl, rfl, rfl, wn⟩ := open_int Try.underlying3 (hval 0 3 v0 rfl rfl) h0
  obtain ⟨A, c, work, rfl, hc, hwk, hwl, hll⟩ := open_work (okWide_slice Try.underlying27 (hval 1 27 v1 rfl rfl)) h1
  obtain ⟨P, cP, pk, rfl, hpk, hpl⟩ := open_picks (okWide_slice Try.underlying28 (hval 2 28 v2 rfl rfl)) h2
  clear hA0
  refine (first_walk n A P c cP work pk W hwk hc (fun l hl => Nat.le_trans (hll l hl) b1) (Nat.le_trans hwl b1) hpk (Nat.le_trans hpl b2)).mono fun e W' ⟨he, hg⟩ => ?_
  subst he
  exact ⟨_, rfl, law_post laidOut (by kernel_rfl) (by kernel_rfl) Try.underlying4 rfl hW' rfl hg⟩

set_option maxRecDepth 100000 in
theorem lifted (os : Os) (started : os.Started) (H : Type) (enc : TypeId × Value → H) (F : Stop.Interp) :
    ReturnsInHanded {} Try.checked os 5 .any ((Rows.OpenSpec.upto Rows.shardFirstSpec).pre6 enc Try.prog Try.f5 Rows.shardFirstUptoRow.domain false) (((Rows.OpenSpec.upto Rows.shardFirstSpec).at F).post enc Try.prog Try.f5 false true false false) := by
  refine returnsInHanded_of_cond (C := Try.checked) (s := Rows.OpenSpec.upto Rows.shardFirstSpec) (k := Rows.uptoSmall) rfl own started (by kernel_rfl) Try.func5
    (OpenSpec.witness (enc := enc) (C := Try.checked) (s := Rows.OpenSpec.upto Rows.shardFirstSpec) (k := Rows.uptoSmall) rfl false ⟨#[], #[.int .i64 0, .slice none 0 0, .slice none 0 0], []⟩ 8 (by kernel_rfl) (by kernel_rfl) (by kernel_rfl)
      (x := ([.lit (.int .i64 0), .nil, .nil], [], [])) (by kernel_rfl) rfl (by kernel_rfl)) ?_
  intro W base args ds gs before hval hW _ hk _
  exact contract H enc W args ds gs before hval hW (of_decide_eq_true hk)

theorem over : Rows.shardFirstUptoRow.holds Try.pinned (Rows.OpenSpec.upto Rows.shardFirstSpec) :=
  OpenClaim.holds_of_cond 5 Try.f5 rfl rfl rfl rfl rfl rfl rfl ⟨rfl, rfl, rfl, rfl, rfl⟩ rfl rfl rfl rfl rfl (by kernel_rfl) Try.func5 (by kernel_rfl)
    (of_decide_eq_true (by kernel_rfl)) (by unfold Func.isWrapper; first | (rw [if_pos (by decide +kernel)]; kernel_rfl) | (rw [if_neg (by decide +kernel)]; exact ⟨rfl, rfl⟩))
    (fun os started H enc _ F => lifted os started H enc F)
end shardFirst

theorem shardFirst_holds : Rows.ShardFirstUptoSaid := shardFirst.over
end Go.Proofs.Ytimkoepaeebleaa
