/- The iterator that a table's All hands back: names in order, each with its value. -/
import Derived.RangeFuncNested
import Derived.RangeFuncBound
import Derived.RangeFuncCalls
import Derived.RangeFuncLeaves
import Derived.RangeFuncBox
import Derived.RangeFuncFrom
import Derived.Shelf.Abstract
import Derived.Shelf.RegionOpen
import Derived.OwnWalkIn
import Derived.TacticsInMore
import Derived.LoopNIn
import Derived.LoopIn
import Derived.Maps.AppendAt
import Derived.Test.YtimkoepaeebleaaShTab2
namespace Go.Proofs.Ytimkoepaeebleaa
open Go.RowKit Go.Shelf
attribute [local go_sem] Oper.semAt_some

/-- What the closure leans on: a row of names, and a map that has a value for each. -/
structure AllAt (n₀ : Nat) (W : World) (Bn Bv : Nat) (ps : List (ByteArray × Int)) : Prop where
  ln : Bn < n₀
  lv : Bv < n₀
  names : ∃ A c, W.cell? ⟨Bn, 0, none⟩ = some (.slice A ps.length c) ∧ ∀ (j : Nat) (p : ByteArray × Int), ps[j]? = some p → ∃ g off, A = some ⟨g, off, none⟩ ∧ g < n₀ ∧ W.cell? ⟨g, off + j, none⟩ = some (.string p.1)
  vals : ps ≠ [] → ∃ b M, b < n₀ ∧ W.cell? ⟨Bv, 0, none⟩ = some (.map (some b)) ∧ MapAt W b encK evI M ∧ ∀ p ∈ ps, mget M p.1 = some p.2
  len : ps.length ≤ 1000000
theorem AllAt.below {n₀ : Nat} {W W' : World} {Bn Bv : Nat} {ps : List (ByteArray × Int)} (h : AllAt n₀ W Bn Bv ps) (hb : Below n₀ W W') : AllAt n₀ W' Bn Bv ps := by
  obtain ⟨h1, h2, ⟨A, c, h3, h4⟩, h5, h6⟩ := h
  refine ⟨h1, h2, ⟨A, c, (hb.cell (p := ⟨Bn, 0, none⟩) h1).trans h3, fun j p hp => ?_⟩, fun hne => ?_, h6⟩
  · obtain ⟨g, off, e, hg, hc⟩ := h4 j p hp
    exact ⟨g, off, e, hg, (hb.cell (p := ⟨g, off + j, none⟩) hg).trans hc⟩
  · obtain ⟨b, M, hb1, hc, hM, hv⟩ := h5 hne
    exact ⟨b, M, hb1, (hb.cell (p := ⟨Bv, 0, none⟩) h2).trans hc, hM.keep (hb.block b hb1), hv⟩

set_option maxRecDepth 100000 in
set_option maxHeartbeats 2000000 in
theorem All1_in (F : Fence) (n : Nat) (h50 : F.fn 50) (hro : F.round = none) (hn : 1 ≤ n) (l Bn Bv n₀ : Nat) (ps : List (ByteArray × Int)) (J Jx : List (ByteArray × Int) → World → Prop)
    (hY : ∀ pre x W, J pre W → pre.length < ps.length → YieldAt F (n - 1) Try.prog l #[.string x.1, .int .i64 x.2] W fun e W' =>
      (e = .returned (.bool true) ∧ J (pre ++ [x]) W' ∧ Below n₀ W W') ∨ (e = .returned (.bool false) ∧ Jx (pre ++ [x]) W'))
    (W : World) (hA : AllAt n₀ W Bn Bv ps) (h0 : J [] W) :
    CallsIn F n Try.prog 50 #[.func (.yield l) #[] #[], .pointer (some ⟨Bn, 0, none⟩), .pointer (some ⟨Bv, 0, none⟩)] W fun e W' => (∃ v, e = .returned v) ∧
      ((∃ ys, ys = ps ∧ J ys W') ∨ (∃ pre, pre <+: ps ∧ Jx pre W')) := by
  obtain ⟨A, c, hc, hnm⟩ := hA.names
  have HA := Lib.hid hA
  have HN := Lib.hid hnm
  have hlen := hA.len
  clear hA hnm
  refine callsIn_of_wp Try.func50 rfl h50 ?_ hro
  simp only [Try.ntmps50, List.size_toArray, List.length_cons, List.length_nil, Nat.reduceAdd, Nat.reduceSub, Array.replicate_succ, Array.replicate_zero, List.push_toArray, List.append_toArray, List.nil_append, List.cons_append]
  gi_wp2
  gi_loopw [5, 8] (fun _ i wr => ∃ k : Nat, k ≤ ps.length ∧ i = .int .i64 k ∧ J (ps.take k) wr ∧ Below n₀ W wr)
    (fun _ i _ => ps.length - (intOf i).toNat)
  case atStart => exact ⟨0, Nat.zero_le _, rfl, h0, Below.refl _ _⟩
  case round =>
    obtain ⟨k, hk, rfl, hJs, hnx⟩ := hrel
    by_cases hlt : k < ps.length
    · obtain ⟨p, hp⟩ : ∃ p, ps[k]? = some p := ⟨ps[k], List.getElem?_eq_getElem hlt⟩
      have htk : ps.take (k + 1) = ps.take k ++ [p] := by rw [List.take_add_one, hp]; rfl
      obtain ⟨g, off, rfl, hg, hcx⟩ := HN.out k p hp
      obtain ⟨b, M, hb1, hcv, hM, hv⟩ := HA.out.vals (fun e => by rw [e] at hlt; simp at hlt)
      have hcx' : wr.cell? ⟨g, off + k, none⟩ = some (.string p.1) := (hnx.cell (p := ⟨g, off + k, none⟩) hg).trans hcx
      have hcv' : wr.cell? ⟨Bv, 0, none⟩ = some (.map (some b)) := (hnx.cell (p := ⟨Bv, 0, none⟩) HA.out.lv).trans hcv
      have hlk : (Instr.lookup 57 (.map (some b)) (.string p.1) false).run Try.prog wr = .ok (.int .i64 p.2) wr := by
        have := (hM.keep (hnx.block b hb1)).look keyK Try.underlying57 (zero_i64 wr) p.1 false
        rw [hv p (List.mem_of_getElem? hp)] at this
        exact this
      obtain ⟨fn, tmps, assign, body, hy, hR⟩ := hY _ p wr hJs (by rw [List.length_take]; omega)
      have HTK := Lib.hid htk
      clear hp htk hcx hcv hM hv
      gi_wp2
      refine hR.mono ?_
      rintro e W3 (⟨rfl, hJ3, hk3⟩ | ⟨rfl, hJx3⟩)
      · gi_wp2
        go_roundw
        case rel => exact ⟨k + 1, by omega, by simp, by rw [HTK.out]; exact hJ3, hnx.trans hk3⟩
        case measure => simp [intOf]; omega
      · gi_wp2
        refine bodyPost_ret (results_none rfl _ _ _) rfl ?_
        exact ⟨⟨_, rfl⟩, .inr ⟨_, by rw [← HTK.out]; exact List.take_prefix _ _, hJx3⟩⟩
    · obtain rfl : k = ps.length := by omega
      gi_wp2
      go_end0
      exact ⟨⟨_, rfl⟩, .inl ⟨_, List.take_length, hJs⟩⟩
theorem All1_stops (F : Fence) (n : Nat) (h50 : F.fn 50) (hro : F.round = none) (hn : 1 ≤ n) (Bn Bv n₀ : Nat) (ps : List (ByteArray × Int)) (w : World) (hn₀ : n₀ ≤ w.heap.size) (hA : AllAt n₀ w Bn Bv ps) :
    SeqStopsK F n Try.prog 50 #[.pointer (some ⟨Bn, 0, none⟩), .pointer (some ⟨Bv, 0, none⟩)] (fun x : ByteArray × Int => #[.string x.1, .int .i64 x.2]) (Below n₀) (fun ys => ys = ps) (fun pre => pre <+: ps) ps.length w := fun l J Jx W hW _ _ hY h0 =>
  All1_in F n h50 hro hn l Bn Bv n₀ ps J Jx hY W (hA.below (hW.mono hn₀)) h0
end Go.Proofs.Ytimkoepaeebleaa
