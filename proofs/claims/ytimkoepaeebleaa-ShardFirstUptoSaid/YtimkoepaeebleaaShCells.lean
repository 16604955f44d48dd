/- Cells that are locks: what the accesses of package cells do to them. -/
import Derived.Test.YtimkoepaeebleaaShHash
namespace Go.Proofs.Ytimkoepaeebleaa
set_option linter.unusedVariables false
open Go.RowKit

def isWk (n : Int) : Bool := decide (0 ≤ n) && decide (n < 64)
theorem isWorker_any (n : Int) (w : World) : Calls Try.prog 63 #[.int .i64 n] w fun e w' => e = .returned (.bool (isWk n)) ∧ w = w' := by
  by_cases h : 0 ≤ n
  · have e : isWk n = decide (n < 64) := by simp [isWk, h]
    rw [e]; clear e
    go_enter Try.func63, Try.ntmps63
    go_wp2
    go_ret
    exact ⟨rfl, rfl⟩
  · have e : isWk n = false := by simp [isWk, h]
    rw [e]; clear e
    go_enter Try.func63, Try.ntmps63
    go_wp2
    go_ret
    exact ⟨rfl, rfl⟩

set_option maxHeartbeats 400000 in
theorem CloneInts_nil (w : World) : Calls Try.prog 66 #[.slice none 0 0] w fun e w' => e = .returned (.slice none 0 0) ∧ w = w' := by
  have h1 := fun (W : World) => Lib.run_eql_slice_nil (P := Try.prog) W 62 3 none 0 0 0 0 Try.underlying62
  go_enter Try.func66, Try.ntmps66
  go_wp2
  go_ret
  exact ⟨rfl, rfl⟩

set_option maxHeartbeats 400000 in
theorem EqualInts_nil (w : World) : Calls Try.prog 82 #[.slice none 0 0, .slice none 0 0] w fun e w' => e = .returned (.bool true) ∧ w = w' := by
  go_enter Try.func82, Try.ntmps82
  go_wp2
  go_loop [5, 13] (fun _ i => i = .int .i64 0) (fun _ _ => 0)
  case atStart => rfl
  case round =>
    subst hrel
    go_wp2
    go_ret
    exact ⟨rfl, rfl⟩

set_option maxHeartbeats 400000 in
theorem copied_lock (o : Int) (w : World) : Calls Try.prog 56 #[.agg #[.int .i64 2, .int .i64 0, .int .i64 (o), .int .i64 0, .slice none 0 0, .int .i64 0, .bool false]] w fun e w' => e = .returned (.agg #[.int .i64 2, .int .i64 0, .int .i64 (o), .int .i64 0, .slice none 0 0, .int .i64 0, .bool false]) ∧ Below w.heap.size w w' := by
  go_enter Try.func56, Try.ntmps56
  go_wp2_with (go_at_call 66; refine (CloneInts_nil _).mono ?_; rintro e w' ⟨rfl, rfl⟩)
  refine bodyPost_ret (v := .agg #[.int .i64 2, .int .i64 0, .int .i64 (o), .int .i64 0, .slice none 0 0, .int .i64 0, .bool false]) (by simp [results, Try.results56, go_sem]) rfl ⟨rfl, (by (repeat (first | with_reducible exact Below.refl _ _ | (with_reducible refine bl_drew ?_) | (with_reducible refine bl_drewN ?_) | (with_reducible refine bl_alloc ?_ ?_; (focus (first | omega | (simp; done) | (simp; omega)))) | (with_reducible refine bl_set ?_ ?_; (focus (first | omega | (simp; done) | (simp; omega)))) | (with_reducible refine bl_trans ?_ (by assumption) ?_; (focus (first | omega | (simp; done) | (simp; omega)))))))⟩

set_option maxHeartbeats 400000 in
theorem Same_lock (o : Int) (w : World) : Calls Try.prog 65 #[.agg #[.int .i64 2, .int .i64 0, .int .i64 (o), .int .i64 0, .slice none 0 0, .int .i64 0, .bool false], .agg #[.int .i64 2, .int .i64 0, .int .i64 (o), .int .i64 0, .slice none 0 0, .int .i64 0, .bool false]] w fun e w' => e = .returned (.bool true) ∧ Below w.heap.size w w' := by
  go_enter Try.func65, Try.ntmps65
  go_wp2_with (go_at_call 82; refine (EqualInts_nil _).mono ?_; rintro e w' ⟨rfl, rfl⟩)
  go_ret
  exact ⟨rfl, (by (repeat (first | with_reducible exact Below.refl _ _ | (with_reducible refine bl_drew ?_) | (with_reducible refine bl_drewN ?_) | (with_reducible refine bl_alloc ?_ ?_; (focus (first | omega | (simp; done) | (simp; omega)))) | (with_reducible refine bl_set ?_ ?_; (focus (first | omega | (simp; done) | (simp; omega)))) | (with_reducible refine bl_trans ?_ (by assumption) ?_; (focus (first | omega | (simp; done) | (simp; omega)))))))⟩

def okOwner (o : Int) : Bool := decide (o = -1) || isWk o
set_option maxHeartbeats 400000 in
theorem Check_lock (o : Int) (h : okOwner o = true) (w : World) : Calls Try.prog 55 #[.agg #[.int .i64 2, .int .i64 0, .int .i64 (o), .int .i64 0, .slice none 0 0, .int .i64 0, .bool false]] w fun e w' => e = .returned (.int .i64 0) ∧ Below w.heap.size w w' := by
  by_cases h1 : o = -1
  · subst h1
    go_enter Try.func55, Try.ntmps55
    go_wp2_with (first | (go_at_call 65; refine (Same_lock _ _).mono ?_; rintro e w' ⟨rfl, hb⟩) | (go_at_call 63; refine (isWorker_any _ _).mono ?_; rintro e w' ⟨rfl, rfl⟩))
    go_ret
    exact ⟨rfl, (by (repeat (first | with_reducible exact Below.refl _ _ | (with_reducible refine bl_drew ?_) | (with_reducible refine bl_drewN ?_) | (with_reducible refine bl_alloc ?_ ?_; (focus (first | omega | (simp; done) | (simp; omega)))) | (with_reducible refine bl_set ?_ ?_; (focus (first | omega | (simp; done) | (simp; omega)))) | (with_reducible refine bl_trans ?_ (by assumption) ?_; (focus (first | omega | (simp; done) | (simp; omega)))))))⟩
  · have h2 : isWk o = true := by simpa [okOwner, h1] using h
    have h3 : (o == -1) = false := by simpa using h1
    go_enter Try.func55, Try.ntmps55
    go_wp2_with (first | (go_at_call 65; refine (Same_lock _ _).mono ?_; rintro e w' ⟨rfl, hb⟩; obtain ⟨hc, hf⟩ := bcell hb; have hz := hb.size; simp at hz) | (go_at_call 63; refine (isWorker_any _ _).mono ?_; rintro e w' ⟨rfl, rfl⟩))
    go_ret
    exact ⟨rfl, (by (repeat (first | with_reducible exact Below.refl _ _ | (with_reducible refine bl_drew ?_) | (with_reducible refine bl_drewN ?_) | (with_reducible refine bl_alloc ?_ ?_; (focus (first | omega | (simp; done) | (simp; omega)))) | (with_reducible refine bl_set ?_ ?_; (focus (first | omega | (simp; done) | (simp; omega)))) | (with_reducible refine bl_trans ?_ (by assumption) ?_; (focus (first | omega | (simp; done) | (simp; omega)))))))⟩

set_option maxHeartbeats 400000 in
theorem lock_free (b : Nat) (wk i o : Int) (w : World) (h : w.cell? ⟨b, 2, none⟩ = some (.int .i64 (-1))) (hf : w.frozen? ⟨b, 2, none⟩ = false) (hb : b < w.heap.size) (hwk : isWk wk = true)  :
    Calls Try.prog 84 #[.pointer (some ⟨b, 0, none⟩), .int .i64 wk, .agg #[.int .i64 3, .int .i64 i, .int .i64 0, .int .i64 0]] w fun e w' => e = .returned (.tuple #[.int .i64 0, .int .i64 0]) ∧ (w.setCell ⟨b, 2, none⟩ (.int .i64 wk)).alloc (.cells #[.int .i64 3, .int .i64 i, .int .i64 0, .int .i64 0] 88) = w' := by
  have h1 : ((-1 : Int) == wk) = false := by simp [isWk] at hwk; simp; omega
  go_enter Try.func84, Try.ntmps84
  go_wp2
  go_ret2
  exact ⟨rfl, rfl⟩

set_option maxHeartbeats 400000 in
theorem lock_busy (b : Nat) (wk i o : Int) (w : World) (h : w.cell? ⟨b, 2, none⟩ = some (.int .i64 (o))) (hf : w.frozen? ⟨b, 2, none⟩ = false) (hb : b < w.heap.size) (hwk : isWk wk = true) (ho : o ≠ -1) (hw : o ≠ wk) :
    Calls Try.prog 84 #[.pointer (some ⟨b, 0, none⟩), .int .i64 wk, .agg #[.int .i64 3, .int .i64 i, .int .i64 0, .int .i64 0]] w fun e w' => e = .returned (.tuple #[.int .i64 0, .int .i64 231]) ∧ w.alloc (.cells #[.int .i64 3, .int .i64 i, .int .i64 0, .int .i64 0] 88) = w' := by
  have h1 : (o == wk) = false := by simpa using hw
  have h2 : (o != -1) = true := by simpa using ho
  go_enter Try.func84, Try.ntmps84
  go_wp2
  go_ret2
  exact ⟨rfl, rfl⟩

set_option maxHeartbeats 400000 in
theorem lock_done (b : Nat) (wk i o : Int) (w : World) (h : w.cell? ⟨b, 2, none⟩ = some (.int .i64 (wk))) (hf : w.frozen? ⟨b, 2, none⟩ = false) (hb : b < w.heap.size) (hwk : isWk wk = true)  :
    Calls Try.prog 84 #[.pointer (some ⟨b, 0, none⟩), .int .i64 wk, .agg #[.int .i64 4, .int .i64 i, .int .i64 0, .int .i64 0]] w fun e w' => e = .returned (.tuple #[.int .i64 0, .int .i64 0]) ∧ (w.setCell ⟨b, 2, none⟩ (.int .i64 (-1))).alloc (.cells #[.int .i64 4, .int .i64 i, .int .i64 0, .int .i64 0] 88) = w' := by
  skip
  go_enter Try.func84, Try.ntmps84
  go_wp2
  go_ret2
  exact ⟨rfl, rfl⟩


set_option maxHeartbeats 1000000 in
theorem One_free (wk i o : Int) (w : World) (hwk : isWk wk = true)  :
    Calls Try.prog 69 #[.agg #[.int .i64 2, .int .i64 0, .int .i64 ((-1)), .int .i64 0, .slice none 0 0, .int .i64 0, .bool false], .int .i64 wk, .agg #[.int .i64 3, .int .i64 i, .int .i64 0, .int .i64 0]] w fun e w' => e = .returned (.tuple #[.agg #[.int .i64 2, .int .i64 0, .int .i64 ((wk)), .int .i64 0, .slice none 0 0, .int .i64 0, .bool false], .int .i64 0, .int .i64 0]) ∧ Below w.heap.size w w' := by
  have hwk' : isWk wk = true := hwk
  have hok : okOwner (-1) = true := by decide
  go_enter Try.func69, Try.ntmps69
  go_wp2_with fail
  (go_at_call 56; refine (copied_lock _ _).mono ?_; rintro e w1 ⟨rfl, hb_w1⟩; obtain ⟨hc_w1, hf_w1⟩ := bcell hb_w1; have hz_w1 := hb_w1.size; try simp at hz_w1)
  have q1 : w.heap.size < w1.heap.size := by omega
  have q2 : w.heap.size + 1 < w1.heap.size := by omega
  have q3 : w.heap.size + 1 + 1 < w1.heap.size := by omega
  go_wp2_with fail
  (go_at_call 55; refine (Check_lock _ hok _).mono ?_; rintro e w2 ⟨rfl, hb_w2⟩; obtain ⟨hc_w2, hf_w2⟩ := bcell hb_w2; have hz_w2 := hb_w2.size; try simp at hz_w2)
  have q1 : w.heap.size < w2.heap.size := by omega
  have q2 : w.heap.size + 1 < w2.heap.size := by omega
  have q3 : w.heap.size + 1 + 1 < w2.heap.size := by omega
  have q4 : w1.heap.size < w2.heap.size := by omega
  go_wp2_with fail
  (go_at_call 63; refine (isWorker_any _ _).mono ?_; rintro e w2' ⟨rfl, rfl⟩)
  go_wp2_with fail
  (go_at_call 56; refine (copied_lock _ _).mono ?_; rintro e w3 ⟨rfl, hb_w3⟩; obtain ⟨hc_w3, hf_w3⟩ := bcell hb_w3; have hz_w3 := hb_w3.size; try simp at hz_w3)
  have q1 : w.heap.size < w3.heap.size := by omega
  have q2 : w.heap.size + 1 < w3.heap.size := by omega
  have q3 : w.heap.size + 1 + 1 < w3.heap.size := by omega
  have q4 : w1.heap.size < w3.heap.size := by omega
  go_wp2_with fail
  (go_at_call 84; refine (lock_free _ _ _ (-1) _ ?h ?hf ?hb hwk ).mono ?_)
  case h => simp
  case hf => simp
  case hb => simp
  rintro e w4 ⟨rfl, rfl⟩
  go_wp2_with fail
  refine bodyPost_ret (v := .tuple #[.agg #[.int .i64 2, .int .i64 0, .int .i64 (wk), .int .i64 0, .slice none 0 0, .int .i64 0, .bool false], .int .i64 0, .int .i64 0]) (by simp [results, Try.results69, go_sem, *]) rfl ⟨rfl, (by (repeat (first | with_reducible exact Below.refl _ _ | (with_reducible refine bl_drew ?_) | (with_reducible refine bl_drewN ?_) | (with_reducible refine bl_alloc ?_ ?_; (focus (first | omega | (simp; done) | (simp; omega)))) | (with_reducible refine bl_set ?_ ?_; (focus (first | omega | (simp; done) | (simp; omega)))) | (with_reducible refine bl_trans ?_ (by assumption) ?_; (focus (first | omega | (simp; done) | (simp; omega)))))))⟩

set_option maxHeartbeats 1000000 in
theorem One_busy (wk i o : Int) (w : World) (hwk : isWk wk = true) (ho : o ≠ -1) (hw : o ≠ wk) (hok : okOwner o = true) :
    Calls Try.prog 69 #[.agg #[.int .i64 2, .int .i64 0, .int .i64 ((o)), .int .i64 0, .slice none 0 0, .int .i64 0, .bool false], .int .i64 wk, .agg #[.int .i64 3, .int .i64 i, .int .i64 0, .int .i64 0]] w fun e w' => e = .returned (.tuple #[.agg #[.int .i64 2, .int .i64 0, .int .i64 ((o)), .int .i64 0, .slice none 0 0, .int .i64 0, .bool false], .int .i64 0, .int .i64 231]) ∧ Below w.heap.size w w' := by
  have hwk' : isWk wk = true := hwk
  skip
  go_enter Try.func69, Try.ntmps69
  go_wp2_with fail
  (go_at_call 56; refine (copied_lock _ _).mono ?_; rintro e w1 ⟨rfl, hb_w1⟩; obtain ⟨hc_w1, hf_w1⟩ := bcell hb_w1; have hz_w1 := hb_w1.size; try simp at hz_w1)
  have q1 : w.heap.size < w1.heap.size := by omega
  have q2 : w.heap.size + 1 < w1.heap.size := by omega
  have q3 : w.heap.size + 1 + 1 < w1.heap.size := by omega
  go_wp2_with fail
  (go_at_call 55; refine (Check_lock _ hok _).mono ?_; rintro e w2 ⟨rfl, hb_w2⟩; obtain ⟨hc_w2, hf_w2⟩ := bcell hb_w2; have hz_w2 := hb_w2.size; try simp at hz_w2)
  have q1 : w.heap.size < w2.heap.size := by omega
  have q2 : w.heap.size + 1 < w2.heap.size := by omega
  have q3 : w.heap.size + 1 + 1 < w2.heap.size := by omega
  have q4 : w1.heap.size < w2.heap.size := by omega
  go_wp2_with fail
  (go_at_call 63; refine (isWorker_any _ _).mono ?_; rintro e w2' ⟨rfl, rfl⟩)
  go_wp2_with fail
  (go_at_call 56; refine (copied_lock _ _).mono ?_; rintro e w3 ⟨rfl, hb_w3⟩; obtain ⟨hc_w3, hf_w3⟩ := bcell hb_w3; have hz_w3 := hb_w3.size; try simp at hz_w3)
  have q1 : w.heap.size < w3.heap.size := by omega
  have q2 : w.heap.size + 1 < w3.heap.size := by omega
  have q3 : w.heap.size + 1 + 1 < w3.heap.size := by omega
  have q4 : w1.heap.size < w3.heap.size := by omega
  go_wp2_with fail
  (go_at_call 84; refine (lock_busy _ _ _ (o) _ ?h ?hf ?hb hwk ho hw).mono ?_)
  case h => simp
  case hf => simp
  case hb => simp
  rintro e w4 ⟨rfl, rfl⟩
  go_wp2_with fail
  refine bodyPost_ret (v := .tuple #[.agg #[.int .i64 2, .int .i64 0, .int .i64 (o), .int .i64 0, .slice none 0 0, .int .i64 0, .bool false], .int .i64 0, .int .i64 231]) (by simp [results, Try.results69, go_sem, *]) rfl ⟨rfl, (by (repeat (first | with_reducible exact Below.refl _ _ | (with_reducible refine bl_drew ?_) | (with_reducible refine bl_drewN ?_) | (with_reducible refine bl_alloc ?_ ?_; (focus (first | omega | (simp; done) | (simp; omega)))) | (with_reducible refine bl_set ?_ ?_; (focus (first | omega | (simp; done) | (simp; omega)))) | (with_reducible refine bl_trans ?_ (by assumption) ?_; (focus (first | omega | (simp; done) | (simp; omega)))))))⟩

set_option maxHeartbeats 1000000 in
theorem One_done (wk i o : Int) (w : World) (hwk : isWk wk = true)  :
    Calls Try.prog 69 #[.agg #[.int .i64 2, .int .i64 0, .int .i64 ((wk)), .int .i64 0, .slice none 0 0, .int .i64 0, .bool false], .int .i64 wk, .agg #[.int .i64 4, .int .i64 i, .int .i64 0, .int .i64 0]] w fun e w' => e = .returned (.tuple #[.agg #[.int .i64 2, .int .i64 0, .int .i64 ((-1)), .int .i64 0, .slice none 0 0, .int .i64 0, .bool false], .int .i64 0, .int .i64 0]) ∧ Below w.heap.size w w' := by
  have hwk' : isWk wk = true := hwk
  have hok : okOwner wk = true := by simp [okOwner, hwk]
  go_enter Try.func69, Try.ntmps69
  go_wp2_with fail
  (go_at_call 56; refine (copied_lock _ _).mono ?_; rintro e w1 ⟨rfl, hb_w1⟩; obtain ⟨hc_w1, hf_w1⟩ := bcell hb_w1; have hz_w1 := hb_w1.size; try simp at hz_w1)
  have q1 : w.heap.size < w1.heap.size := by omega
  have q2 : w.heap.size + 1 < w1.heap.size := by omega
  have q3 : w.heap.size + 1 + 1 < w1.heap.size := by omega
  go_wp2_with fail
  (go_at_call 55; refine (Check_lock _ hok _).mono ?_; rintro e w2 ⟨rfl, hb_w2⟩; obtain ⟨hc_w2, hf_w2⟩ := bcell hb_w2; have hz_w2 := hb_w2.size; try simp at hz_w2)
  have q1 : w.heap.size < w2.heap.size := by omega
  have q2 : w.heap.size + 1 < w2.heap.size := by omega
  have q3 : w.heap.size + 1 + 1 < w2.heap.size := by omega
  have q4 : w1.heap.size < w2.heap.size := by omega
  go_wp2_with fail
  (go_at_call 63; refine (isWorker_any _ _).mono ?_; rintro e w2' ⟨rfl, rfl⟩)
  go_wp2_with fail
  (go_at_call 56; refine (copied_lock _ _).mono ?_; rintro e w3 ⟨rfl, hb_w3⟩; obtain ⟨hc_w3, hf_w3⟩ := bcell hb_w3; have hz_w3 := hb_w3.size; try simp at hz_w3)
  have q1 : w.heap.size < w3.heap.size := by omega
  have q2 : w.heap.size + 1 < w3.heap.size := by omega
  have q3 : w.heap.size + 1 + 1 < w3.heap.size := by omega
  have q4 : w1.heap.size < w3.heap.size := by omega
  go_wp2_with fail
  (go_at_call 84; refine (lock_done _ _ _ (wk) _ ?h ?hf ?hb hwk ).mono ?_)
  case h => simp
  case hf => simp
  case hb => simp
  rintro e w4 ⟨rfl, rfl⟩
  go_wp2_with fail
  refine bodyPost_ret (v := .tuple #[.agg #[.int .i64 2, .int .i64 0, .int .i64 (-1), .int .i64 0, .slice none 0 0, .int .i64 0, .bool false], .int .i64 0, .int .i64 0]) (by simp [results, Try.results69, go_sem, *]) rfl ⟨rfl, (by (repeat (first | with_reducible exact Below.refl _ _ | (with_reducible refine bl_drew ?_) | (with_reducible refine bl_drewN ?_) | (with_reducible refine bl_alloc ?_ ?_; (focus (first | omega | (simp; done) | (simp; omega)))) | (with_reducible refine bl_set ?_ ?_; (focus (first | omega | (simp; done) | (simp; omega)))) | (with_reducible refine bl_trans ?_ (by assumption) ?_; (focus (first | omega | (simp; done) | (simp; omega)))))))⟩

end Go.Proofs.Ytimkoepaeebleaa
