/- What package cells makes: a lock, a row of locks, a memory. -/
import Derived.Test.YtimkoepaeebleaaShDo
import Derived.Test.YtimkoepaeebleaaCopy
import Derived.OwnWalk
import Derived.Shelf.Bits.Mul64
namespace Go.Proofs.Ytimkoepaeebleaa
open Go.RowKit
open Go.Shelf

def laysMul_ren : Ren := ⟨fun | 212 => 57 | 263 => 67 | 264 => 68 | n => n, fun | 46 => 115 | 51 => 128 | 146 => 129 | 53 => 23 | 148 => 131 | n => n, fun | n => n⟩
theorem laysMul : Lays.n212 Try.prog laysMul_ren := {
  mixed := by kernel_rfl
  f212 := Try.func57.trans (congrArg some (by kernel_rfl))
  f263 := Try.func67.trans (congrArg some (by kernel_rfl))
  f264 := Try.func68.trans (congrArg some (by kernel_rfl))
  t46 := Try.underlying115
  a46 := Try.isAgg115
  z46 := Try.sizeOf115
  v46 := Try.zeroValue115
  t51 := Try.underlying128
  a51 := Try.isAgg128
  z51 := Try.sizeOf128
  v51 := Try.zeroValue128
  t53 := Try.underlying23
  a53 := Try.isAgg23
  z53 := Try.sizeOf23
  v53 := Try.zeroValue23
  t146 := Try.underlying129
  a146 := Try.isAgg129
  z146 := Try.sizeOf129
  v146 := Try.zeroValue129
  t148 := Try.underlying131
  a148 := Try.isAgg131
  z148 := Try.sizeOf131
  v148 := Try.zeroValue131 }

theorem bits_Mul (x y : Nat) (hx : x < 18446744073709551616) (hy : y < 18446744073709551616) (w : World) :
    Calls Try.prog 57 #[.int .u64 x, .int .u64 y] w fun e w' => e = .returned (.tuple #[.int .u64 ((x * y / 18446744073709551616 : Nat) : Int), .int .u64 ((x * y % 18446744073709551616 : Nat) : Int)]) ∧ w' = w := Any.bits_Mul laysMul x y hx hy w

set_option maxHeartbeats 400000 in
theorem Make_lock (w : World) : Calls Try.prog 35 #[.int .i64 2, .int .i64 0] w fun e w' => e = .returned (.tuple #[.agg #[.int .i64 2, .int .i64 0, .int .i64 (-1), .int .i64 0, .slice none 0 0, .int .i64 0, .bool false], .int .i64 0]) ∧ Below w.heap.size w w' := by
  go_enter Try.func35, Try.ntmps35
  go_wp2_with fail
  refine bodyPost_ret (v := .tuple #[.agg #[.int .i64 2, .int .i64 0, .int .i64 (-1), .int .i64 0, .slice none 0 0, .int .i64 0, .bool false], .int .i64 0]) (by simp [results, Try.results35, go_sem, *]) rfl ⟨rfl, (by (repeat (first | with_reducible exact Below.refl _ _ | (with_reducible refine bl_drew ?_) | (with_reducible refine bl_drewN ?_) | (with_reducible refine bl_alloc ?_ ?_; (focus (first | omega | (simp; done) | (simp; omega)))) | (with_reducible refine bl_set ?_ ?_; (focus (first | omega | (simp; done) | (simp; omega)))) | (with_reducible refine bl_trans ?_ (by assumption) ?_; (focus (first | omega | (simp; done) | (simp; omega)))))))⟩

def lockC (o : Int) : List Value := [.int .i64 2, .int .i64 0, .int .i64 o, .int .i64 0, .slice none 0 0, .int .i64 0, .bool false]
theorem lockC_len (o : Int) : (lockC o).length = 7 := rfl
theorem locks_of_take {arr : Array Value} {own : List Int} (h : arr.toList.take (own.length * 7) = own.flatMap lockC) : Locks arr own := by
  intro i o hi
  have hil : i < own.length := (List.getElem?_eq_some_iff.1 hi).1
  have k : ∀ r, r < 7 → arr[i * 7 + r]? = (lockC o)[r]? := fun r hr => by
    have := flat_get lockC 7 lockC_len own i r hr
    rw [← h, List.getElem?_take, if_pos (by omega), hi] at this
    simpa using this
  exact ⟨k 0 (by omega), k 1 (by omega), k 2 (by omega), k 3 (by omega), k 4 (by omega), k 5 (by omega), k 6 (by omega)⟩

/-- A row of n cells, of which the first k are free locks. -/
def Rep (w : World) (g n k : Nat) : Prop := ∃ arr : Array Value, Blk w g 74 arr ∧ arr.size = n * 7 ∧ arr.toList.take (k * 7) = (List.replicate k (-1)).flatMap lockC
theorem rep_more {arr : Array Value} {n k m : Nat} (hs : arr.size = n * 7) (ht : arr.toList.take (k * 7) = (List.replicate k (-1)).flatMap lockC) (hkm : k + m ≤ n) :
    let arr' := (arr.toList.take (k * 7) ++ ((List.replicate m (-1)).flatMap lockC ++ arr.toList.drop (k * 7 + ((List.replicate m (-1)).flatMap lockC).length))).toArray
    arr'.size = n * 7 ∧ arr'.toList.take ((k + m) * 7) = (List.replicate (k + m) (-1)).flatMap lockC := by
  have hl : ∀ q, ((List.replicate q (-1 : Int)).flatMap lockC).length = q * 7 := fun q => by rw [flat_len lockC 7 lockC_len, List.length_replicate]
  have ht' : (arr.toList.take (k * 7)).length = k * 7 := by rw [ht, hl]
  refine ⟨?_, ?_⟩
  · simp only [List.size_toArray, List.length_append, List.length_drop, hl, ht', Array.length_toList, hs]; omega
  · rw [← List.append_assoc, List.take_append_of_le_length (by rw [List.length_append, ht', hl]; omega), List.take_of_length_le (by rw [List.length_append, ht', hl]; omega), ht, ← List.flatMap_append, List.replicate_append_replicate]
theorem rep_sub {arr : Array Value} {k m : Nat} (ht : arr.toList.take (k * 7) = (List.replicate k (-1)).flatMap lockC) (h : m ≤ k) : arr.toList.take (m * 7) = (List.replicate m (-1)).flatMap lockC := by
  have := congrArg (List.take (m * 7)) ht
  rw [List.take_take, Nat.min_eq_left (by omega)] at this
  rw [this]
  have hl : ∀ q, ((List.replicate q (-1 : Int)).flatMap lockC).length = q * 7 := fun q => by rw [flat_len lockC 7 lockC_len, List.length_replicate]
  rw [show k = m + (k - m) by omega, ← List.replicate_append_replicate, List.flatMap_append, List.take_append_of_le_length (by rw [hl]; omega), List.take_of_length_le (by rw [hl]; omega)]

end Go.Proofs.Ytimkoepaeebleaa
