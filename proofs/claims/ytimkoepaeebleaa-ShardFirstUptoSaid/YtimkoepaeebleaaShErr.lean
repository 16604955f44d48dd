/- shard.New where the numbers are no numbers of shards or workers, or the calls are too many. -/
import Derived.Test.YtimkoepaeebleaaShFew
namespace Go.Proofs.Ytimkoepaeebleaa
open Go.RowKit

theorem New_arg (w : World) (shards : Int) (A : Option Addr) (n cW : Nat) (h : shards < 1 ∨ 256 < shards ∨ n < 1 ∨ 64 < n) :
    Calls Try.prog 13 #[.int .i64 shards, .slice A n cW] w (NewBad w 1) := by
  by_cases h1 : shards < 1
  · have b1 : decide (shards < 1) = true := by simpa using h1
    clear h h1
    go_enter Try.func13, Try.ntmps13
    go_wp2_with fail
    refine bodyPost_ret (v := .tuple #[.pointer none, .int .i64 1]) (by simp [results, Try.results13, go_sem, *]) rfl (⟨rfl, Below.refl _ _⟩)
  have b1 : decide (shards < 1) = false := by simpa using h1
  by_cases h2 : 256 < shards
  · have b2 : decide (256 < shards) = true := by simpa using h2
    clear h h1 h2
    go_enter Try.func13, Try.ntmps13
    go_wp2_with fail
    refine bodyPost_ret (v := .tuple #[.pointer none, .int .i64 1]) (by simp [results, Try.results13, go_sem, *]) rfl (⟨rfl, Below.refl _ _⟩)
  have b2 : decide (256 < shards) = false := by simpa using h2
  by_cases h3 : n < 1
  · have b3 : decide ((n : Int) < 1) = true := by simp; omega
    clear h h1 h2 h3
    go_enter Try.func13, Try.ntmps13
    go_wp2_with fail
    refine bodyPost_ret (v := .tuple #[.pointer none, .int .i64 1]) (by simp [results, Try.results13, go_sem, *]) rfl (⟨rfl, Below.refl _ _⟩)
  · have b3 : decide ((n : Int) < 1) = false := by simp; omega
    have b4 : decide ((64 : Int) < (n : Int)) = true := by simp; omega
    clear h h1 h2 h3
    go_enter Try.func13, Try.ntmps13
    go_wp2_with fail
    refine bodyPost_ret (v := .tuple #[.pointer none, .int .i64 1]) (by simp [results, Try.results13, go_sem, *]) rfl (⟨rfl, Below.refl _ _⟩)

set_option maxRecDepth 100000 in
set_option maxHeartbeats 1000000 in
theorem New_long (w : World) (shards : Nat) (A : Option Addr) (cW : Nat) (work : List (List Ask)) (hs : 1 ≤ shards) (hs2 : shards ≤ 256) (hw : 1 ≤ work.length) (hw2 : work.length ≤ 64) (ht : 1024 < total work) (hl : ∀ l ∈ work, l.length ≤ 1048576) (h : WorkAt w A work) :
    Calls Try.prog 13 #[.int .i64 shards, .slice A work.length cW] w (NewBad w 3) := by
  have b1 : decide ((shards : Int) < 1) = false := by simp; omega
  have b2 : decide ((256 : Int) < shards) = false := by simp; omega
  have b3 : decide ((work.length : Int) < 1) = false := by simp; omega
  have b4 : decide ((64 : Int) < work.length) = false := by simp; omega
  have H := Lib.hid h
  have HL := Lib.hid hl
  clear h hl
  go_enter Try.func13, Try.ntmps13
  go_wp2_with fail
  go_loopw [6, 8, 34] (fun left _ s wr => ∃ (j : Nat), s = .int .i64 j ∧ left = .int .i64 (1024 - (total (work.take j) : Int)) ∧ total (work.take j) ≤ 1024 ∧ j ≤ work.length ∧ wr = w) (fun _ _ s _ => work.length - (intOf s).toNat)
  case atStart => exact ⟨0, rfl, by simp [total], by simp [total], by omega, rfl⟩
  case round =>
    obtain ⟨j, rfl, rfl, ht0, hjn, e⟩ := hrel
    obtain rfl := e.symm
    clear e
    by_cases hlt : j < work.length
    · have d1 : decide ((j : Int) < (work.length : Int)) = true := by simp; omega
      have q1 : (0 : Int) ≤ (j : Int) := by omega
      have q2 : (j : Int) < (work.length : Int) := by omega
      obtain ⟨l, hi⟩ : ∃ l, work[j]? = some l := ⟨work[j], List.getElem?_eq_getElem hlt⟩
      obtain ⟨bW, oW, rfl, A', c, hc, _, _⟩ := H.out j l hi
      have ht1 := total_take work j l hi
      have hll := HL.out l (List.mem_of_getElem? hi)
      have HT := Lib.hid ht1
      clear hi ht1
      by_cases hlg : 1024 - (total (work.take j) : Int) < (l.length : Int)
      · have d2 : decide ((1024 - (total (work.take j) : Int)) < (l.length : Int)) = true := by simpa using hlg
        clear hlg
        go_wp2_with fail
        refine bodyPost_ret (v := .tuple #[.pointer none, .int .i64 3]) (by simp [results, Try.results13, go_sem, *]) rfl (⟨rfl, Below.refl _ _⟩)
      · have d2 : decide ((1024 - (total (work.take j) : Int)) < (l.length : Int)) = false := by simpa using hlg
        have w1 : wrap64 (1024 - (total (work.take j) : Int) - (l.length : Int)) = 1024 - (total (work.take (j + 1)) : Int) := by have e := HT.out; unfold wrap64; omega
        have W1 := Lib.hid w1
        have ht2 : total (work.take (j + 1)) ≤ 1024 := by have e := HT.out; omega
        clear w1 hlg
        go_wp2_with fail
        refine ⟨⟨j + 1, by simp, val_int (by have e := HT.out; omega), ht2, by omega, trivial⟩, by simp [intOf]; omega⟩
    · obtain rfl : j = work.length := by omega
      rw [List.take_length] at ht0
      omega
end Go.Proofs.Ytimkoepaeebleaa
