/- slices.Repeat at a lock: a row of locks. -/
import Derived.Test.YtimkoepaeebleaaShNew
import Derived.Deep.DeepCutAuto
namespace Go.Proofs.Ytimkoepaeebleaa
set_option linter.unusedVariables false
open Go.RowKit

theorem made_rep {w w0 : World} {n : Nat} {xs : List Value} (h : w0.ownsRow w.heap.size 74 7 (.slice (some ⟨w.heap.size, 0, none⟩) n n) n xs) (hg : w.grownBy w0 none) (hn : 0 < n) :
    ∃ arr, Blk w0 w.heap.size 74 arr ∧ arr.size = n * 7 ∧ Below w.heap.size w w0 := by
  rcases h.2 with ⟨h0, _⟩ | ⟨g, cap, cur, hv, _, hh, _, _, hs, _⟩
  · cases h0
  · simp only [Value.slice.injEq, Option.some.injEq, Addr.mk.injEq] at hv
    obtain ⟨⟨rfl, _⟩, _, hc⟩ := hv
    exact ⟨cur, hh, by rw [hs, ← hc], (Below.refl _ _).grown hg (Nat.le_refl _) (fun k h => by cases h)⟩
theorem bl_far {w w0 w1 : World} (hb : Below w.heap.size w w0) (hC : Chg (fun b => b = w.heap.size) w0 w1) : Below w.heap.size w w1 :=
  ⟨hC.os.trans hb.os, hC.tape.trans hb.tape, hC.output.trans hb.output, Nat.le_trans hb.size hC.size, fun k hk => (hC.block k (by have := hb.size; omega) (by omega)).trans (hb.block k hk)⟩
theorem wrap_small (k : Nat) (h : k ≤ 1000000) : wrap64 (k : Int) = k := by unfold wrap64; omega
def RepPost (w : World) (n : Nat) (e : Ending) (w' : World) : Prop := ∃ g, e = .returned (.slice (some ⟨g, 0, none⟩) n n) ∧ Rep w' g n n ∧ Below w.heap.size w w' ∧ w.heap.size ≤ g

theorem infoCell : (Try.prog.info? 74).map (fun i => (i.zero, i.size, i.bytes)) = some (some (.agg #[.int .i64 0, .int .i64 0, .int .i64 0, .int .i64 0, .slice none 0 0, .int .i64 0, .bool false]), 7, 72) := by kernel_rfl
set_option maxRecDepth 100000 in
set_option maxHeartbeats 1000000 in
theorem Repeat_lock (w : World) (b n : Nat) (t0 : TypeId) (hn : 1 ≤ n) (hn2 : n ≤ 256) (hB : Blk w b t0 (lockC (-1)).toArray) :
    Calls Try.prog 37 #[.slice (some ⟨b, 0, none⟩) 1 1, .int .i64 n] w (RepPost w n) := by
  have HB := Lib.hid hB
  have hw1 : IntKind.u64.wrap (n : Int) = n := by rw [IntKind.wrap_u64]; omega
  have hw2 : IntKind.i64.wrap (n : Int) = n := by rw [IntKind.wrap_i64]; omega
  have m0 : 1 * n / 18446744073709551616 = 0 := by omega
  have m1 : 1 * n % 18446744073709551616 = n := by omega
  have m2 : n / 18446744073709551616 = 0 := by omega
  have m3 : n % 18446744073709551616 = n := by omega
  have b0 : decide ((n : Int) < 0) = false := by simp
  obtain ⟨i0, hi, hz0, hz1, hz2⟩ := info_parts infoCell
  have HM : ∀ W, Calls Try.prog 57 #[.int .u64 1, .int .u64 n] W fun e w' => e = .returned (.tuple #[.int .u64 0, .int .u64 n]) ∧ W = w' := fun W => by
    have h1 := bits_Mul 1 n (by decide) (by omega) W
    rw [m0, m1, Int.natCast_one, Int.natCast_zero] at h1
    exact h1.mono fun _ _ ⟨a, b⟩ => ⟨a, b.symm⟩
  clear hB m0 m1 m2 m3
  go_enter Try.func37, Try.ntmps37
  go_wp2_with fail
  go_at_call 57
  refine (HM _).mono ?_
  rintro e w' ⟨rfl, rfl⟩
  have b1 : decide ((9223372036854775807 : Int) < n) = false := by simp; omega
  go_upto_region 6 with fail
  go_wp2_with (at_make; refine wpList_make_full _ rfl _ _ 79 rfl w.heap.size 74 i0 _ 7 Try.underlying79 hi hz0 hz1 .i64 .i64 _ _ n rfl rfl (by first | rfl | omega) (by first | rfl | omega) (by rw [hz2]; omega) (by unfold maxLen; omega) (Nat.le_refl _) ?_; intro w0 hown0 hgrow0)
  obtain ⟨arr0, hA, hsz0, hb0⟩ := made_rep hown0 hgrow0 (by omega)
  obtain ⟨w1, hc1, hB1, hC1, hs1⟩ := copy_gives (P := Try.prog) 79 79 3 74 w.heap.size 0 n n ⟨b, 0, none⟩ 1 1 arr0 74 (lockC (-1)) 1 7 Try.underlying79 (by kernel_rfl) hA (by show 1 = min 1 n; omega) rfl (fun j v hj => by
    rw [show (⟨b, 0, none⟩ : Addr).add j = ⟨b, 0 + j, none⟩ by unfold Addr.add; split <;> simp_all]
    rw [(bk_below hb0 HB.out.lt HB.out).cell]; simpa using hj) (by rw [hsz0]; show 0 + 7 ≤ n * 7; omega) (by decide)
  obtain ⟨g, hg⟩ : ∃ g, g = w.heap.size := ⟨_, rfl⟩
  have hr1 : Rep w1 g n 1 := by
    obtain ⟨h1, h2⟩ := rep_more (arr := arr0) (n := n) (k := 0) (m := 1) hsz0 (by simp) (by omega)
    rw [hg]
    exact ⟨_, bk_eq hB1 (by simp [lockC]), h1, h2⟩
  have hbl1 : Below w.heap.size w w1 := bl_far hb0 hC1
  clear hB1 hC1 hown0 hgrow0 hA
  go_wp2_with fail
  go_simp
  go_wp2_with fail
  go_loopw [8] (fun s wr => ∃ k : Nat, s = .int .i64 k ∧ 1 ≤ k ∧ k ≤ n ∧ Rep wr g n k ∧ Below w.heap.size w wr)
    (fun s _ => n - (intOf s).toNat)
  case atStart => exact ⟨1, rfl, by omega, by omega, hr1, hbl1⟩
  case round =>
    obtain ⟨k, rfl, hk1, hkn, hR, hbk⟩ := hrel
    obtain ⟨arr, hA, hs, ht⟩ := hR
    by_cases hlt : k < n
    · have d1 : decide ((k : Int) < (n : Int)) = true := by simp; omega
      obtain ⟨m, hm⟩ : ∃ m, m = min k (n - k) := ⟨_, rfl⟩
      have hl : ((List.replicate m (-1 : Int)).flatMap lockC).length = m * 7 := by rw [flat_len lockC 7 lockC_len, List.length_replicate]
      have hsub := rep_sub ht (show m ≤ k by omega)
      obtain ⟨w2, hc2, hB2, hC2, hs2⟩ := copy_gives (P := Try.prog) (w := wr.drew) 79 79 3 74 w.heap.size (k * 7) (n - k) (n - k) ⟨w.heap.size, 0, none⟩ k n arr 74 ((List.replicate m (-1)).flatMap lockC) m 7 Try.underlying79 (by kernel_rfl) (by rw [hg] at hA; exact hA) hm hl (fun j v hj => by
        rw [show (⟨w.heap.size, 0, none⟩ : Addr).add j = ⟨w.heap.size, 0 + j, none⟩ by unfold Addr.add; split <;> simp_all]
        have hjl : j < m * 7 := by rw [← hl]; exact (List.getElem?_eq_some_iff.1 hj).1
        rw [← hsub, List.getElem?_take, if_pos hjl] at hj
        rw [show wr.drew.cell? ⟨w.heap.size, 0 + j, none⟩ = wr.cell? ⟨w.heap.size, 0 + j, none⟩ from rfl, (hg ▸ hA : Blk wr w.heap.size 74 arr).cell]; simpa using hj) (by rw [hl, hs]; omega) (by
          intro v hv
          obtain ⟨o, _, ho⟩ := List.mem_flatMap.1 hv
          simp [lockC] at ho
          rcases ho with rfl | rfl | rfl | rfl | rfl | rfl | rfl <;> rfl)
      have hkm0 : k + m ≤ n := by omega
      have hr2 : Rep w2 g n (k + m) ∧ Below w.heap.size w w2 ∧ k + m ≤ n ∧ 1 ≤ m := by
        obtain ⟨h1, h2⟩ := rep_more (arr := arr) (n := n) (k := k) (m := m) hs ht (by omega)
        exact ⟨⟨_, hg ▸ hB2, h1, h2⟩, bl_far (bl_drew hbk) hC2, by omega, by omega⟩
      have HR2 := Lib.hid hr2
      clear hm hl hr2 hB2 hC2
      have b3 : (0 : Int) ≤ (k : Int) := by omega
      have b4 : (k : Int) ≤ (n : Int) := by omega
      go_wp2_with fail
      go_region
      obtain ⟨hr, hb2, hkm, hm1⟩ := HR2.out
      go_wp2_with fail
      go_roundw
      case rel => exact ⟨k + m, by simp, by omega, hkm, hr, hb2⟩
      case measure => simp [intOf]; omega
    · have d1 : decide ((k : Int) < (n : Int)) = false := by simp; omega
      go_wp2_with fail
      go_ret
      obtain rfl : k = n := by omega
      exact ⟨g, by rw [hg]; rfl, ⟨arr, hA, hs, ht⟩, hbk, by omega⟩
end Go.Proofs.Ytimkoepaeebleaa
