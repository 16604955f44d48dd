/- A memory of locks: an access that is done. -/
import Derived.Test.YtimkoepaeebleaaShMem
import Derived.StillTailTactics
namespace Go.Proofs.Ytimkoepaeebleaa
open Go.RowKit

theorem Locks.put {arr : Array Value} {own : List Int} (h : Locks arr own) (i : Nat) (hi : i < own.length) (p : Int) :
    Locks (((((((arr.setIfInBounds (i * 7) (.int .i64 2)).setIfInBounds (i * 7 + 1) (.int .i64 0)).setIfInBounds (i * 7 + 2) (.int .i64 p)).setIfInBounds (i * 7 + 3) (.int .i64 0)).setIfInBounds (i * 7 + 4) (.slice none 0 0)).setIfInBounds (i * 7 + 5) (.int .i64 0)).setIfInBounds (i * 7 + 6) (.bool false)) (own.set i p) := by
  have hsz : i * 7 + 6 < arr.size := by
    obtain ⟨_, _, _, _, _, _, h6⟩ := h i own[i] (List.getElem?_eq_getElem hi)
    exact (Array.getElem?_eq_some_iff.1 h6).1
  intro k o hk
  rw [List.getElem?_set] at hk
  by_cases hki : i = k
  · subst hki
    simp only [if_true, hi] at hk
    obtain rfl : p = o := by simpa using hk
    refine ⟨?_, ?_, ?_, ?_, ?_, ?_, ?_⟩ <;> simp [Array.getElem?_setIfInBounds] <;> omega
  · rw [if_neg hki] at hk
    obtain ⟨h0, h1, h2, h3, h4, h5, h6⟩ := h k o hk
    have e : ∀ a b : Nat, a < 7 → b < 7 → i * 7 + a ≠ k * 7 + b := by intro a b ha hb; omega
    have e0 : ∀ b : Nat, b < 7 → i * 7 ≠ k * 7 + b := by intro b hb; omega
    have e1 : ∀ a : Nat, a < 7 → i * 7 + a ≠ k * 7 := by intro b hb; omega
    have e2 : i * 7 ≠ k * 7 := by omega
    refine ⟨?_, ?_, ?_, ?_, ?_, ?_, ?_⟩ <;> (first | (simp [Array.getElem?_setIfInBounds, e, e0, e1, e2, hki, *]; done) | (simp [*]; done))

set_option maxHeartbeats 400000 in
theorem Do_free (lk ck n c i : Nat) (st wk : Int) (own : List Int) (w : World) (hwk : isWk wk = true) (hi : own[i]? = some (-1)) (hn : n ≤ 4096) (hst : 0 ≤ st) (hst' : st ≤ 1000000000) (hlc : lk ≠ ck) (h : MemAt w lk ck n c st own) :
    Calls Try.prog 52 #[.pointer (some ⟨lk, 0, none⟩), .int .i64 wk, .agg #[.int .i64 3, .int .i64 i, .int .i64 0, .int .i64 0]] w fun e w' => e = .returned (.tuple #[.int .i64 0, .int .i64 0]) ∧ Chg (fun b => b = lk ∨ b = ck) w w' ∧ MemAt w' lk ck n c (st + 1) (own.set i (wk)) := by
  have hin : i < n := by rw [← h.own_len]; exact (List.getElem?_eq_some_iff.1 hi).1
  have H := Lib.hid h
  have HL := Lib.hid (h.at_ hi)
  clear h hi
  have b3 : (0 : Int) ≤ (i : Int) := by omega
  have b4 : (i : Int) < (n : Int) := by omega
  go_enter Try.func52, Try.ntmps52
  go_wp2_with fail
  (go_at_call 58; refine (look_free lk ck n c i st wk (-1) _ hwk hin hn (HL.out.below (by (repeat (first | with_reducible exact Below.refl _ _ | (with_reducible refine bl_drew ?_) | (with_reducible refine bl_drewN ?_) | (with_reducible refine bl_alloc ?_ ?_; (focus (first | omega | (simp; done) | (simp; omega)))) | (with_reducible refine bl_set ?_ ?_; (focus (first | omega | (simp; done) | (simp; omega)))) | (with_reducible refine bl_trans ?_ (by assumption) ?_; (focus (first | omega | (simp; done) | (simp; omega))))))))).mono ?_; rintro e w1 ⟨rfl, hb_w1⟩; obtain ⟨hc_w1, hf_w1⟩ := bcell hb_w1; have hz_w1 := hb_w1.size; try simp at hz_w1)
  have q1 : w.heap.size < w1.heap.size := by omega
  have H1 := Lib.hid (HL.out.below (w' := w1) (by (repeat (first | with_reducible exact Below.refl _ _ | (with_reducible refine bl_drew ?_) | (with_reducible refine bl_drewN ?_) | (with_reducible refine bl_alloc ?_ ?_; (focus (first | omega | (simp; done) | (simp; omega)))) | (with_reducible refine bl_set ?_ ?_; (focus (first | omega | (simp; done) | (simp; omega)))) | (with_reducible refine bl_trans ?_ (by assumption) ?_; (focus (first | omega | (simp; done) | (simp; omega))))))))
  obtain ⟨_, r1, r2, c0, c1, c2, c3, c4, c5, c6, r3, r4, _, _⟩ := H1.out
  have hl1 := H1.out.lt
  have hl2 := H1.out.lt'
  go_wp2_with fail
  have s1 : lk < w1.heap.size := hl1
  have n1 : ck ≠ w.heap.size := by have := HL.out.lt'; omega
  have n2 : lk ≠ w.heap.size := by have := HL.out.lt; omega
  have n3 := hlc.symm
  go_region_held3 (fun w' => w'.cell? ⟨lk, 1, none⟩ = some (.slice (some ⟨ck, 0, none⟩) n c) ∧ w'.cell? ⟨w.heap.size, 1, none⟩ = some (.int .i64 i)
    ∧ w'.cell? ⟨w1.heap.size, 0, none⟩ = some (.int .i64 2) ∧ w'.cell? ⟨w1.heap.size, 1, none⟩ = some (.int .i64 0) ∧ w'.cell? ⟨w1.heap.size, 2, none⟩ = some (.int .i64 (wk)) ∧ w'.cell? ⟨w1.heap.size, 3, none⟩ = some (.int .i64 0) ∧ w'.cell? ⟨w1.heap.size, 4, none⟩ = some (.slice none 0 0) ∧ w'.cell? ⟨w1.heap.size, 5, none⟩ = some (.int .i64 0) ∧ w'.cell? ⟨w1.heap.size, 6, none⟩ = some (.bool false)) (simp [go_sem, *]) (fail)
  go_wp2_with fail
  go_ret2
  obtain ⟨g0, g1, arr, g2, g3⟩ := H.out
  have m1 : lk < w.heap.size := g1.lt
  have m2 : ck < w.heap.size := g2.lt
  have G1 := bk_below hb_w1 (by simp; omega) (bk_alloc g1)
  have G2 := bk_below hb_w1 (by simp; omega) (bk_alloc g2)
  refine ⟨rfl, (by (repeat (first | with_reducible assumption | with_reducible exact Chg.refl _ _ | (with_reducible refine cg_drew ?_) | (with_reducible refine cg_drewN ?_) | (with_reducible refine cg_alloc ?_) | (with_reducible refine cg_set ?_ ?_; (focus (first | exact Or.inl (by assumption) | (simp; done) | (simp; omega)))) | (with_reducible refine cg_below (by assumption) ?_)))), by simpa using g0, ?_, ?_⟩
  · apply bk_eq
    focus (repeat (first | with_reducible exact G1 | (with_reducible apply bk_drew) | (with_reducible apply bk_drewN) | (with_reducible apply bk_alloc) | (with_reducible apply bk_set) | (with_reducible apply bk_far; (focus (first | assumption | omega | (simp; done) | (simp; omega)))) | (with_reducible apply bk_below; (focus assumption); (focus (first | assumption | omega | (simp; done) | (simp; omega))))))
    rfl
  · apply locks_mk
    focus (repeat (first | with_reducible exact G2 | (with_reducible apply bk_drew) | (with_reducible apply bk_drewN) | (with_reducible apply bk_alloc) | (with_reducible apply bk_set) | (with_reducible apply bk_far; (focus (first | assumption | omega | (simp; done) | (simp; omega)))) | (with_reducible apply bk_below; (focus assumption); (focus (first | assumption | omega | (simp; done) | (simp; omega))))))
    exact Locks.put g3 i (by rw [g0]; exact hin) _

set_option maxHeartbeats 400000 in
theorem Do_done (lk ck n c i : Nat) (st wk : Int) (own : List Int) (w : World) (hwk : isWk wk = true) (hi : own[i]? = some (wk)) (hn : n ≤ 4096) (hst : 0 ≤ st) (hst' : st ≤ 1000000000) (hlc : lk ≠ ck) (h : MemAt w lk ck n c st own) :
    Calls Try.prog 52 #[.pointer (some ⟨lk, 0, none⟩), .int .i64 wk, .agg #[.int .i64 4, .int .i64 i, .int .i64 0, .int .i64 0]] w fun e w' => e = .returned (.tuple #[.int .i64 0, .int .i64 0]) ∧ Chg (fun b => b = lk ∨ b = ck) w w' ∧ MemAt w' lk ck n c (st + 1) (own.set i (-1)) := by
  have hin : i < n := by rw [← h.own_len]; exact (List.getElem?_eq_some_iff.1 hi).1
  have H := Lib.hid h
  have HL := Lib.hid (h.at_ hi)
  clear h hi
  have b3 : (0 : Int) ≤ (i : Int) := by omega
  have b4 : (i : Int) < (n : Int) := by omega
  go_enter Try.func52, Try.ntmps52
  go_wp2_with fail
  (go_at_call 58; refine (look_done lk ck n c i st wk (wk) _ hwk hin hn (HL.out.below (by (repeat (first | with_reducible exact Below.refl _ _ | (with_reducible refine bl_drew ?_) | (with_reducible refine bl_drewN ?_) | (with_reducible refine bl_alloc ?_ ?_; (focus (first | omega | (simp; done) | (simp; omega)))) | (with_reducible refine bl_set ?_ ?_; (focus (first | omega | (simp; done) | (simp; omega)))) | (with_reducible refine bl_trans ?_ (by assumption) ?_; (focus (first | omega | (simp; done) | (simp; omega))))))))).mono ?_; rintro e w1 ⟨rfl, hb_w1⟩; obtain ⟨hc_w1, hf_w1⟩ := bcell hb_w1; have hz_w1 := hb_w1.size; try simp at hz_w1)
  have q1 : w.heap.size < w1.heap.size := by omega
  have H1 := Lib.hid (HL.out.below (w' := w1) (by (repeat (first | with_reducible exact Below.refl _ _ | (with_reducible refine bl_drew ?_) | (with_reducible refine bl_drewN ?_) | (with_reducible refine bl_alloc ?_ ?_; (focus (first | omega | (simp; done) | (simp; omega)))) | (with_reducible refine bl_set ?_ ?_; (focus (first | omega | (simp; done) | (simp; omega)))) | (with_reducible refine bl_trans ?_ (by assumption) ?_; (focus (first | omega | (simp; done) | (simp; omega))))))))
  obtain ⟨_, r1, r2, c0, c1, c2, c3, c4, c5, c6, r3, r4, _, _⟩ := H1.out
  have hl1 := H1.out.lt
  have hl2 := H1.out.lt'
  go_wp2_with fail
  have s1 : lk < w1.heap.size := hl1
  have n1 : ck ≠ w.heap.size := by have := HL.out.lt'; omega
  have n2 : lk ≠ w.heap.size := by have := HL.out.lt; omega
  have n3 := hlc.symm
  go_region_held3 (fun w' => w'.cell? ⟨lk, 1, none⟩ = some (.slice (some ⟨ck, 0, none⟩) n c) ∧ w'.cell? ⟨w.heap.size, 1, none⟩ = some (.int .i64 i)
    ∧ w'.cell? ⟨w1.heap.size, 0, none⟩ = some (.int .i64 2) ∧ w'.cell? ⟨w1.heap.size, 1, none⟩ = some (.int .i64 0) ∧ w'.cell? ⟨w1.heap.size, 2, none⟩ = some (.int .i64 (-1)) ∧ w'.cell? ⟨w1.heap.size, 3, none⟩ = some (.int .i64 0) ∧ w'.cell? ⟨w1.heap.size, 4, none⟩ = some (.slice none 0 0) ∧ w'.cell? ⟨w1.heap.size, 5, none⟩ = some (.int .i64 0) ∧ w'.cell? ⟨w1.heap.size, 6, none⟩ = some (.bool false)) (simp [go_sem, *]) (fail)
  go_wp2_with fail
  go_ret2
  obtain ⟨g0, g1, arr, g2, g3⟩ := H.out
  have m1 : lk < w.heap.size := g1.lt
  have m2 : ck < w.heap.size := g2.lt
  have G1 := bk_below hb_w1 (by simp; omega) (bk_alloc g1)
  have G2 := bk_below hb_w1 (by simp; omega) (bk_alloc g2)
  refine ⟨rfl, (by (repeat (first | with_reducible assumption | with_reducible exact Chg.refl _ _ | (with_reducible refine cg_drew ?_) | (with_reducible refine cg_drewN ?_) | (with_reducible refine cg_alloc ?_) | (with_reducible refine cg_set ?_ ?_; (focus (first | exact Or.inl (by assumption) | (simp; done) | (simp; omega)))) | (with_reducible refine cg_below (by assumption) ?_)))), by simpa using g0, ?_, ?_⟩
  · apply bk_eq
    focus (repeat (first | with_reducible exact G1 | (with_reducible apply bk_drew) | (with_reducible apply bk_drewN) | (with_reducible apply bk_alloc) | (with_reducible apply bk_set) | (with_reducible apply bk_far; (focus (first | assumption | omega | (simp; done) | (simp; omega)))) | (with_reducible apply bk_below; (focus assumption); (focus (first | assumption | omega | (simp; done) | (simp; omega))))))
    rfl
  · apply locks_mk
    focus (repeat (first | with_reducible exact G2 | (with_reducible apply bk_drew) | (with_reducible apply bk_drewN) | (with_reducible apply bk_alloc) | (with_reducible apply bk_set) | (with_reducible apply bk_far; (focus (first | assumption | omega | (simp; done) | (simp; omega)))) | (with_reducible apply bk_below; (focus assumption); (focus (first | assumption | omega | (simp; done) | (simp; omega))))))
    exact Locks.put g3 i (by rw [g0]; exact hin) _

end Go.Proofs.Ytimkoepaeebleaa
