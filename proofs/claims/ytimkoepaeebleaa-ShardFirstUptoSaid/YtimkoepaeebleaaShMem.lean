/- A memory of locks: what an access looks at, does, and whether it waits. -/
import Derived.Test.YtimkoepaeebleaaShCells
namespace Go.Proofs.Ytimkoepaeebleaa
set_option linter.unusedVariables false
open Go.RowKit

/-- A row of locks: the owner of each. -/
def Locks (arr : Array Value) (own : List Int) : Prop := ∀ i o, own[i]? = some o →
  arr[i * 7]? = some (.int .i64 2) ∧ arr[i * 7 + 1]? = some (.int .i64 0) ∧ arr[i * 7 + 2]? = some (.int .i64 o) ∧ arr[i * 7 + 3]? = some (.int .i64 0) ∧
  arr[i * 7 + 4]? = some (.slice none 0 0) ∧ arr[i * 7 + 5]? = some (.int .i64 0) ∧ arr[i * 7 + 6]? = some (.bool false)
/-- A memory of locks: its own block lk, its row ck. -/
structure MemAt (w : World) (lk ck n c : Nat) (st : Int) (own : List Int) : Prop where
  own_len : own.length = n
  lkb : Blk w lk 112 #[.bool true, .slice (some ⟨ck, 0, none⟩) n c, .int .i64 st]
  ckb : ∃ arr, Blk w ck 74 arr ∧ Locks arr own
theorem locks_mk {w : World} {ck : Nat} {t : TypeId} {arr : Array Value} {own : List Int} (h : Blk w ck t arr) (k : Locks arr own) : ∃ arr, Blk w ck t arr ∧ Locks arr own := ⟨arr, h, k⟩
theorem MemAt.keep {w w' : World} {lk ck n c : Nat} {st : Int} {own : List Int} (h : MemAt w lk ck n c st own) (h1 : w'.heap[lk]? = w.heap[lk]?) (h2 : w'.heap[ck]? = w.heap[ck]?) : MemAt w' lk ck n c st own :=
  ⟨h.own_len, h1.trans h.lkb, by obtain ⟨arr, ha, hl⟩ := h.ckb; exact ⟨arr, h2.trans ha, hl⟩⟩

/-- The lock of number i, as it lies in the memory's row. -/
structure LockAt (w : World) (lk ck n c : Nat) (st : Int) (i : Nat) (o : Int) : Prop where
  made : w.cell? ⟨lk, 0, none⟩ = some (.bool true)
  row : w.cell? ⟨lk, 1, none⟩ = some (.slice (some ⟨ck, 0, none⟩) n c)
  steps : w.cell? ⟨lk, 2, none⟩ = some (.int .i64 st)
  c0 : w.cell? ⟨ck, i * 7, none⟩ = some (.int .i64 2)
  c1 : w.cell? ⟨ck, i * 7 + 1, none⟩ = some (.int .i64 0)
  c2 : w.cell? ⟨ck, i * 7 + 2, none⟩ = some (.int .i64 o)
  c3 : w.cell? ⟨ck, i * 7 + 3, none⟩ = some (.int .i64 0)
  c4 : w.cell? ⟨ck, i * 7 + 4, none⟩ = some (.slice none 0 0)
  c5 : w.cell? ⟨ck, i * 7 + 5, none⟩ = some (.int .i64 0)
  c6 : w.cell? ⟨ck, i * 7 + 6, none⟩ = some (.bool false)
  fr : ∀ j, w.frozen? ⟨ck, j, none⟩ = false
  fr' : ∀ j, w.frozen? ⟨lk, j, none⟩ = false
  lt : lk < w.heap.size
  lt' : ck < w.heap.size

set_option maxHeartbeats 1000000 in
theorem look_free (lk ck n c i : Nat) (st wk o : Int) (w : World) (hwk : isWk wk = true) (hi : i < n) (hn : n ≤ 4096) (h : LockAt w lk ck n c st i (-1))  :
    Calls Try.prog 58 #[.pointer (some ⟨lk, 0, none⟩), .int .i64 wk, .agg #[.int .i64 3, .int .i64 i, .int .i64 0, .int .i64 0]] w fun e w' => e = .returned (.tuple #[.agg #[.int .i64 2, .int .i64 0, .int .i64 (wk), .int .i64 0, .slice none 0 0, .int .i64 0, .bool false], .int .i64 0, .int .i64 0]) ∧ Below w.heap.size w w' := by
  obtain ⟨g0, g1, g2, c0, c1, c2, c3, c4, c5, c6, g3, g4, l1, l2⟩ := h
  clear g2 g3 g4
  have b1 : decide ((i : Int) < 0) = false := by simp
  have b2 : decide (n ≤ i) = false := by simp; omega
  have b3 : (0 : Int) ≤ (i : Int) := by omega
  have s1 : lk < w.heap.size + 1 + 1 := by omega
  have s2 : ck < w.heap.size + 1 + 1 := by omega
  have b4 : (i : Int) < (n : Int) := by omega
  go_enter Try.func58, Try.ntmps58
  go_wp2_with fail
  go_quiet (fail)
  go_wp2_with fail
  go_region_held3 (fun w' => w'.cell? ⟨lk, 1, none⟩ = some (.slice (some ⟨ck, 0, none⟩) n c) ∧ w'.cell? ⟨w.heap.size, 0, none⟩ = some (.int .i64 3) ∧ w'.cell? ⟨w.heap.size, 1, none⟩ = some (.int .i64 i) ∧ w'.cell? ⟨w.heap.size, 2, none⟩ = some (.int .i64 0) ∧ w'.cell? ⟨w.heap.size, 3, none⟩ = some (.int .i64 0)
    ∧ w'.cell? ⟨ck, i * 7, none⟩ = some (.int .i64 2) ∧ w'.cell? ⟨ck, i * 7 + 1, none⟩ = some (.int .i64 0) ∧ w'.cell? ⟨ck, i * 7 + 2, none⟩ = some (.int .i64 (-1)) ∧ w'.cell? ⟨ck, i * 7 + 3, none⟩ = some (.int .i64 0) ∧ w'.cell? ⟨ck, i * 7 + 4, none⟩ = some (.slice none 0 0) ∧ w'.cell? ⟨ck, i * 7 + 5, none⟩ = some (.int .i64 0) ∧ w'.cell? ⟨ck, i * 7 + 6, none⟩ = some (.bool false)) (simp [go_sem, *])
    ((first | (go_at_call 69; refine (One_free _ _ (-1) _ hwk ).mono ?_; rintro e w1 ⟨rfl, hb_w1⟩; obtain ⟨hc_w1, hf_w1⟩ := bcell hb_w1; have hz_w1 := hb_w1.size; try simp at hz_w1)))
  go_wp2_with fail
  refine bodyPost_ret (v := .tuple #[.agg #[.int .i64 2, .int .i64 0, .int .i64 (wk), .int .i64 0, .slice none 0 0, .int .i64 0, .bool false], .int .i64 0, .int .i64 0]) (by simp [results, Try.results58, go_sem, *]) rfl ⟨rfl, (by (repeat (first | with_reducible exact Below.refl _ _ | (with_reducible refine bl_drew ?_) | (with_reducible refine bl_drewN ?_) | (with_reducible refine bl_alloc ?_ ?_; (focus (first | omega | (simp; done) | (simp; omega)))) | (with_reducible refine bl_set ?_ ?_; (focus (first | omega | (simp; done) | (simp; omega)))) | (with_reducible refine bl_trans ?_ (by assumption) ?_; (focus (first | omega | (simp; done) | (simp; omega)))))))⟩

set_option maxHeartbeats 1000000 in
theorem look_busy (lk ck n c i : Nat) (st wk o : Int) (w : World) (hwk : isWk wk = true) (hi : i < n) (hn : n ≤ 4096) (h : LockAt w lk ck n c st i (o)) (ho : o ≠ -1) (hw : o ≠ wk) (hok : okOwner o = true) :
    Calls Try.prog 58 #[.pointer (some ⟨lk, 0, none⟩), .int .i64 wk, .agg #[.int .i64 3, .int .i64 i, .int .i64 0, .int .i64 0]] w fun e w' => e = .returned (.tuple #[.agg #[.int .i64 2, .int .i64 0, .int .i64 (o), .int .i64 0, .slice none 0 0, .int .i64 0, .bool false], .int .i64 0, .int .i64 231]) ∧ Below w.heap.size w w' := by
  obtain ⟨g0, g1, g2, c0, c1, c2, c3, c4, c5, c6, g3, g4, l1, l2⟩ := h
  clear g2 g3 g4
  have b1 : decide ((i : Int) < 0) = false := by simp
  have b2 : decide (n ≤ i) = false := by simp; omega
  have b3 : (0 : Int) ≤ (i : Int) := by omega
  have s1 : lk < w.heap.size + 1 + 1 := by omega
  have s2 : ck < w.heap.size + 1 + 1 := by omega
  have b4 : (i : Int) < (n : Int) := by omega
  go_enter Try.func58, Try.ntmps58
  go_wp2_with fail
  go_quiet (fail)
  go_wp2_with fail
  go_region_held3 (fun w' => w'.cell? ⟨lk, 1, none⟩ = some (.slice (some ⟨ck, 0, none⟩) n c) ∧ w'.cell? ⟨w.heap.size, 0, none⟩ = some (.int .i64 3) ∧ w'.cell? ⟨w.heap.size, 1, none⟩ = some (.int .i64 i) ∧ w'.cell? ⟨w.heap.size, 2, none⟩ = some (.int .i64 0) ∧ w'.cell? ⟨w.heap.size, 3, none⟩ = some (.int .i64 0)
    ∧ w'.cell? ⟨ck, i * 7, none⟩ = some (.int .i64 2) ∧ w'.cell? ⟨ck, i * 7 + 1, none⟩ = some (.int .i64 0) ∧ w'.cell? ⟨ck, i * 7 + 2, none⟩ = some (.int .i64 (o)) ∧ w'.cell? ⟨ck, i * 7 + 3, none⟩ = some (.int .i64 0) ∧ w'.cell? ⟨ck, i * 7 + 4, none⟩ = some (.slice none 0 0) ∧ w'.cell? ⟨ck, i * 7 + 5, none⟩ = some (.int .i64 0) ∧ w'.cell? ⟨ck, i * 7 + 6, none⟩ = some (.bool false)) (simp [go_sem, *])
    ((first | (go_at_call 69; refine (One_busy _ _ (o) _ hwk ho hw hok).mono ?_; rintro e w1 ⟨rfl, hb_w1⟩; obtain ⟨hc_w1, hf_w1⟩ := bcell hb_w1; have hz_w1 := hb_w1.size; try simp at hz_w1)))
  go_wp2_with fail
  refine bodyPost_ret (v := .tuple #[.agg #[.int .i64 2, .int .i64 0, .int .i64 (o), .int .i64 0, .slice none 0 0, .int .i64 0, .bool false], .int .i64 0, .int .i64 231]) (by simp [results, Try.results58, go_sem, *]) rfl ⟨rfl, (by (repeat (first | with_reducible exact Below.refl _ _ | (with_reducible refine bl_drew ?_) | (with_reducible refine bl_drewN ?_) | (with_reducible refine bl_alloc ?_ ?_; (focus (first | omega | (simp; done) | (simp; omega)))) | (with_reducible refine bl_set ?_ ?_; (focus (first | omega | (simp; done) | (simp; omega)))) | (with_reducible refine bl_trans ?_ (by assumption) ?_; (focus (first | omega | (simp; done) | (simp; omega)))))))⟩

set_option maxHeartbeats 1000000 in
theorem look_done (lk ck n c i : Nat) (st wk o : Int) (w : World) (hwk : isWk wk = true) (hi : i < n) (hn : n ≤ 4096) (h : LockAt w lk ck n c st i (wk))  :
    Calls Try.prog 58 #[.pointer (some ⟨lk, 0, none⟩), .int .i64 wk, .agg #[.int .i64 4, .int .i64 i, .int .i64 0, .int .i64 0]] w fun e w' => e = .returned (.tuple #[.agg #[.int .i64 2, .int .i64 0, .int .i64 (-1), .int .i64 0, .slice none 0 0, .int .i64 0, .bool false], .int .i64 0, .int .i64 0]) ∧ Below w.heap.size w w' := by
  obtain ⟨g0, g1, g2, c0, c1, c2, c3, c4, c5, c6, g3, g4, l1, l2⟩ := h
  clear g2 g3 g4
  have b1 : decide ((i : Int) < 0) = false := by simp
  have b2 : decide (n ≤ i) = false := by simp; omega
  have b3 : (0 : Int) ≤ (i : Int) := by omega
  have s1 : lk < w.heap.size + 1 + 1 := by omega
  have s2 : ck < w.heap.size + 1 + 1 := by omega
  have b4 : (i : Int) < (n : Int) := by omega
  go_enter Try.func58, Try.ntmps58
  go_wp2_with fail
  go_quiet (fail)
  go_wp2_with fail
  go_region_held3 (fun w' => w'.cell? ⟨lk, 1, none⟩ = some (.slice (some ⟨ck, 0, none⟩) n c) ∧ w'.cell? ⟨w.heap.size, 0, none⟩ = some (.int .i64 4) ∧ w'.cell? ⟨w.heap.size, 1, none⟩ = some (.int .i64 i) ∧ w'.cell? ⟨w.heap.size, 2, none⟩ = some (.int .i64 0) ∧ w'.cell? ⟨w.heap.size, 3, none⟩ = some (.int .i64 0)
    ∧ w'.cell? ⟨ck, i * 7, none⟩ = some (.int .i64 2) ∧ w'.cell? ⟨ck, i * 7 + 1, none⟩ = some (.int .i64 0) ∧ w'.cell? ⟨ck, i * 7 + 2, none⟩ = some (.int .i64 (wk)) ∧ w'.cell? ⟨ck, i * 7 + 3, none⟩ = some (.int .i64 0) ∧ w'.cell? ⟨ck, i * 7 + 4, none⟩ = some (.slice none 0 0) ∧ w'.cell? ⟨ck, i * 7 + 5, none⟩ = some (.int .i64 0) ∧ w'.cell? ⟨ck, i * 7 + 6, none⟩ = some (.bool false)) (simp [go_sem, *])
    ((first | (go_at_call 69; refine (One_done _ _ (wk) _ hwk ).mono ?_; rintro e w1 ⟨rfl, hb_w1⟩; obtain ⟨hc_w1, hf_w1⟩ := bcell hb_w1; have hz_w1 := hb_w1.size; try simp at hz_w1)))
  go_wp2_with fail
  refine bodyPost_ret (v := .tuple #[.agg #[.int .i64 2, .int .i64 0, .int .i64 (-1), .int .i64 0, .slice none 0 0, .int .i64 0, .bool false], .int .i64 0, .int .i64 0]) (by simp [results, Try.results58, go_sem, *]) rfl ⟨rfl, (by (repeat (first | with_reducible exact Below.refl _ _ | (with_reducible refine bl_drew ?_) | (with_reducible refine bl_drewN ?_) | (with_reducible refine bl_alloc ?_ ?_; (focus (first | omega | (simp; done) | (simp; omega)))) | (with_reducible refine bl_set ?_ ?_; (focus (first | omega | (simp; done) | (simp; omega)))) | (with_reducible refine bl_trans ?_ (by assumption) ?_; (focus (first | omega | (simp; done) | (simp; omega)))))))⟩


theorem LockAt.below {w w' : World} {lk ck n c i : Nat} {st o : Int} (h : LockAt w lk ck n c st i o) (hb : Below w.heap.size w w') : LockAt w' lk ck n c st i o := by
  obtain ⟨g0, g1, g2, c0, c1, c2, c3, c4, c5, c6, g3, g4, l1, l2⟩ := h
  have h1 : ∀ j, w'.cell? ⟨lk, j, none⟩ = w.cell? ⟨lk, j, none⟩ := fun j => hb.cell (p := ⟨lk, j, none⟩) l1
  have h2 : ∀ j, w'.cell? ⟨ck, j, none⟩ = w.cell? ⟨ck, j, none⟩ := fun j => hb.cell (p := ⟨ck, j, none⟩) l2
  have h3 : ∀ j, w'.frozen? ⟨lk, j, none⟩ = w.frozen? ⟨lk, j, none⟩ := fun j => hb.frozen (p := ⟨lk, j, none⟩) l1
  have h4 : ∀ j, w'.frozen? ⟨ck, j, none⟩ = w.frozen? ⟨ck, j, none⟩ := fun j => hb.frozen (p := ⟨ck, j, none⟩) l2
  have hs := hb.size
  exact ⟨(h1 _).trans g0, (h1 _).trans g1, (h1 _).trans g2, (h2 _).trans c0, (h2 _).trans c1, (h2 _).trans c2, (h2 _).trans c3, (h2 _).trans c4, (h2 _).trans c5, (h2 _).trans c6, fun j => (h4 j).trans (g3 j), fun j => (h3 j).trans (g4 j), by omega, by omega⟩
theorem MemAt.at_ {w : World} {lk ck n c i : Nat} {st o : Int} {own : List Int} (h : MemAt w lk ck n c st own) (hi : own[i]? = some o) : LockAt w lk ck n c st i o := by
  obtain ⟨_, h1, arr, h2, h3⟩ := h
  obtain ⟨c0, c1, c2, c3, c4, c5, c6⟩ := h3 i o hi
  exact ⟨by rw [cell_of_heap h1]; rfl, by rw [cell_of_heap h1]; rfl, by rw [cell_of_heap h1]; rfl, by rw [cell_of_heap h2]; exact c0, by rw [cell_of_heap h2]; exact c1, by rw [cell_of_heap h2]; exact c2, by rw [cell_of_heap h2]; exact c3, by rw [cell_of_heap h2]; exact c4,
    by rw [cell_of_heap h2]; exact c5, by rw [cell_of_heap h2]; exact c6, fun _ => free_of_heap h2, fun _ => free_of_heap h1, lt_of_heap h1, lt_of_heap h2⟩

set_option maxHeartbeats 1000000 in
theorem MemWaits_free (lk ck n c i : Nat) (st wk o : Int) (w : World) (hwk : isWk wk = true) (hi : i < n) (hn : n ≤ 4096) (h : LockAt w lk ck n c st i (-1))  :
    Calls Try.prog 40 #[.pointer (some ⟨lk, 0, none⟩), .int .i64 wk, .agg #[.int .i64 3, .int .i64 i, .int .i64 0, .int .i64 0]] w fun e w' => e = .returned (.bool false) ∧ Below w.heap.size w w' := by
  have H := Lib.hid h
  clear h
  go_enter Try.func40, Try.ntmps40
  go_wp2_with fail
  (go_at_call 58; refine (look_free lk ck n c i st wk (-1) _ hwk hi hn (H.out.below (by (repeat (first | with_reducible exact Below.refl _ _ | (with_reducible refine bl_drew ?_) | (with_reducible refine bl_drewN ?_) | (with_reducible refine bl_alloc ?_ ?_; (focus (first | omega | (simp; done) | (simp; omega)))) | (with_reducible refine bl_set ?_ ?_; (focus (first | omega | (simp; done) | (simp; omega)))) | (with_reducible refine bl_trans ?_ (by assumption) ?_; (focus (first | omega | (simp; done) | (simp; omega)))))))) ).mono ?_; rintro e w1 ⟨rfl, hb_w1⟩; obtain ⟨hc_w1, hf_w1⟩ := bcell hb_w1; have hz_w1 := hb_w1.size; try simp at hz_w1)
  have q1 : w.heap.size < w1.heap.size := by omega
  go_wp2_with fail
  go_ret
  exact ⟨rfl, (by (repeat (first | with_reducible exact Below.refl _ _ | (with_reducible refine bl_drew ?_) | (with_reducible refine bl_drewN ?_) | (with_reducible refine bl_alloc ?_ ?_; (focus (first | omega | (simp; done) | (simp; omega)))) | (with_reducible refine bl_set ?_ ?_; (focus (first | omega | (simp; done) | (simp; omega)))) | (with_reducible refine bl_trans ?_ (by assumption) ?_; (focus (first | omega | (simp; done) | (simp; omega)))))))⟩

set_option maxHeartbeats 1000000 in
theorem MemWaits_busy (lk ck n c i : Nat) (st wk o : Int) (w : World) (hwk : isWk wk = true) (hi : i < n) (hn : n ≤ 4096) (h : LockAt w lk ck n c st i (o)) (ho : o ≠ -1) (hw : o ≠ wk) (hok : okOwner o = true) :
    Calls Try.prog 40 #[.pointer (some ⟨lk, 0, none⟩), .int .i64 wk, .agg #[.int .i64 3, .int .i64 i, .int .i64 0, .int .i64 0]] w fun e w' => e = .returned (.bool true) ∧ Below w.heap.size w w' := by
  have H := Lib.hid h
  clear h
  go_enter Try.func40, Try.ntmps40
  go_wp2_with fail
  (go_at_call 58; refine (look_busy lk ck n c i st wk (o) _ hwk hi hn (H.out.below (by (repeat (first | with_reducible exact Below.refl _ _ | (with_reducible refine bl_drew ?_) | (with_reducible refine bl_drewN ?_) | (with_reducible refine bl_alloc ?_ ?_; (focus (first | omega | (simp; done) | (simp; omega)))) | (with_reducible refine bl_set ?_ ?_; (focus (first | omega | (simp; done) | (simp; omega)))) | (with_reducible refine bl_trans ?_ (by assumption) ?_; (focus (first | omega | (simp; done) | (simp; omega)))))))) ho hw hok).mono ?_; rintro e w1 ⟨rfl, hb_w1⟩; obtain ⟨hc_w1, hf_w1⟩ := bcell hb_w1; have hz_w1 := hb_w1.size; try simp at hz_w1)
  have q1 : w.heap.size < w1.heap.size := by omega
  go_wp2_with fail
  go_ret
  exact ⟨rfl, (by (repeat (first | with_reducible exact Below.refl _ _ | (with_reducible refine bl_drew ?_) | (with_reducible refine bl_drewN ?_) | (with_reducible refine bl_alloc ?_ ?_; (focus (first | omega | (simp; done) | (simp; omega)))) | (with_reducible refine bl_set ?_ ?_; (focus (first | omega | (simp; done) | (simp; omega)))) | (with_reducible refine bl_trans ?_ (by assumption) ?_; (focus (first | omega | (simp; done) | (simp; omega)))))))⟩

end Go.Proofs.Ytimkoepaeebleaa
