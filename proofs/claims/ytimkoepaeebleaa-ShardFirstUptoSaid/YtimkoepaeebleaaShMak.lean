/- cells.New at a row of free locks. -/
import Derived.Test.YtimkoepaeebleaaShRep
import Derived.Test.YtimkoepaeebleaaOrd
namespace Go.Proofs.Ytimkoepaeebleaa
open Go.RowKit

def NewPost (w : World) (n : Nat) (e : Ending) (w' : World) : Prop := ∃ lk ck c, e = .returned (.tuple #[.pointer (some ⟨lk, 0, none⟩), .int .i64 0]) ∧ MemAt w' lk ck n c 0 (List.replicate n (-1)) ∧ Below w.heap.size w w' ∧ w.heap.size ≤ lk ∧ w.heap.size ≤ ck

set_option maxRecDepth 100000 in
set_option maxHeartbeats 1000000 in
theorem cellsNew (w : World) (g n : Nat) (hn : 1 ≤ n) (hn2 : n ≤ 256) (hR : Rep w g n n) :
    Calls Try.prog 36 #[.slice (some ⟨g, 0, none⟩) n n] w (NewPost w n) := by
  obtain ⟨arr, hA, hs, ht⟩ := hR
  have hLk : Locks arr (List.replicate n (-1)) := locks_of_take (by rw [List.length_replicate]; exact ht)
  have HA := Lib.hid hA
  have HL := Lib.hid hLk
  have hgl := hA.lt
  have b0 : decide ((4096 : Int) < (n : Int)) = false := by simp; omega
  clear hA hs ht hLk
  go_enter Try.func36, Try.ntmps36
  go_wp2_with fail
  go_loopw [15] (fun s wr => ∃ (j : Nat) (v : Value), s = .int .i64 j ∧ j ≤ n ∧ Blk wr w.heap.size 112 #[.bool true, v, .int .i64 0] ∧ wr.ownsRow (w.heap.size + 1) 74 7 v j ((List.replicate j (-1)).flatMap lockC) ∧ Below w.heap.size w wr)
    (fun s _ => n - (intOf s).toNat)
  case atStart => exact ⟨0, .slice none 0 0, rfl, by omega, by (apply bk_eq; (focus (repeat (first | with_reducible exact bk_new rfl | with_reducible assumption | (with_reducible apply bk_drew) | (with_reducible apply bk_drewN) | (with_reducible apply bk_alloc) | (with_reducible apply bk_set) | (with_reducible apply bk_far; (focus (first | assumption | omega | (simp; done) | (simp; omega)))) | (with_reducible apply bk_below; (focus assumption); (focus (first | assumption | omega | (simp; done) | (simp; omega))))))); (first | rfl | (simp; done) | trace_state)), by simp [World.ownsRow], by (repeat (first | with_reducible exact Below.refl _ _ | (with_reducible refine bl_drew ?_) | (with_reducible refine bl_drewN ?_) | (with_reducible refine bl_alloc ?_ ?_; (focus (first | omega | (simp; done) | (simp; omega)))) | (with_reducible refine bl_set ?_ ?_; (focus (first | omega | (simp; done) | (simp; omega)))) | (with_reducible refine bl_trans ?_ (by assumption) ?_; (focus (first | omega | (simp; done) | (simp; omega))))))⟩
  case round =>
    obtain ⟨j, v, rfl, hjn, hB, hO, hbk⟩ := hrel
    by_cases hlt : j < n
    · have d1 : decide ((j : Int) < (n : Int)) = true := by simp; omega
      have b3 : (0 : Int) ≤ (j : Int) := by omega
      have b4 : (j : Int) < (n : Int) := by omega
      obtain ⟨c0, c1, c2, c3, c4, c5, c6⟩ := HL.out j (-1) (by simp [hlt])
      have a0 : wr.cell? ⟨g, j * 7, none⟩ = some (.int .i64 2) := by rw [(bk_below hbk hgl HA.out).cell]; exact c0
      have a1 : wr.cell? ⟨g, j * 7 + 1, none⟩ = some (.int .i64 0) := by rw [(bk_below hbk hgl HA.out).cell]; exact c1
      have a2 : wr.cell? ⟨g, j * 7 + 2, none⟩ = some (.int .i64 (-1)) := by rw [(bk_below hbk hgl HA.out).cell]; exact c2
      have a3 : wr.cell? ⟨g, j * 7 + 3, none⟩ = some (.int .i64 0) := by rw [(bk_below hbk hgl HA.out).cell]; exact c3
      have a4 : wr.cell? ⟨g, j * 7 + 4, none⟩ = some (.slice none 0 0) := by rw [(bk_below hbk hgl HA.out).cell]; exact c4
      have a5 : wr.cell? ⟨g, j * 7 + 5, none⟩ = some (.int .i64 0) := by rw [(bk_below hbk hgl HA.out).cell]; exact c5
      have a6 : wr.cell? ⟨g, j * 7 + 6, none⟩ = some (.bool false) := by rw [(bk_below hbk hgl HA.out).cell]; exact c6
      have HB := Lib.hid hB
      have HO := Lib.hid hO
      clear c0 c1 c2 c3 c4 c5 c6 hB hO
      go_wp2_with fail
      (go_at_call 55; refine (Check_lock (-1) rfl _).mono ?_; rintro e w1 ⟨rfl, hb_w1⟩; obtain ⟨hc_w1, hf_w1⟩ := bcell hb_w1; have hz_w1 := hb_w1.size; try simp at hz_w1)
      have n1 : w.heap.size < wr.heap.size := HB.out.lt
      have q1 : wr.heap.size < w1.heap.size := by omega
      go_wp2_with fail
      have l1 : w1.cell? ⟨w.heap.size, 1, none⟩ = some v := by
        have := (bk_below hb_w1 (by simp; omega) (bk_alloc HB.out)).cell 1
        simpa using this
      obtain ⟨A, c, hv⟩ := own_form HO.out
      rw [hv] at l1
      have hO1 := HO.out
      rw [hv] at hO1
      have q2 : ¬ (Value.slice A j c).ownBlock = some w.heap.size := fun hb => by have := (hO1.lt _ hb).1; omega
      have q3 : ¬ (Value.slice A j c).ownBlock = some wr.heap.size := fun hb => by have := (hO1.lt _ hb).2; omega
      have HO1 := Lib.hid hO1
      have hB1 := HB.out
      rw [hv] at hB1
      have HB1 := Lib.hid hB1
      clear hB1
      clear hO1 hv
      refine wp_region_rows (S := (fun w' => w'.cell? ⟨w.heap.size, 1, none⟩ = some (.slice A j c) ∧ w'.cell? ⟨wr.heap.size, 0, none⟩ = some (.int .i64 2) ∧ w'.cell? ⟨wr.heap.size, 1, none⟩ = some (.int .i64 0) ∧ w'.cell? ⟨wr.heap.size, 2, none⟩ = some (.int .i64 (-1)) ∧ w'.cell? ⟨wr.heap.size, 3, none⟩ = some (.int .i64 0) ∧ w'.cell? ⟨wr.heap.size, 4, none⟩ = some (.slice none 0 0) ∧ w'.cell? ⟨wr.heap.size, 5, none⟩ = some (.int .i64 0) ∧ w'.cell? ⟨wr.heap.size, 6, none⟩ = some (.bool false))) [1,1,1,1,2,2,0,0,0,1,1,3] [0,1,2,3,4,5,6,7,8,9,10,11] (by kernel_rfl) (by kernel_rfl) (by kernel_rfl) (fun _ _ d _ _ h => by cases d <;> exact h) ?_ (fun hHeld => ?_)
      · ((first | (simp [go_sem, *]; done) | ((repeat' apply And.intro) <;> (first | (simp [go_sem, *]; done) | ((repeat (first | with_reducible assumption | (with_reducible apply keepD) | (with_reducible apply keepDN) | (with_reducible apply keepDf) | (with_reducible apply keepDNf) | (with_reducible refine keepA ?_ ?_; (focus (first | assumption | omega | (simp; done) | (simp; omega)))) | (with_reducible refine keepAf ?_ ?_; (focus (first | assumption | omega | (simp; done) | (simp; omega)))) | (with_reducible refine keepS ?_ ?_; (focus (first | assumption | omega | (simp; done) | (simp; omega) | (simp [*]; done)))) | (with_reducible apply keepSf) | (with_reducible refine keep1 (by assumption) ?_ ?_; (focus (first | assumption | omega | (simp; done) | (simp; omega)))) | (with_reducible refine keep1f (by assumption) ?_ ?_; (focus (first | assumption | omega | (simp; done) | (simp; omega)))) | (with_reducible refine keep2 (by assumption) ?_ ?_ ?_; (focus (first | assumption | omega | (simp; done) | (simp; omega))); (focus (first | assumption | omega | (simp; done) | (simp; omega) | (simp [*]; done)))) | (with_reducible refine keep2f (by assumption) ?_ ?_ ?_; (focus (first | assumption | omega | (simp; done) | (simp; omega))); (focus (first | assumption | omega | (simp; done) | (simp; omega) | (simp [*]; done)))))); done) | ((repeat (first | with_reducible assumption | (with_reducible apply keepD) | (with_reducible apply keepDN) | (with_reducible apply keepDf) | (with_reducible apply keepDNf) | (with_reducible refine keepA ?_ ?_; (focus (first | assumption | omega | (simp; done) | (simp; omega)))) | (with_reducible refine keepAf ?_ ?_; (focus (first | assumption | omega | (simp; done) | (simp; omega)))) | (with_reducible refine keepS ?_ ?_; (focus (first | assumption | omega | (simp; done) | (simp; omega) | (simp [*]; done)))) | (with_reducible apply keepSf) | (with_reducible refine keep1 (by assumption) ?_ ?_; (focus (first | assumption | omega | (simp; done) | (simp; omega)))) | (with_reducible refine keep1f (by assumption) ?_ ?_; (focus (first | assumption | omega | (simp; done) | (simp; omega)))) | (with_reducible refine keep2 (by assumption) ?_ ?_ ?_; (focus (first | assumption | omega | (simp; done) | (simp; omega))); (focus (first | assumption | omega | (simp; done) | (simp; omega) | (simp [*]; done)))) | (with_reducible refine keep2f (by assumption) ?_ ?_ ?_; (focus (first | assumption | omega | (simp; done) | (simp; omega))); (focus (first | assumption | omega | (simp; done) | (simp; omega) | (simp [*]; done)))))); simp [go_sem, *]; done)))))
      simp only [rowsOf, List.map_cons, List.map_nil, nth, nthK]
      repeat (first | (refine' row_pure rfl (fun W => ?_) ?_; rotate_left; (focus (go_simp; first | done | with_reducible rfl)); (try simp only [Act.put, List.setIfInBounds_toArray, List.set_cons_zero, List.set_cons_succ])) | (refine' row_load rfl hHeld (fun W hW => ?_) ?_; rotate_left; (focus ((try dsimp only at hW); go_simp; first | done | with_reducible rfl)); (try simp only [Act.put, List.setIfInBounds_toArray, List.set_cons_zero, List.set_cons_succ])) | (first | refine row_skip1 rfl ?_ | refine row_skip2 rfl hHeld ?_ | refine row_skip3 rfl ?_ | refine row_skip0 rfl hHeld ?_; (try simp only [Act.put, List.setIfInBounds_toArray, List.set_cons_zero, List.set_cons_succ])))
      refine row_write rfl (fun K hK => ?_)
      go_simp
      (go_at_call 56; refine (copied_lock (-1) _).mono ?_; rintro e w2 ⟨rfl, hb_w2⟩; obtain ⟨hc_w2, hf_w2⟩ := bcell hb_w2; have hz_w2 := hb_w2.size; try simp at hz_w2)
      refine hK _ _ ?_ (fun hHeld => ?_)
      · ((first | (simp [go_sem, *]; done) | ((repeat' apply And.intro) <;> (first | (simp [go_sem, *]; done) | ((repeat (first | with_reducible assumption | (with_reducible apply keepD) | (with_reducible apply keepDN) | (with_reducible apply keepDf) | (with_reducible apply keepDNf) | (with_reducible refine keepA ?_ ?_; (focus (first | assumption | omega | (simp; done) | (simp; omega)))) | (with_reducible refine keepAf ?_ ?_; (focus (first | assumption | omega | (simp; done) | (simp; omega)))) | (with_reducible refine keepS ?_ ?_; (focus (first | assumption | omega | (simp; done) | (simp; omega) | (simp [*]; done)))) | (with_reducible apply keepSf) | (with_reducible refine keep1 (by assumption) ?_ ?_; (focus (first | assumption | omega | (simp; done) | (simp; omega)))) | (with_reducible refine keep1f (by assumption) ?_ ?_; (focus (first | assumption | omega | (simp; done) | (simp; omega)))) | (with_reducible refine keep2 (by assumption) ?_ ?_ ?_; (focus (first | assumption | omega | (simp; done) | (simp; omega))); (focus (first | assumption | omega | (simp; done) | (simp; omega) | (simp [*]; done)))) | (with_reducible refine keep2f (by assumption) ?_ ?_ ?_; (focus (first | assumption | omega | (simp; done) | (simp; omega))); (focus (first | assumption | omega | (simp; done) | (simp; omega) | (simp [*]; done)))))); done) | ((repeat (first | with_reducible assumption | (with_reducible apply keepD) | (with_reducible apply keepDN) | (with_reducible apply keepDf) | (with_reducible apply keepDNf) | (with_reducible refine keepA ?_ ?_; (focus (first | assumption | omega | (simp; done) | (simp; omega)))) | (with_reducible refine keepAf ?_ ?_; (focus (first | assumption | omega | (simp; done) | (simp; omega)))) | (with_reducible refine keepS ?_ ?_; (focus (first | assumption | omega | (simp; done) | (simp; omega) | (simp [*]; done)))) | (with_reducible apply keepSf) | (with_reducible refine keep1 (by assumption) ?_ ?_; (focus (first | assumption | omega | (simp; done) | (simp; omega)))) | (with_reducible refine keep1f (by assumption) ?_ ?_; (focus (first | assumption | omega | (simp; done) | (simp; omega)))) | (with_reducible refine keep2 (by assumption) ?_ ?_ ?_; (focus (first | assumption | omega | (simp; done) | (simp; omega))); (focus (first | assumption | omega | (simp; done) | (simp; omega) | (simp [*]; done)))) | (with_reducible refine keep2f (by assumption) ?_ ?_ ?_; (focus (first | assumption | omega | (simp; done) | (simp; omega))); (focus (first | assumption | omega | (simp; done) | (simp; omega) | (simp [*]; done)))))); simp [go_sem, *]; done)))))
      clear hK K
      (try simp only [Act.put, List.setIfInBounds_toArray, List.set_cons_zero, List.set_cons_succ])
      (refine row_write rfl (fun K hK => ?_); go_simp; refine hK _ _ ?_ (fun hHeld => ?_); (focus (((first | (simp [go_sem, *]; done) | ((repeat' apply And.intro) <;> (first | (simp [go_sem, *]; done) | ((repeat (first | with_reducible assumption | (with_reducible apply keepD) | (with_reducible apply keepDN) | (with_reducible apply keepDf) | (with_reducible apply keepDNf) | (with_reducible refine keepA ?_ ?_; (focus (first | assumption | omega | (simp; done) | (simp; omega)))) | (with_reducible refine keepAf ?_ ?_; (focus (first | assumption | omega | (simp; done) | (simp; omega)))) | (with_reducible refine keepS ?_ ?_; (focus (first | assumption | omega | (simp; done) | (simp; omega) | (simp [*]; done)))) | (with_reducible apply keepSf) | (with_reducible refine keep1 (by assumption) ?_ ?_; (focus (first | assumption | omega | (simp; done) | (simp; omega)))) | (with_reducible refine keep1f (by assumption) ?_ ?_; (focus (first | assumption | omega | (simp; done) | (simp; omega)))) | (with_reducible refine keep2 (by assumption) ?_ ?_ ?_; (focus (first | assumption | omega | (simp; done) | (simp; omega))); (focus (first | assumption | omega | (simp; done) | (simp; omega) | (simp [*]; done)))) | (with_reducible refine keep2f (by assumption) ?_ ?_ ?_; (focus (first | assumption | omega | (simp; done) | (simp; omega))); (focus (first | assumption | omega | (simp; done) | (simp; omega) | (simp [*]; done)))))); done) | ((repeat (first | with_reducible assumption | (with_reducible apply keepD) | (with_reducible apply keepDN) | (with_reducible apply keepDf) | (with_reducible apply keepDNf) | (with_reducible refine keepA ?_ ?_; (focus (first | assumption | omega | (simp; done) | (simp; omega)))) | (with_reducible refine keepAf ?_ ?_; (focus (first | assumption | omega | (simp; done) | (simp; omega)))) | (with_reducible refine keepS ?_ ?_; (focus (first | assumption | omega | (simp; done) | (simp; omega) | (simp [*]; done)))) | (with_reducible apply keepSf) | (with_reducible refine keep1 (by assumption) ?_ ?_; (focus (first | assumption | omega | (simp; done) | (simp; omega)))) | (with_reducible refine keep1f (by assumption) ?_ ?_; (focus (first | assumption | omega | (simp; done) | (simp; omega)))) | (with_reducible refine keep2 (by assumption) ?_ ?_ ?_; (focus (first | assumption | omega | (simp; done) | (simp; omega))); (focus (first | assumption | omega | (simp; done) | (simp; omega) | (simp [*]; done)))) | (with_reducible refine keep2f (by assumption) ?_ ?_ ?_; (focus (first | assumption | omega | (simp; done) | (simp; omega))); (focus (first | assumption | omega | (simp; done) | (simp; omega) | (simp [*]; done)))))); simp [go_sem, *]; done))))))); clear hK K; (try simp only [Act.put, List.setIfInBounds_toArray, List.set_cons_zero, List.set_cons_succ]))
      refine row_write rfl (fun K hK => ?_)
      refine wp_push (.tmp 28) (.tmp 31) 79 rfl 74 Try.underlying79 7 72 (by kernel_rfl) (by omega) (w.heap.size + 1) (.slice A j c) j _ rfl (own_below HO1.out (by (repeat (first | with_reducible exact Below.refl _ _ | (with_reducible refine bl_drew ?_) | (with_reducible refine bl_drewN ?_) | (with_reducible refine bl_alloc ?_ ?_; (focus (first | omega | (simp; done) | (simp; omega)))) | (with_reducible refine bl_set ?_ ?_; (focus (first | omega | (simp; done) | (simp; omega)))) | (with_reducible refine bl_trans ?_ (by assumption) ?_; (focus (first | omega | (simp; done) | (simp; omega)))))))) w2.heap.size 1 (lockC (-1)).toArray 74 rfl (by first | exact bk_new rfl | exact bk_drew (bk_new rfl)) rfl (by decide) (by omega) (by omega) (by simp; omega) ?_
      intro g' cap w3 hown3 hC3 hat3 hlt3
      have hz3 := hC3.size
      simp at hz3
      refine hK _ _ ?_ (fun hHeld => ?_)
      · ((first | (simp [go_sem, *]; done) | ((repeat' apply And.intro) <;> (first | (simp [go_sem, *]; done) | ((repeat (first | with_reducible assumption | (with_reducible apply keepD) | (with_reducible apply keepDN) | (with_reducible apply keepDf) | (with_reducible apply keepDNf) | (with_reducible refine keepA ?_ ?_; (focus (first | assumption | omega | (simp; done) | (simp; omega)))) | (with_reducible refine keepAf ?_ ?_; (focus (first | assumption | omega | (simp; done) | (simp; omega)))) | (with_reducible refine keepS ?_ ?_; (focus (first | assumption | omega | (simp; done) | (simp; omega) | (simp [*]; done)))) | (with_reducible apply keepSf) | (with_reducible refine keep1 (by assumption) ?_ ?_; (focus (first | assumption | omega | (simp; done) | (simp; omega)))) | (with_reducible refine keep1f (by assumption) ?_ ?_; (focus (first | assumption | omega | (simp; done) | (simp; omega)))) | (with_reducible refine keep2 (by assumption) ?_ ?_ ?_; (focus (first | assumption | omega | (simp; done) | (simp; omega))); (focus (first | assumption | omega | (simp; done) | (simp; omega) | (simp [*]; done)))) | (with_reducible refine keep2f (by assumption) ?_ ?_ ?_; (focus (first | assumption | omega | (simp; done) | (simp; omega))); (focus (first | assumption | omega | (simp; done) | (simp; omega) | (simp [*]; done)))))); done) | ((repeat (first | with_reducible assumption | (with_reducible apply keepD) | (with_reducible apply keepDN) | (with_reducible apply keepDf) | (with_reducible apply keepDNf) | (with_reducible refine keepA ?_ ?_; (focus (first | assumption | omega | (simp; done) | (simp; omega)))) | (with_reducible refine keepAf ?_ ?_; (focus (first | assumption | omega | (simp; done) | (simp; omega)))) | (with_reducible refine keepS ?_ ?_; (focus (first | assumption | omega | (simp; done) | (simp; omega) | (simp [*]; done)))) | (with_reducible apply keepSf) | (with_reducible refine keep1 (by assumption) ?_ ?_; (focus (first | assumption | omega | (simp; done) | (simp; omega)))) | (with_reducible refine keep1f (by assumption) ?_ ?_; (focus (first | assumption | omega | (simp; done) | (simp; omega)))) | (with_reducible refine keep2 (by assumption) ?_ ?_ ?_; (focus (first | assumption | omega | (simp; done) | (simp; omega))); (focus (first | assumption | omega | (simp; done) | (simp; omega) | (simp [*]; done)))) | (with_reducible refine keep2f (by assumption) ?_ ?_ ?_; (focus (first | assumption | omega | (simp; done) | (simp; omega))); (focus (first | assumption | omega | (simp; done) | (simp; omega) | (simp [*]; done)))))); simp [go_sem, *]; done)))))
      clear hK K
      (try simp only [Act.put, List.setIfInBounds_toArray, List.set_cons_zero, List.set_cons_succ])
      repeat (first | (refine' row_pure rfl (fun W => ?_) ?_; rotate_left; (focus (go_simp; first | done | with_reducible rfl)); (try simp only [Act.put, List.setIfInBounds_toArray, List.set_cons_zero, List.set_cons_succ])) | (refine' row_load rfl hHeld (fun W hW => ?_) ?_; rotate_left; (focus ((try dsimp only at hW); go_simp; first | done | with_reducible rfl)); (try simp only [Act.put, List.setIfInBounds_toArray, List.set_cons_zero, List.set_cons_succ])) | (first | refine row_skip1 rfl ?_ | refine row_skip2 rfl hHeld ?_ | refine row_skip3 rfl ?_ | refine row_skip0 rfl hHeld ?_; (try simp only [Act.put, List.setIfInBounds_toArray, List.set_cons_zero, List.set_cons_succ])))
      have hB1 := HB1.out
      have B2 : Blk w2 w.heap.size 112 #[.bool true, .slice A j c, .int .i64 0] := by repeat (first | with_reducible exact hB1 | (with_reducible apply bk_drew) | (with_reducible apply bk_drewN) | (with_reducible apply bk_alloc) | (with_reducible apply bk_set) | (with_reducible apply bk_far; (focus (first | assumption | omega | (simp; done) | (simp; omega)))) | (with_reducible apply bk_below; (focus assumption); (focus (first | assumption | omega | (simp; done) | (simp; omega)))))
      have B3 := Lib.hid (bk_chg hC3 q2 (bk_alloc B2))
      have f1 := B3.out.free 1
      have f2 : w3.cell? ⟨w.heap.size, 1, none⟩ = some (.slice A j c) := by simpa using B3.out.cell 1
      have hbw : Below w.heap.size w wr := hbk
      have HO3 := Lib.hid hown3
      have hb3 : Below w.heap.size w w3 := Below.trans (B := w.heap.size) (b := w2.alloc (.cells (lockC (-1)).toArray 74)) (by (repeat (first | with_reducible exact Below.refl _ _ | (with_reducible refine bl_drew ?_) | (with_reducible refine bl_drewN ?_) | (with_reducible refine bl_alloc ?_ ?_; (focus (first | omega | (simp; done) | (simp; omega)))) | (with_reducible refine bl_set ?_ ?_; (focus (first | omega | (simp; done) | (simp; omega)))) | (with_reducible refine bl_trans ?_ (by assumption) ?_; (focus (first | omega | (simp; done) | (simp; omega))))))) ⟨hC3.os, hC3.tape, hC3.output, hC3.size, fun k hk => hC3.block k (by simp; omega) (fun hb => by have := (HO1.out.lt _ hb).1; omega)⟩
      clear hB1 B2 hown3 hC3
      (refine row_last rfl (fun K hK => ?_); go_simp; refine hK _ _ ?_; clear hK K; (try simp only [Act.put, List.setIfInBounds_toArray, List.set_cons_zero, List.set_cons_succ]))
      refine row_done ?_
      go_simp
      go_wp2_with fail
      go_roundw
      case rel =>
        refine ⟨j + 1, .slice (some ⟨g', 0, none⟩) (j + 1) cap, by simp, by omega, ?_, ?_, ?_⟩
        · have hB3 := B3.out
          (apply bk_eq; (focus (repeat (first | with_reducible exact bk_new rfl | with_reducible assumption | (with_reducible apply bk_drew) | (with_reducible apply bk_drewN) | (with_reducible apply bk_alloc) | (with_reducible apply bk_set) | (with_reducible apply bk_far; (focus (first | assumption | omega | (simp; done) | (simp; omega)))) | (with_reducible apply bk_below; (focus assumption); (focus (first | assumption | omega | (simp; done) | (simp; omega))))))); (first | rfl | (simp; done) | trace_state))
        · rw [show (List.replicate (j + 1) (-1 : Int)).flatMap lockC = (List.replicate j (-1 : Int)).flatMap lockC ++ (lockC (-1)).toArray.toList by rw [← List.replicate_append_replicate, List.flatMap_append]; simp]
          refine own_keep HO3.out fun b hb => ?_
          have := (HO3.out.lt b hb).1
          first
          | exact Below.heap_setCell _ _ _ _ (by show b ≠ w.heap.size; omega)
          | exact (Below.heap_setCell _ _ _ _ (by show b ≠ w.heap.size; omega)).trans rfl
        · (repeat (first | with_reducible exact Below.refl _ _ | (with_reducible refine bl_drew ?_) | (with_reducible refine bl_drewN ?_) | (with_reducible refine bl_alloc ?_ ?_; (focus (first | omega | (simp; done) | (simp; omega)))) | (with_reducible refine bl_set ?_ ?_; (focus (first | omega | (simp; done) | (simp; omega)))) | (with_reducible refine bl_trans ?_ (by assumption) ?_; (focus (first | omega | (simp; done) | (simp; omega))))))
      case measure => simp [intOf]; omega
    · have d1 : decide ((j : Int) < (n : Int)) = false := by simp; omega
      have HB := Lib.hid hB
      have HO := Lib.hid hO
      have hjn' : j = n := by omega
      clear hB hO
      go_wp2_with fail
      refine bodyPost_ret (v := .tuple #[.pointer (some ⟨w.heap.size, 0, none⟩), .int .i64 0]) (by simp [results, Try.results36, go_sem]) rfl ?_
      subst hjn'
      rcases HO.out.2 with ⟨_, h0⟩ | ⟨ck, cap, cur, hv, hck, hh, _, _, _, htk⟩
      · omega
      · have hB := HB.out
        rw [hv] at hB
        exact ⟨w.heap.size, ck, cap, rfl, ⟨List.length_replicate, hB, cur, hh, locks_of_take (by rw [List.length_replicate]; exact htk)⟩, hbk, Nat.le_refl _, by omega⟩
end Go.Proofs.Ytimkoepaeebleaa
