/- A worker's call begins: it comes into the history, and into the worker's hand. -/
import Derived.Test.YtimkoepaeebleaaShTab2
import Derived.Test.YtimkoepaeebleaaOrd
namespace Go.Proofs.Ytimkoepaeebleaa
open Go.RowKit

def TS.begun (T : TS) (i : Nat) (a : Ask) (blk : Nat) (pv : Value) : TS :=
  { T with hands := mput T.hands i ⟨blk, T.past.length, 0, false, 0⟩, past := T.past ++ [⟨i, a.kind, a.key, a.value, T.steps, -1, 0, 0⟩], pv := pv }
/-- What is of S, and what is new. -/
def grow (S : Nat → Prop) (w w' : World) : Nat → Prop := fun b => S b ∨ (w.heap.size ≤ b ∧ b < w'.heap.size)
def Begun (w : World) (S R : Nat → Prop) (T : TS) (i : Nat) (a : Ask) (e : Ending) (w' : World) : Prop :=
  ∃ blk pv, e = .returned (.tuple #[]) ∧ TableAt w' (grow S w w') R (T.begun i a blk pv) ∧ Chg S w w'

set_option maxRecDepth 100000 in
set_option maxHeartbeats 2000000 in
theorem begins_in (w : World) (S R : Nat → Prop) (T : TS) (h : TableAt w S R T) (i k : Nat) (asks : List Ask) (a : Ask) (hi : T.work[i]? = some asks) (hk : T.at_[i]? = some k) (ha : asks[k]? = some a) (hn : mget T.hands i = none) (hpast : T.past.length ≤ 1000000) :
    Calls Try.prog 51 #[.pointer (some ⟨T.bt, 0, none⟩), .int .i64 i] w (Begun w S R T i a) := by
  have H := Lib.hid h
  have HA := Lib.hid (fun W (hb : Below w.heap.size w W) => ask_in W S R T (h.below hb) i k asks a hi hk ha)
  have n1 := h.lt _ h.s_bt
  have n2 := h.lt _ h.s_hb
  have n3 : T.bt ≠ T.hb := blk_ne_map h.tab h.hands
  have hp := h.past
  obtain ⟨A, c, hpv⟩ := own_form h.past
  rw [hpv] at hp
  have q1 : ¬ (Value.slice A T.past.length c).ownBlock = some T.bt := fun hb => by
    obtain ⟨cur, hcur⟩ := own_type hp _ hb
    exact hcur.ne_ h.tab (by decide) rfl
  have q2 : ¬ (Value.slice A T.past.length c).ownBlock = some T.hb := fun hb => by
    obtain ⟨cur, hcur⟩ := own_type hp _ hb
    exact blk_ne_map hcur h.hands rfl
  have q3 : ∀ b, w.heap.size ≤ b → ¬ (Value.slice A T.past.length c).ownBlock = some b := fun b hl hb => by have := own_lt hp _ hb; omega
  have HP3 := Lib.hid q3
  have HPO := Lib.hid hp
  clear q3
  have c4 := h.c4
  have c7 := h.c7
  rw [hpv] at c7
  have HP := Lib.hid hpv
  clear hpv hp
  have c8 := h.c8
  have HN := Lib.hid hn
  clear h hi hk ha hn
  go_enter Try.func51, Try.ntmps51
  go_wp2_with fail
  (go_at_call 42; refine (HA.out _ (by (repeat (first | with_reducible exact Below.refl _ _ | (with_reducible refine bl_drew ?_) | (with_reducible refine bl_drewN ?_) | (with_reducible refine bl_alloc ?_ ?_; (focus (first | omega | (simp; done) | (simp; omega)))) | (with_reducible refine bl_set ?_ ?_; (focus (first | omega | (simp; done) | (simp; omega)))) | (with_reducible refine bl_trans ?_ (by assumption) ?_; (focus (first | omega | (simp; done) | (simp; omega)))))))).mono ?_; rintro e w1 ⟨rfl, hb_w1⟩; obtain ⟨hc_w1, hf_w1⟩ := bcell hb_w1; have hz_w1 := hb_w1.size; try simp at hz_w1)
  have q4 := HP3.out w1.heap.size (by omega)
  go_wp2_with fail
  refine wp_region_rows (S := (fun w' => w'.cell? ⟨T.bt, 4, none⟩ = some (.map (some T.hb)) ∧ w'.cell? ⟨T.bt, 7, none⟩ = some (.slice A T.past.length c))) [1,1,1,2,1,1,1,1,2,1,1,0,3] [0,1,2,3,4,5,6,7,8,9,10,11,12] (by kernel_rfl) (by kernel_rfl) (by kernel_rfl) (fun _ _ d _ _ h => by cases d <;> exact h) ?_ (fun hHeld => ?_)
  · ((first | (simp [go_sem, *]; done) | ((repeat' apply And.intro) <;> (first | (simp [go_sem, *]; done) | ((repeat (first | with_reducible assumption | (with_reducible apply keepD) | (with_reducible apply keepDN) | (with_reducible apply keepDf) | (with_reducible apply keepDNf) | (with_reducible refine keepA ?_ ?_; (focus (first | assumption | omega | (simp; done) | (simp; omega)))) | (with_reducible refine keepAf ?_ ?_; (focus (first | assumption | omega | (simp; done) | (simp; omega)))) | (with_reducible refine keepS ?_ ?_; (focus (first | assumption | omega | (simp; done) | (simp; omega) | (simp [*]; done)))) | (with_reducible apply keepSf) | (with_reducible refine keep1 (by assumption) ?_ ?_; (focus (first | assumption | omega | (simp; done) | (simp; omega)))) | (with_reducible refine keep1f (by assumption) ?_ ?_; (focus (first | assumption | omega | (simp; done) | (simp; omega)))) | (with_reducible refine keep2 (by assumption) ?_ ?_ ?_; (focus (first | assumption | omega | (simp; done) | (simp; omega))); (focus (first | assumption | omega | (simp; done) | (simp; omega) | (simp [*]; done)))) | (with_reducible refine keep2f (by assumption) ?_ ?_ ?_; (focus (first | assumption | omega | (simp; done) | (simp; omega))); (focus (first | assumption | omega | (simp; done) | (simp; omega) | (simp [*]; done)))))); done) | ((repeat (first | with_reducible assumption | (with_reducible apply keepD) | (with_reducible apply keepDN) | (with_reducible apply keepDf) | (with_reducible apply keepDNf) | (with_reducible refine keepA ?_ ?_; (focus (first | assumption | omega | (simp; done) | (simp; omega)))) | (with_reducible refine keepAf ?_ ?_; (focus (first | assumption | omega | (simp; done) | (simp; omega)))) | (with_reducible refine keepS ?_ ?_; (focus (first | assumption | omega | (simp; done) | (simp; omega) | (simp [*]; done)))) | (with_reducible apply keepSf) | (with_reducible refine keep1 (by assumption) ?_ ?_; (focus (first | assumption | omega | (simp; done) | (simp; omega)))) | (with_reducible refine keep1f (by assumption) ?_ ?_; (focus (first | assumption | omega | (simp; done) | (simp; omega)))) | (with_reducible refine keep2 (by assumption) ?_ ?_ ?_; (focus (first | assumption | omega | (simp; done) | (simp; omega))); (focus (first | assumption | omega | (simp; done) | (simp; omega) | (simp [*]; done)))) | (with_reducible refine keep2f (by assumption) ?_ ?_ ?_; (focus (first | assumption | omega | (simp; done) | (simp; omega))); (focus (first | assumption | omega | (simp; done) | (simp; omega) | (simp [*]; done)))))); simp [go_sem, *]; done)))))
  simp only [rowsOf, List.map_cons, List.map_nil, nth, nthK]
  repeat (first | (refine' row_pure rfl (fun W => ?_) ?_; rotate_left; (focus (go_simp; first | done | with_reducible rfl)); (try simp only [Act.put, List.setIfInBounds_toArray, List.set_cons_zero, List.set_cons_succ])) | (refine' row_load rfl hHeld (fun W hW => ?_) ?_; rotate_left; (focus ((try dsimp only at hW); go_simp; first | done | with_reducible rfl)); (try simp only [Act.put, List.setIfInBounds_toArray, List.set_cons_zero, List.set_cons_succ])) | (first | refine row_skip1 rfl ?_ | refine row_skip2 rfl hHeld ?_ | refine row_skip3 rfl ?_ | refine row_skip0 rfl hHeld ?_; (try simp only [Act.put, List.setIfInBounds_toArray, List.set_cons_zero, List.set_cons_succ])))
  (refine row_write rfl (fun K hK => ?_); go_simp; refine hK _ _ ?_ (fun hHeld => ?_); (focus (((first | (simp [go_sem, *]; done) | ((repeat' apply And.intro) <;> (first | (simp [go_sem, *]; done) | ((repeat (first | with_reducible assumption | (with_reducible apply keepD) | (with_reducible apply keepDN) | (with_reducible apply keepDf) | (with_reducible apply keepDNf) | (with_reducible refine keepA ?_ ?_; (focus (first | assumption | omega | (simp; done) | (simp; omega)))) | (with_reducible refine keepAf ?_ ?_; (focus (first | assumption | omega | (simp; done) | (simp; omega)))) | (with_reducible refine keepS ?_ ?_; (focus (first | assumption | omega | (simp; done) | (simp; omega) | (simp [*]; done)))) | (with_reducible apply keepSf) | (with_reducible refine keep1 (by assumption) ?_ ?_; (focus (first | assumption | omega | (simp; done) | (simp; omega)))) | (with_reducible refine keep1f (by assumption) ?_ ?_; (focus (first | assumption | omega | (simp; done) | (simp; omega)))) | (with_reducible refine keep2 (by assumption) ?_ ?_ ?_; (focus (first | assumption | omega | (simp; done) | (simp; omega))); (focus (first | assumption | omega | (simp; done) | (simp; omega) | (simp [*]; done)))) | (with_reducible refine keep2f (by assumption) ?_ ?_ ?_; (focus (first | assumption | omega | (simp; done) | (simp; omega))); (focus (first | assumption | omega | (simp; done) | (simp; omega) | (simp [*]; done)))))); done) | ((repeat (first | with_reducible assumption | (with_reducible apply keepD) | (with_reducible apply keepDN) | (with_reducible apply keepDf) | (with_reducible apply keepDNf) | (with_reducible refine keepA ?_ ?_; (focus (first | assumption | omega | (simp; done) | (simp; omega)))) | (with_reducible refine keepAf ?_ ?_; (focus (first | assumption | omega | (simp; done) | (simp; omega)))) | (with_reducible refine keepS ?_ ?_; (focus (first | assumption | omega | (simp; done) | (simp; omega) | (simp [*]; done)))) | (with_reducible apply keepSf) | (with_reducible refine keep1 (by assumption) ?_ ?_; (focus (first | assumption | omega | (simp; done) | (simp; omega)))) | (with_reducible refine keep1f (by assumption) ?_ ?_; (focus (first | assumption | omega | (simp; done) | (simp; omega)))) | (with_reducible refine keep2 (by assumption) ?_ ?_ ?_; (focus (first | assumption | omega | (simp; done) | (simp; omega))); (focus (first | assumption | omega | (simp; done) | (simp; omega) | (simp [*]; done)))) | (with_reducible refine keep2f (by assumption) ?_ ?_ ?_; (focus (first | assumption | omega | (simp; done) | (simp; omega))); (focus (first | assumption | omega | (simp; done) | (simp; omega) | (simp [*]; done)))))); simp [go_sem, *]; done))))))); clear hK K; (try simp only [Act.put, List.setIfInBounds_toArray, List.set_cons_zero, List.set_cons_succ]))
  refine row_last rfl (fun K hK => ?_)
  refine wp_mapUpdate (.tmp 11) (.tmp 12) (.tmp 19) rfl keyW Try.underlying63 rfl (H.out.below (by (repeat (first | with_reducible exact Below.refl _ _ | (with_reducible refine bl_drew ?_) | (with_reducible refine bl_drewN ?_) | (with_reducible refine bl_alloc ?_ ?_; (focus (first | omega | (simp; done) | (simp; omega)))) | (with_reducible refine bl_set ?_ ?_; (focus (first | omega | (simp; done) | (simp; omega)))) | (with_reducible refine bl_trans ?_ (by assumption) ?_; (focus (first | omega | (simp; done) | (simp; omega)))))))).hands i (⟨w1.heap.size + 1, T.past.length, 0, false, 0⟩ : Hand) rfl rfl ?_
  intro w2 hM2 hC2 hs2
  refine hK _ _ ?_
  clear hK K hs2
  have hz2 := hC2.size
  simp at hz2
  refine row_done ?_
  dsimp only [Act.put]
  go_wp2_with fail
  refine wp_region_rows (S := (fun w' => w'.cell? ⟨T.bt, 7, none⟩ = some (.slice A T.past.length c) ∧ w'.cell? ⟨T.bt, 8, none⟩ = some (.int .i64 T.steps) ∧ w'.cell? ⟨w1.heap.size, 0, none⟩ = some (.int .i64 a.kind) ∧ w'.cell? ⟨w1.heap.size, 1, none⟩ = some (.string a.key) ∧ w'.cell? ⟨w1.heap.size, 2, none⟩ = some (.int .i64 a.value))) [1,1,1,1,2,1,1,2,1,2,1,2,1,1,1,2,1,0,0,1,1,3] [0,1,2,3,4,5,6,7,8,9,10,11,12,13,14,15,16,17,18,19,20,21] (by kernel_rfl) (by kernel_rfl) (by kernel_rfl) (fun _ _ d _ _ h => by cases d <;> exact h) ?_ (fun hHeld => ?_)
  · ((first | (simp [go_sem, *]; done) | ((repeat' apply And.intro) <;> (first | (simp [go_sem, *]; done) | ((repeat (first | with_reducible assumption | (with_reducible apply keepD) | (with_reducible apply keepDN) | (with_reducible apply keepDf) | (with_reducible apply keepDNf) | (with_reducible refine keepA ?_ ?_; (focus (first | assumption | omega | (simp; done) | (simp; omega)))) | (with_reducible refine keepAf ?_ ?_; (focus (first | assumption | omega | (simp; done) | (simp; omega)))) | (with_reducible refine keepS ?_ ?_; (focus (first | assumption | omega | (simp; done) | (simp; omega) | (simp [*]; done)))) | (with_reducible apply keepSf) | (with_reducible refine keep1 (by assumption) ?_ ?_; (focus (first | assumption | omega | (simp; done) | (simp; omega)))) | (with_reducible refine keep1f (by assumption) ?_ ?_; (focus (first | assumption | omega | (simp; done) | (simp; omega)))) | (with_reducible refine keep2 (by assumption) ?_ ?_ ?_; (focus (first | assumption | omega | (simp; done) | (simp; omega))); (focus (first | assumption | omega | (simp; done) | (simp; omega) | (simp [*]; done)))) | (with_reducible refine keep2f (by assumption) ?_ ?_ ?_; (focus (first | assumption | omega | (simp; done) | (simp; omega))); (focus (first | assumption | omega | (simp; done) | (simp; omega) | (simp [*]; done)))))); done) | ((repeat (first | with_reducible assumption | (with_reducible apply keepD) | (with_reducible apply keepDN) | (with_reducible apply keepDf) | (with_reducible apply keepDNf) | (with_reducible refine keepA ?_ ?_; (focus (first | assumption | omega | (simp; done) | (simp; omega)))) | (with_reducible refine keepAf ?_ ?_; (focus (first | assumption | omega | (simp; done) | (simp; omega)))) | (with_reducible refine keepS ?_ ?_; (focus (first | assumption | omega | (simp; done) | (simp; omega) | (simp [*]; done)))) | (with_reducible apply keepSf) | (with_reducible refine keep1 (by assumption) ?_ ?_; (focus (first | assumption | omega | (simp; done) | (simp; omega)))) | (with_reducible refine keep1f (by assumption) ?_ ?_; (focus (first | assumption | omega | (simp; done) | (simp; omega)))) | (with_reducible refine keep2 (by assumption) ?_ ?_ ?_; (focus (first | assumption | omega | (simp; done) | (simp; omega))); (focus (first | assumption | omega | (simp; done) | (simp; omega) | (simp [*]; done)))) | (with_reducible refine keep2f (by assumption) ?_ ?_ ?_; (focus (first | assumption | omega | (simp; done) | (simp; omega))); (focus (first | assumption | omega | (simp; done) | (simp; omega) | (simp [*]; done)))))); simp [go_sem, *]; done)))))
  simp only [rowsOf, List.map_cons, List.map_nil, nth, nthK]
  repeat (first | (refine' row_pure rfl (fun W => ?_) ?_; rotate_left; (focus (go_simp; first | done | with_reducible rfl)); (try simp only [Act.put, List.setIfInBounds_toArray, List.set_cons_zero, List.set_cons_succ])) | (refine' row_load rfl hHeld (fun W hW => ?_) ?_; rotate_left; (focus ((try dsimp only at hW); go_simp; first | done | with_reducible rfl)); (try simp only [Act.put, List.setIfInBounds_toArray, List.set_cons_zero, List.set_cons_succ])) | (first | refine row_skip1 rfl ?_ | refine row_skip2 rfl hHeld ?_ | refine row_skip3 rfl ?_ | refine row_skip0 rfl hHeld ?_; (try simp only [Act.put, List.setIfInBounds_toArray, List.set_cons_zero, List.set_cons_succ])))
  (refine row_write rfl (fun K hK => ?_); go_simp; refine hK _ _ ?_ (fun hHeld => ?_); (focus (((first | (simp [go_sem, *]; done) | ((repeat' apply And.intro) <;> (first | (simp [go_sem, *]; done) | ((repeat (first | with_reducible assumption | (with_reducible apply keepD) | (with_reducible apply keepDN) | (with_reducible apply keepDf) | (with_reducible apply keepDNf) | (with_reducible refine keepA ?_ ?_; (focus (first | assumption | omega | (simp; done) | (simp; omega)))) | (with_reducible refine keepAf ?_ ?_; (focus (first | assumption | omega | (simp; done) | (simp; omega)))) | (with_reducible refine keepS ?_ ?_; (focus (first | assumption | omega | (simp; done) | (simp; omega) | (simp [*]; done)))) | (with_reducible apply keepSf) | (with_reducible refine keep1 (by assumption) ?_ ?_; (focus (first | assumption | omega | (simp; done) | (simp; omega)))) | (with_reducible refine keep1f (by assumption) ?_ ?_; (focus (first | assumption | omega | (simp; done) | (simp; omega)))) | (with_reducible refine keep2 (by assumption) ?_ ?_ ?_; (focus (first | assumption | omega | (simp; done) | (simp; omega))); (focus (first | assumption | omega | (simp; done) | (simp; omega) | (simp [*]; done)))) | (with_reducible refine keep2f (by assumption) ?_ ?_ ?_; (focus (first | assumption | omega | (simp; done) | (simp; omega))); (focus (first | assumption | omega | (simp; done) | (simp; omega) | (simp [*]; done)))))); done) | ((repeat (first | with_reducible assumption | (with_reducible apply keepD) | (with_reducible apply keepDN) | (with_reducible apply keepDf) | (with_reducible apply keepDNf) | (with_reducible refine keepA ?_ ?_; (focus (first | assumption | omega | (simp; done) | (simp; omega)))) | (with_reducible refine keepAf ?_ ?_; (focus (first | assumption | omega | (simp; done) | (simp; omega)))) | (with_reducible refine keepS ?_ ?_; (focus (first | assumption | omega | (simp; done) | (simp; omega) | (simp [*]; done)))) | (with_reducible apply keepSf) | (with_reducible refine keep1 (by assumption) ?_ ?_; (focus (first | assumption | omega | (simp; done) | (simp; omega)))) | (with_reducible refine keep1f (by assumption) ?_ ?_; (focus (first | assumption | omega | (simp; done) | (simp; omega)))) | (with_reducible refine keep2 (by assumption) ?_ ?_ ?_; (focus (first | assumption | omega | (simp; done) | (simp; omega))); (focus (first | assumption | omega | (simp; done) | (simp; omega) | (simp [*]; done)))) | (with_reducible refine keep2f (by assumption) ?_ ?_ ?_; (focus (first | assumption | omega | (simp; done) | (simp; omega))); (focus (first | assumption | omega | (simp; done) | (simp; omega) | (simp [*]; done)))))); simp [go_sem, *]; done))))))); clear hK K; (try simp only [Act.put, List.setIfInBounds_toArray, List.set_cons_zero, List.set_cons_succ]))
  refine row_write rfl (fun K hK => ?_)
  have hown := own_drew ((own_chg (own_drew ((own_below HPO.out hb_w1).alloc _ |>.alloc _)) hC2 (fun b hb => by rintro rfl; exact q2 hb)).alloc (.cells #[.int .i64 i, .int .i64 a.kind, .string a.key, .int .i64 a.value, .int .i64 T.steps, .int .i64 (-1), .int .i64 0, .int .i64 0] 46))
  refine wp_push (.tmp 24) (.tmp 37) 44 rfl 46 Try.underlying44 8 72 (by kernel_rfl) (by omega) 0 (.slice A T.past.length c) T.past.length _ rfl hown w2.heap.size 1 (#[.int .i64 i, .int .i64 a.kind, .string a.key, .int .i64 a.value, .int .i64 T.steps, .int .i64 (-1), .int .i64 0, .int .i64 0]) 46 rfl (bk_drew (bk_new rfl)) rfl (by simp [Value.oneCell']) (by omega) (by omega) (Nat.zero_le _) ?_
  intro g cap w3 hown3 hC3 hat3 hlt3
  refine hK _ _ ?_ (fun hHeld => ?_)
  · ((first | (simp [go_sem, *]; done) | ((repeat' apply And.intro) <;> (first | (simp [go_sem, *]; done) | ((repeat (first | with_reducible assumption | (with_reducible apply keepD) | (with_reducible apply keepDN) | (with_reducible apply keepDf) | (with_reducible apply keepDNf) | (with_reducible refine keepA ?_ ?_; (focus (first | assumption | omega | (simp; done) | (simp; omega)))) | (with_reducible refine keepAf ?_ ?_; (focus (first | assumption | omega | (simp; done) | (simp; omega)))) | (with_reducible refine keepS ?_ ?_; (focus (first | assumption | omega | (simp; done) | (simp; omega) | (simp [*]; done)))) | (with_reducible apply keepSf) | (with_reducible refine keep1 (by assumption) ?_ ?_; (focus (first | assumption | omega | (simp; done) | (simp; omega)))) | (with_reducible refine keep1f (by assumption) ?_ ?_; (focus (first | assumption | omega | (simp; done) | (simp; omega)))) | (with_reducible refine keep2 (by assumption) ?_ ?_ ?_; (focus (first | assumption | omega | (simp; done) | (simp; omega))); (focus (first | assumption | omega | (simp; done) | (simp; omega) | (simp [*]; done)))) | (with_reducible refine keep2f (by assumption) ?_ ?_ ?_; (focus (first | assumption | omega | (simp; done) | (simp; omega))); (focus (first | assumption | omega | (simp; done) | (simp; omega) | (simp [*]; done)))))); done) | ((repeat (first | with_reducible assumption | (with_reducible apply keepD) | (with_reducible apply keepDN) | (with_reducible apply keepDf) | (with_reducible apply keepDNf) | (with_reducible refine keepA ?_ ?_; (focus (first | assumption | omega | (simp; done) | (simp; omega)))) | (with_reducible refine keepAf ?_ ?_; (focus (first | assumption | omega | (simp; done) | (simp; omega)))) | (with_reducible refine keepS ?_ ?_; (focus (first | assumption | omega | (simp; done) | (simp; omega) | (simp [*]; done)))) | (with_reducible apply keepSf) | (with_reducible refine keep1 (by assumption) ?_ ?_; (focus (first | assumption | omega | (simp; done) | (simp; omega)))) | (with_reducible refine keep1f (by assumption) ?_ ?_; (focus (first | assumption | omega | (simp; done) | (simp; omega)))) | (with_reducible refine keep2 (by assumption) ?_ ?_ ?_; (focus (first | assumption | omega | (simp; done) | (simp; omega))); (focus (first | assumption | omega | (simp; done) | (simp; omega) | (simp [*]; done)))) | (with_reducible refine keep2f (by assumption) ?_ ?_ ?_; (focus (first | assumption | omega | (simp; done) | (simp; omega))); (focus (first | assumption | omega | (simp; done) | (simp; omega) | (simp [*]; done)))))); simp [go_sem, *]; done)))))
  clear hK K
  (try simp only [Act.put, List.setIfInBounds_toArray, List.set_cons_zero, List.set_cons_succ])
  repeat (first | (refine' row_pure rfl (fun W => ?_) ?_; rotate_left; (focus (go_simp; first | done | with_reducible rfl)); (try simp only [Act.put, List.setIfInBounds_toArray, List.set_cons_zero, List.set_cons_succ])) | (refine' row_load rfl hHeld (fun W hW => ?_) ?_; rotate_left; (focus ((try dsimp only at hW); go_simp; first | done | with_reducible rfl)); (try simp only [Act.put, List.setIfInBounds_toArray, List.set_cons_zero, List.set_cons_succ])) | (first | refine row_skip1 rfl ?_ | refine row_skip2 rfl hHeld ?_ | refine row_skip3 rfl ?_ | refine row_skip0 rfl hHeld ?_; (try simp only [Act.put, List.setIfInBounds_toArray, List.set_cons_zero, List.set_cons_succ])))
  have B3 : Blk w3 T.bt 66 _ := bk_chg hC3 q1 (bk_drew (bk_alloc (bk_chg hC2 n3 (bk_drew (bk_alloc (bk_alloc (bk_below hb_w1 n1 H.out.tab)))))))
  have f7 := B3.free 7
  (refine row_last rfl (fun K hK => ?_); go_simp; refine hK _ _ ?_; clear hK K; (try simp only [Act.put, List.setIfInBounds_toArray, List.set_cons_zero, List.set_cons_succ]))
  refine row_done ?_
  go_wp2_with fail
  go_end0
  have h := H.out
  have hC : Chg (fun b => b = T.bt ∨ b = T.hb ∨ (Value.slice A T.past.length c).ownBlock = some b) w (w3.setCell ⟨T.bt, 7, none⟩ (.slice (some ⟨g, 0, none⟩) (T.past.length + 1) cap)) :=
    cg_set (.inl (.inl rfl)) ((cg_drew (cg_alloc ((cg_drew (cg_alloc (cg_alloc (cg_below hb_w1 (Chg.refl _ _))))).then_ hC2 (fun i _ h => .inr (.inl h))))).then_ hC3 (fun i _ h => .inr (.inr h)))
  have hz3 := hC3.size
  simp at hz3
  have hsz := hC.size
  have hblk : Blk (w3.setCell ⟨T.bt, 7, none⟩ (.slice (some ⟨g, 0, none⟩) (T.past.length + 1) cap)) (w1.heap.size + 1) 107 #[.int .i64 T.past.length, .int .i64 0, .bool false, .int .i64 0] :=
    bk_far (by show _ ≠ T.bt; omega) (bk_chg hC3 (HP3.out _ (by omega)) (bk_drew (bk_alloc (bk_chg hC2 (fun (e : w1.heap.size + 1 = T.hb) => by omega) (bk_drew (bk_new (by simp)))))))
  have hmp : MapAt (w3.setCell ⟨T.bt, 7, none⟩ (.slice (some ⟨g, 0, none⟩) (T.past.length + 1) cap)) T.hb encW evH (mput T.hands i ⟨w1.heap.size + 1, T.past.length, 0, false, 0⟩) :=
    (((hM2.keep (w' := (w2.alloc (.cells #[.int .i64 i, .int .i64 a.kind, .string a.key, .int .i64 a.value, .int .i64 T.steps, .int .i64 (-1), .int .i64 0, .int .i64 0] 46)).drew) (Below.heap_alloc _ _ _ hM2.lt)).chg hC3 q2).keep (Below.heap_setCell _ _ _ _ (Ne.symm n3)))
  have hput : mput T.hands i (⟨w1.heap.size + 1, T.past.length, 0, false, 0⟩ : Hand) = T.hands ++ [(i, ⟨w1.heap.size + 1, T.past.length, 0, false, 0⟩)] := by simp [mput, HN.out]
  have hpS : ∀ b, (Value.slice A T.past.length c).ownBlock = some b → S b := fun b hb => h.s_pv b (by rw [HP.out]; exact hb)
  have npast : ∀ {b t cs}, Blk w b t cs → t ≠ 46 → ¬ (Value.slice A T.past.length c).ownBlock = some b := fun hB ht hb => by
    obtain ⟨cur, hcur⟩ := own_type HPO.out _ hb
    exact hcur.ne_ hB (Ne.symm ht) rfl
  have kc : ∀ {b t cs}, Blk w b t cs → t ≠ 66 → t ≠ 46 → (w3.setCell ⟨T.bt, 7, none⟩ (.slice (some ⟨g, 0, none⟩) (T.past.length + 1) cap)).heap[b]? = w.heap[b]? := fun hB h1 h2 =>
    hC.block _ hB.lt (by rintro (h' | h' | h'); exact hB.ne_ h.tab h1 h'; exact blk_ne_map hB h.hands h'; exact npast hB h2 h')
  have km : ∀ b, b < w.heap.size → (∃ es cl, w.heap[b]? = some (.map es cl)) → b ≠ T.hb → (w3.setCell ⟨T.bt, 7, none⟩ (.slice (some ⟨g, 0, none⟩) (T.past.length + 1) cap)).heap[b]? = w.heap[b]? := fun b hb ⟨es, cl, hm⟩ hn =>
    hC.block _ hb (by
      rintro (h' | h' | h')
      · subst h'; have := h.tab; unfold Blk at this; rw [hm] at this; cases this
      · exact hn h'
      · obtain ⟨cur, hcur⟩ := own_type HPO.out _ h'
        unfold Blk at hcur; rw [hm] at hcur; cases hcur)
  have kr : ∀ b, R b → (w3.setCell ⟨T.bt, 7, none⟩ (.slice (some ⟨g, 0, none⟩) (T.past.length + 1) cap)).heap[b]? = w.heap[b]? := fun b hb => hC.block b (h.ltR b hb) (by
    rintro (h' | h' | h')
    · exact h.dis b hb (h' ▸ h.s_bt)
    · exact h.dis b hb (h' ▸ h.s_hb)
    · exact h.dis b hb (hpS b h'))
  refine ⟨w1.heap.size + 1, .slice (some ⟨g, 0, none⟩) (T.past.length + 1) cap, rfl, ?_, hC.mono fun k _ hk => by
    rcases hk with rfl | rfl | hk
    · exact h.s_bt
    · exact h.s_hb
    · exact hpS k hk⟩
  have hgne : g ≠ T.bt := by
    rcases hat3 with h' | h'
    · intro e; exact q1 (e ▸ h')
    · simp at h'; omega
  obtain ⟨arr, hck, _⟩ := h.mem.ckb
  obtain ⟨warr, hw1, hw2⟩ := h.wrk
  have mapObj : ∀ {α β : Type} [DecidableEq α] {b : Nat} {enc : α → Value} {ev : β → Value} {M : List (α × β)}, MapAt w b enc ev M → ∃ es cl, w.heap[b]? = some (.map es cl) := fun h => by obtain ⟨es, cl, h, _⟩ := h; exact ⟨es, cl, h⟩
  exact {
    tab := bk_eq (bk_set B3) rfl
    mem := h.mem.keep (kc h.mem.lkb (by decide) (by decide)) (kc hck (by decide) (by decide))
    wrk := ⟨warr, (kr _ h.r_bw).trans hw1, fun i asks hi => by
      obtain ⟨A, c, h3, h4, h5⟩ := hw2 i asks hi
      exact ⟨A, c, h3, h4, h5.keep (fun b hb _ => kr b hb) (fun _ h => h) hsz⟩⟩
    at_ := (kc h.at_ (by decide) (by decide)).trans h.at_
    hands := hmp
    hand := by
      intro p hp
      have hp' : p ∈ T.hands ++ [(i, (⟨w1.heap.size + 1, T.past.length, 0, false, 0⟩ : Hand))] := hput ▸ hp
      rcases List.mem_append.1 hp' with hp' | hp'
      · exact (kc (h.hand p hp') (by decide) (by decide)).trans (h.hand p hp')
      · obtain rfl := List.mem_singleton.1 hp'
        exact hblk
    values := h.values.keep (km _ h.values.lt (mapObj h.values) (Ne.symm h.ne1))
    told := h.told.keep (km _ h.told.lt (mapObj h.told) (Ne.symm h.ne2))
    past := by
      have := own_keep hown3 (w' := w3.setCell ⟨T.bt, 7, none⟩ (.slice (some ⟨g, 0, none⟩) (T.past.length + 1) cap)) (fun b hb => Below.heap_setCell _ _ _ _ (by
        obtain rfl : g = b := by simpa [Value.ownBlock] using hb
        exact hgne))
      simpa [TS.begun, CallR.cells] using this
    s_bt := .inl h.s_bt
    s_lk := .inl h.s_lk
    s_ck := .inl h.s_ck
    r_bw := h.r_bw
    s_ba := .inl h.s_ba
    s_hb := .inl h.s_hb
    s_vb := .inl h.s_vb
    s_tb := .inl h.s_tb
    s_pv := fun b hb => by
      obtain rfl : g = b := by simpa [TS.begun, Value.ownBlock] using hb
      rcases hat3 with h' | h'
      · exact .inl (hpS _ h')
      · refine .inr ⟨?_, ?_⟩
        · simp at h'; omega
        · simpa [World.setCell] using hlt3
    s_hand := by
      intro p hp
      have hp' : p ∈ T.hands ++ [(i, (⟨w1.heap.size + 1, T.past.length, 0, false, 0⟩ : Hand))] := hput ▸ hp
      rcases List.mem_append.1 hp' with hp' | hp'
      · exact .inl (h.s_hand p hp')
      · obtain rfl := List.mem_singleton.1 hp'
        exact .inr ⟨by show w.heap.size ≤ w1.heap.size + 1; omega, hblk.lt⟩
    lt := fun b hb => by
      rcases hb with hb | hb
      · have := h.lt b hb; omega
      · exact hb.2
    ltR := fun b hb => by have := h.ltR b hb; omega
    dis := fun b hb hn => by
      rcases hn with hn | hn
      · exact h.dis b hb hn
      · have := h.ltR b hb; omega
    ne1 := h.ne1
    ne2 := h.ne2
    ne3 := h.ne3
    ne4 := by
      show ((mput T.hands i (⟨w1.heap.size + 1, T.past.length, 0, false, 0⟩ : Hand)).map (fun p => p.2.blk)).Nodup
      rw [hput, List.map_append, List.nodup_append]
      refine ⟨h.ne4, by simp, ?_⟩
      intro x hx y hy
      obtain ⟨p, hp, rfl⟩ := List.mem_map.1 hx
      obtain rfl : y = w1.heap.size + 1 := by simpa using hy
      have := h.lt _ (h.s_hand p hp)
      omega
    len_at := h.len_at
    len_w := h.len_w
    len_sh := h.len_sh
    len_a := h.len_a
    len_k := h.len_k }
end Go.Proofs.Ytimkoepaeebleaa
