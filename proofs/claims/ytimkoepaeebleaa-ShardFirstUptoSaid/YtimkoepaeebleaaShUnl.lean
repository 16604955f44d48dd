/- What becomes of a call when its shard is unlocked. -/
import Derived.Test.YtimkoepaeebleaaShSet
namespace Go.Proofs.Ytimkoepaeebleaa
open Go.RowKit

set_option maxRecDepth 100000 in
set_option maxHeartbeats 2000000 in
theorem unlocked_twice (w : World) (S R : Nat → Prop) (T : TS) (h : TableAt w S R T) (i k : Nat) (asks : List Ask) (a : Ask) (x : Hand) (c : CallR) (hi : T.work[i]? = some asks) (hk : T.at_[i]? = some k) (ha : asks[k]? = some a) (hx : mget T.hands i = some x) (hc : T.past[x.at_]? = some c) (hpast : T.past.length ≤ 1000000)
    (h1 : (a.kind == 1) = true) (hfd : x.found = true) :
    Calls Try.prog 53 #[.pointer (some ⟨T.bt, 0, none⟩), .int .i64 i, .pointer (some ⟨x.blk, 0, none⟩)] w (Ended w S R T i k x c 0 5) := by
  have hk2 : k ≤ 1000000 := by have := h.len_a i asks hi; have := (List.getElem?_eq_some_iff.1 ha).1; omega
  have HA := Lib.hid (fun W (hb : Below w.heap.size w W) => ask_in W S R T (h.below hb) i k asks a hi hk ha)
  have HE := Lib.hid (fun W (hb : Below w.heap.size w W) => ends_in W S R T (h.below hb) i k x c 0 5 hk hx hc hk2 hpast)
  have B := h.hand_cell hx
  have n1 := B.lt
  have d2 : w.cell? ⟨x.blk, 2, none⟩ = some (.bool x.found) := by rw [B.cell]; simp
  have d3 : w.cell? ⟨x.blk, 3, none⟩ = some (.int .i64 x.v) := by rw [B.cell]; simp
  rw [hfd] at d2
  clear h hi hk ha hx hc B
  go_enter Try.func53, Try.ntmps53
  go_wp2_with fail
  (go_at_call 42; refine (HA.out _ (by (repeat (first | with_reducible exact Below.refl _ _ | (with_reducible refine bl_drew ?_) | (with_reducible refine bl_drewN ?_) | (with_reducible refine bl_alloc ?_ ?_; (focus (first | omega | (simp; done) | (simp; omega)))) | (with_reducible refine bl_set ?_ ?_; (focus (first | omega | (simp; done) | (simp; omega)))) | (with_reducible refine bl_trans ?_ (by assumption) ?_; (focus (first | omega | (simp; done) | (simp; omega)))))))).mono ?_; rintro e w1 ⟨rfl, hb_w1⟩; obtain ⟨hc_w1, hf_w1⟩ := bcell hb_w1; have hz_w1 := hb_w1.size; try simp at hz_w1)
  have q1 : x.blk < w1.heap.size := by omega
  go_wp2_with fail
  refine (HE.out _ (by (repeat (first | with_reducible exact Below.refl _ _ | (with_reducible refine bl_drew ?_) | (with_reducible refine bl_drewN ?_) | (with_reducible refine bl_alloc ?_ ?_; (focus (first | omega | (simp; done) | (simp; omega)))) | (with_reducible refine bl_set ?_ ?_; (focus (first | omega | (simp; done) | (simp; omega)))) | (with_reducible refine bl_trans ?_ (by assumption) ?_; (focus (first | omega | (simp; done) | (simp; omega)))))))).mono ?_
  rintro e w2 ⟨rfl, hT, hC⟩
  go_wp2_with fail
  go_end0
  exact ⟨rfl, hT, (cg_alloc (cg_below hb_w1 (Chg.refl _ _))).trans hC⟩

set_option maxRecDepth 100000 in
set_option maxHeartbeats 2000000 in
theorem unlocked_put (w : World) (S R : Nat → Prop) (T : TS) (h : TableAt w S R T) (i k : Nat) (asks : List Ask) (a : Ask) (x : Hand) (c : CallR) (hi : T.work[i]? = some asks) (hk : T.at_[i]? = some k) (ha : asks[k]? = some a) (hx : mget T.hands i = some x) (hc : T.past[x.at_]? = some c) (hpast : T.past.length ≤ 1000000)
    (h1 : (a.kind == 1) = true) (hfd : x.found = false) :
    Calls Try.prog 53 #[.pointer (some ⟨T.bt, 0, none⟩), .int .i64 i, .pointer (some ⟨x.blk, 0, none⟩)] w (Ended w S R T i k x c 0 0) := by
  have hk2 : k ≤ 1000000 := by have := h.len_a i asks hi; have := (List.getElem?_eq_some_iff.1 ha).1; omega
  have HA := Lib.hid (fun W (hb : Below w.heap.size w W) => ask_in W S R T (h.below hb) i k asks a hi hk ha)
  have HE := Lib.hid (fun W (hb : Below w.heap.size w W) => ends_in W S R T (h.below hb) i k x c 0 0 hk hx hc hk2 hpast)
  have B := h.hand_cell hx
  have n1 := B.lt
  have d2 : w.cell? ⟨x.blk, 2, none⟩ = some (.bool x.found) := by rw [B.cell]; simp
  have d3 : w.cell? ⟨x.blk, 3, none⟩ = some (.int .i64 x.v) := by rw [B.cell]; simp
  rw [hfd] at d2
  clear h hi hk ha hx hc B
  go_enter Try.func53, Try.ntmps53
  go_wp2_with fail
  (go_at_call 42; refine (HA.out _ (by (repeat (first | with_reducible exact Below.refl _ _ | (with_reducible refine bl_drew ?_) | (with_reducible refine bl_drewN ?_) | (with_reducible refine bl_alloc ?_ ?_; (focus (first | omega | (simp; done) | (simp; omega)))) | (with_reducible refine bl_set ?_ ?_; (focus (first | omega | (simp; done) | (simp; omega)))) | (with_reducible refine bl_trans ?_ (by assumption) ?_; (focus (first | omega | (simp; done) | (simp; omega)))))))).mono ?_; rintro e w1 ⟨rfl, hb_w1⟩; obtain ⟨hc_w1, hf_w1⟩ := bcell hb_w1; have hz_w1 := hb_w1.size; try simp at hz_w1)
  have q1 : x.blk < w1.heap.size := by omega
  go_wp2_with fail
  refine (HE.out _ (by (repeat (first | with_reducible exact Below.refl _ _ | (with_reducible refine bl_drew ?_) | (with_reducible refine bl_drewN ?_) | (with_reducible refine bl_alloc ?_ ?_; (focus (first | omega | (simp; done) | (simp; omega)))) | (with_reducible refine bl_set ?_ ?_; (focus (first | omega | (simp; done) | (simp; omega)))) | (with_reducible refine bl_trans ?_ (by assumption) ?_; (focus (first | omega | (simp; done) | (simp; omega)))))))).mono ?_
  rintro e w2 ⟨rfl, hT, hC⟩
  go_wp2_with fail
  go_end0
  exact ⟨rfl, hT, (cg_alloc (cg_below hb_w1 (Chg.refl _ _))).trans hC⟩

set_option maxRecDepth 100000 in
set_option maxHeartbeats 2000000 in
theorem unlocked_got (w : World) (S R : Nat → Prop) (T : TS) (h : TableAt w S R T) (i k : Nat) (asks : List Ask) (a : Ask) (x : Hand) (c : CallR) (hi : T.work[i]? = some asks) (hk : T.at_[i]? = some k) (ha : asks[k]? = some a) (hx : mget T.hands i = some x) (hc : T.past[x.at_]? = some c) (hpast : T.past.length ≤ 1000000)
    (h1 : (a.kind == 1) = false) (hfd : x.found = true) :
    Calls Try.prog 53 #[.pointer (some ⟨T.bt, 0, none⟩), .int .i64 i, .pointer (some ⟨x.blk, 0, none⟩)] w (Ended w S R T i k x c x.v 0) := by
  have hk2 : k ≤ 1000000 := by have := h.len_a i asks hi; have := (List.getElem?_eq_some_iff.1 ha).1; omega
  have HA := Lib.hid (fun W (hb : Below w.heap.size w W) => ask_in W S R T (h.below hb) i k asks a hi hk ha)
  have HE := Lib.hid (fun W (hb : Below w.heap.size w W) => ends_in W S R T (h.below hb) i k x c x.v 0 hk hx hc hk2 hpast)
  have B := h.hand_cell hx
  have n1 := B.lt
  have d2 : w.cell? ⟨x.blk, 2, none⟩ = some (.bool x.found) := by rw [B.cell]; simp
  have d3 : w.cell? ⟨x.blk, 3, none⟩ = some (.int .i64 x.v) := by rw [B.cell]; simp
  rw [hfd] at d2
  clear h hi hk ha hx hc B
  go_enter Try.func53, Try.ntmps53
  go_wp2_with fail
  (go_at_call 42; refine (HA.out _ (by (repeat (first | with_reducible exact Below.refl _ _ | (with_reducible refine bl_drew ?_) | (with_reducible refine bl_drewN ?_) | (with_reducible refine bl_alloc ?_ ?_; (focus (first | omega | (simp; done) | (simp; omega)))) | (with_reducible refine bl_set ?_ ?_; (focus (first | omega | (simp; done) | (simp; omega)))) | (with_reducible refine bl_trans ?_ (by assumption) ?_; (focus (first | omega | (simp; done) | (simp; omega)))))))).mono ?_; rintro e w1 ⟨rfl, hb_w1⟩; obtain ⟨hc_w1, hf_w1⟩ := bcell hb_w1; have hz_w1 := hb_w1.size; try simp at hz_w1)
  have q1 : x.blk < w1.heap.size := by omega
  go_wp2_with fail
  refine (HE.out _ (by (repeat (first | with_reducible exact Below.refl _ _ | (with_reducible refine bl_drew ?_) | (with_reducible refine bl_drewN ?_) | (with_reducible refine bl_alloc ?_ ?_; (focus (first | omega | (simp; done) | (simp; omega)))) | (with_reducible refine bl_set ?_ ?_; (focus (first | omega | (simp; done) | (simp; omega)))) | (with_reducible refine bl_trans ?_ (by assumption) ?_; (focus (first | omega | (simp; done) | (simp; omega)))))))).mono ?_
  rintro e w2 ⟨rfl, hT, hC⟩
  go_wp2_with fail
  go_end0
  exact ⟨rfl, hT, (cg_alloc (cg_below hb_w1 (Chg.refl _ _))).trans hC⟩

set_option maxRecDepth 100000 in
set_option maxHeartbeats 2000000 in
theorem unlocked_none (w : World) (S R : Nat → Prop) (T : TS) (h : TableAt w S R T) (i k : Nat) (asks : List Ask) (a : Ask) (x : Hand) (c : CallR) (hi : T.work[i]? = some asks) (hk : T.at_[i]? = some k) (ha : asks[k]? = some a) (hx : mget T.hands i = some x) (hc : T.past[x.at_]? = some c) (hpast : T.past.length ≤ 1000000)
    (h1 : (a.kind == 1) = false) (hk2' : (a.kind == 2) = true) (hfd : x.found = false) :
    Calls Try.prog 53 #[.pointer (some ⟨T.bt, 0, none⟩), .int .i64 i, .pointer (some ⟨x.blk, 0, none⟩)] w (Ended w S R T i k x c 0 4) := by
  have hk2 : k ≤ 1000000 := by have := h.len_a i asks hi; have := (List.getElem?_eq_some_iff.1 ha).1; omega
  have HA := Lib.hid (fun W (hb : Below w.heap.size w W) => ask_in W S R T (h.below hb) i k asks a hi hk ha)
  have HE := Lib.hid (fun W (hb : Below w.heap.size w W) => ends_in W S R T (h.below hb) i k x c 0 4 hk hx hc hk2 hpast)
  have B := h.hand_cell hx
  have n1 := B.lt
  have d2 : w.cell? ⟨x.blk, 2, none⟩ = some (.bool x.found) := by rw [B.cell]; simp
  have d3 : w.cell? ⟨x.blk, 3, none⟩ = some (.int .i64 x.v) := by rw [B.cell]; simp
  rw [hfd] at d2
  clear h hi hk ha hx hc B
  go_enter Try.func53, Try.ntmps53
  go_wp2_with fail
  (go_at_call 42; refine (HA.out _ (by (repeat (first | with_reducible exact Below.refl _ _ | (with_reducible refine bl_drew ?_) | (with_reducible refine bl_drewN ?_) | (with_reducible refine bl_alloc ?_ ?_; (focus (first | omega | (simp; done) | (simp; omega)))) | (with_reducible refine bl_set ?_ ?_; (focus (first | omega | (simp; done) | (simp; omega)))) | (with_reducible refine bl_trans ?_ (by assumption) ?_; (focus (first | omega | (simp; done) | (simp; omega)))))))).mono ?_; rintro e w1 ⟨rfl, hb_w1⟩; obtain ⟨hc_w1, hf_w1⟩ := bcell hb_w1; have hz_w1 := hb_w1.size; try simp at hz_w1)
  have q1 : x.blk < w1.heap.size := by omega
  go_wp2_with fail
  refine (HE.out _ (by (repeat (first | with_reducible exact Below.refl _ _ | (with_reducible refine bl_drew ?_) | (with_reducible refine bl_drewN ?_) | (with_reducible refine bl_alloc ?_ ?_; (focus (first | omega | (simp; done) | (simp; omega)))) | (with_reducible refine bl_set ?_ ?_; (focus (first | omega | (simp; done) | (simp; omega)))) | (with_reducible refine bl_trans ?_ (by assumption) ?_; (focus (first | omega | (simp; done) | (simp; omega)))))))).mono ?_
  rintro e w2 ⟨rfl, hT, hC⟩
  go_wp2_with fail
  go_end0
  exact ⟨rfl, hT, (cg_alloc (cg_below hb_w1 (Chg.refl _ _))).trans hC⟩


def TS.hand (T : TS) (i : Nat) (x : Hand) : TS := { T with hands := mput T.hands i x }
def Handed (w : World) (S R : Nat → Prop) (T : TS) (i : Nat) (x : Hand) (e : Ending) (w' : World) : Prop :=
  e = .returned (.tuple #[]) ∧ TableAt w' S R (T.hand i x) ∧ Chg S w w'
set_option maxRecDepth 100000 in
set_option maxHeartbeats 2000000 in
theorem unlocked_wait (w : World) (S R : Nat → Prop) (T : TS) (h : TableAt w S R T) (i k : Nat) (asks : List Ask) (a : Ask) (x : Hand) (hi : T.work[i]? = some asks) (hk : T.at_[i]? = some k) (ha : asks[k]? = some a) (hx : mget T.hands i = some x)
    (h1 : (a.kind == 1) = false) (h2 : (a.kind == 2) = false) (hfd : x.found = false) :
    Calls Try.prog 53 #[.pointer (some ⟨T.bt, 0, none⟩), .int .i64 i, .pointer (some ⟨x.blk, 0, none⟩)] w (Handed w S R T i { x with next := 5 }) := by
  have HA := Lib.hid (fun W (hb : Below w.heap.size w W) => ask_in W S R T (h.below hb) i k asks a hi hk ha)
  have H := Lib.hid h
  have HX := Lib.hid hx
  have B := h.hand_cell hx
  have n1 := B.lt
  have d1 : w.cell? ⟨x.blk, 1, none⟩ = some (.int .i64 x.next) := by rw [B.cell]; simp
  have d2 : w.cell? ⟨x.blk, 2, none⟩ = some (.bool x.found) := by rw [B.cell]; simp
  rw [hfd] at d2
  have f1 := B.free
  have HB := Lib.hid B
  clear h hi hk ha hx B
  go_enter Try.func53, Try.ntmps53
  go_wp2_with fail
  (go_at_call 42; refine (HA.out _ (by (repeat (first | with_reducible exact Below.refl _ _ | (with_reducible refine bl_drew ?_) | (with_reducible refine bl_drewN ?_) | (with_reducible refine bl_alloc ?_ ?_; (focus (first | omega | (simp; done) | (simp; omega)))) | (with_reducible refine bl_set ?_ ?_; (focus (first | omega | (simp; done) | (simp; omega)))) | (with_reducible refine bl_trans ?_ (by assumption) ?_; (focus (first | omega | (simp; done) | (simp; omega)))))))).mono ?_; rintro e w1 ⟨rfl, hb_w1⟩; obtain ⟨hc_w1, hf_w1⟩ := bcell hb_w1; have hz_w1 := hb_w1.size; try simp at hz_w1)
  have q1 : x.blk < w1.heap.size := by omega
  go_wp2_with fail
  go_end0
  have h1' := H.out.below hb_w1
  have hX1 : mget T.hands i = some x := HX.out
  have hC1 : Chg (fun g => g = x.blk) w1 ((w1.setCell ⟨x.blk, 1, none⟩ (.int .i64 5)).alloc (.cells #[.int .i64 a.kind, .string a.key, .int .i64 a.value] 70)) := cg_alloc (cg_set (.inl rfl) (Chg.refl _ _))
  refine ⟨rfl, h1'.set_hand hX1 rfl hC1 (bk_alloc (bk_eq (bk_set (bk_below hb_w1 n1 HB.out)) rfl)), (cg_below hb_w1 (Chg.refl _ _)).then_ hC1 (fun b _ hb => ?_)⟩
  rw [hb]
  exact H.out.s_hand _ (mget_some_mem hX1)
end Go.Proofs.Ytimkoepaeebleaa
